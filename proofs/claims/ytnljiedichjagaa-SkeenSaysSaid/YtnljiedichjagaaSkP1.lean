/-
  The functions compute their specs; printed by a program.
-/
import Derived.Test.YtnljiedichjagaaSkSp
import Derived.Test.YtnljiedichjagaaGoL
import Derived.Test.YtnljiedichjagaaGoK
import Derived.Test.YtnljiedichjagaaGoI
import Derived.Test.YtnljiedichjagaaGoU
import Derived.Test.YtnljiedichjagaaGoS
import Derived.Test.YtnljiedichjagaaProg
namespace Go.Proofs.Ytnljiedichjagaa
open Go.RowKit Enc
set_option linter.unusedVariables false
set_option linter.unusedSimpArgs false
structure SkeenR where
  v : Skeen
  h2 : Sl
instance : Enc SkeenR := ⟨fun p => enc p.v.Me ++ (enc p.v.Clock ++ (enc p.h2)), 3, fun p => by simp only [List.length_append, Enc.len]; rfl, fun p => by simp only [List.all_append, Enc.one, Bool.and_self]⟩
theorem SkeenR.get_Me {p : SkeenR} {k : Nat} {ch : List Value} (h : Get (enc p.v.Me) k ch) : Get (enc p) (0 + k) ch := Get.off (Get.left h) (by omega)
theorem SkeenR.put_Me {p : SkeenR} {k : Nat} {vs : List Value} {y : Int} (h : Put (enc p.v.Me) k vs (enc y)) : Put (enc p) (0 + k) vs (enc ({ p with v := { p.v with Me := y } } : SkeenR)) := Put.off (cs' := enc ({ p with v := { p.v with Me := y } } : SkeenR)) (Put.left h) (by omega)
theorem SkeenR.get_Clock {p : SkeenR} {k : Nat} {ch : List Value} (h : Get (enc p.v.Clock) k ch) : Get (enc p) (1 + k) ch := Get.off (Get.right (m := 1) (Enc.len _) (Get.left h)) (by omega)
theorem SkeenR.put_Clock {p : SkeenR} {k : Nat} {vs : List Value} {y : Int} (h : Put (enc p.v.Clock) k vs (enc y)) : Put (enc p) (1 + k) vs (enc ({ p with v := { p.v with Clock := y } } : SkeenR)) := Put.off (cs' := enc ({ p with v := { p.v with Clock := y } } : SkeenR)) (Put.right (m := 1) (Enc.len _) (Put.left h)) (by omega)
theorem SkeenR.get_Wait {p : SkeenR} {k : Nat} {ch : List Value} (h : Get (enc p.h2) k ch) : Get (enc p) (2 + k) ch := Get.off (Get.right (m := 1) (Enc.len _) (Get.right (m := 1) (Enc.len _) h)) (by omega)
theorem SkeenR.put_Wait {p : SkeenR} {k : Nat} {vs : List Value} {y : Sl} {l : List Wait} (h : Put (enc p.h2) k vs (enc y)) : Put (enc p) (2 + k) vs (enc ({ p with v := { p.v with Wait := l }, h2 := y } : SkeenR)) := Put.off (cs' := enc ({ p with v := { p.v with Wait := l }, h2 := y } : SkeenR)) (Put.right (m := 1) (Enc.len _) (Put.right (m := 1) (Enc.len _) h)) (by omega)
def SkeenR.rel (w0 : World) (F : Frz) (L : List Item) (x : SkeenR) : Prop := Rd w0 F L x.h2 x.v.Wait
theorem SkeenR.mono {w0 : World} {F F' : Frz} {L L' : List Item} {x : SkeenR} (h : SkeenR.rel w0 F L x) (hF : FLe F F') (hL : L.Sublist L') : SkeenR.rel w0 F' L' x :=
  let h2 := h
  h2.mono hF hL
theorem All.monoSkeen {w0 : World} {F F' : Frz} {L L' : List Item} {rs : List SkeenR} (h : All SkeenR.rel w0 F L rs) (hF : FLe F F') (hL : L.Sublist L') : All SkeenR.rel w0 F' L' rs := fun x hx => SkeenR.mono (h x hx) hF hL
set_option maxRecDepth 20000 in
theorem eq61 (x y : Num) : ∀ w, (Op.equal 61 (.agg (enc x).toArray) (.agg (enc y).toArray)).run Try.prog w = .ok (decide (x = y)) w :=
  EqT.top (d := 10000) Try.isAgg61 Try.sizeOf61 rfl rfl (EqT.struct Try.isAgg61 Try.sizeOf61 rfl Try.runUnderlying61 (by kernel_rfl) (fun x y w => by
  refine Eq.trans (eqField (p := x.N) (q := y.N) rfl (EqT.int Try.isAgg3 Try.runUnderlying3) rfl ((Num.get_N (Get.here _)).off rfl) ((Num.get_N (Get.here _)).off rfl) (eqField (p := x.By) (q := y.By) rfl (EqT.int Try.isAgg3 Try.runUnderlying3) rfl ((Num.get_By (Get.here _)).off rfl) ((Num.get_By (Get.here _)).off rfl) (by rfl))) ?_
  congr 1
  rw [Bool.eq_iff_iff]; cases x; cases y; simp)) x y
set_option maxRecDepth 20000 in
theorem eq77 (x y : Wait) : ∀ w, (Op.equal 77 (.agg (enc x).toArray) (.agg (enc y).toArray)).run Try.prog w = .ok (decide (x = y)) w :=
  EqT.top (d := 10000) Try.isAgg77 Try.sizeOf77 rfl rfl (EqT.struct Try.isAgg77 Try.sizeOf77 rfl Try.runUnderlying77 (by kernel_rfl) (fun x y w => by
  refine Eq.trans (eqField (p := x.Id) (q := y.Id) rfl (EqT.int Try.isAgg3 Try.runUnderlying3) rfl ((Wait.get_Id (Get.here _)).off rfl) ((Wait.get_Id (Get.here _)).off rfl) (eqField (p := x.Num_) (q := y.Num_) rfl (EqT.struct Try.isAgg61 Try.sizeOf61 rfl Try.runUnderlying61 (by kernel_rfl) (fun x y w => by
  refine Eq.trans (eqField (p := x.N) (q := y.N) rfl (EqT.int Try.isAgg3 Try.runUnderlying3) rfl ((Num.get_N (Get.here _)).off rfl) ((Num.get_N (Get.here _)).off rfl) (eqField (p := x.By) (q := y.By) rfl (EqT.int Try.isAgg3 Try.runUnderlying3) rfl ((Num.get_By (Get.here _)).off rfl) ((Num.get_By (Get.here _)).off rfl) (by rfl))) ?_
  congr 1
  rw [Bool.eq_iff_iff]; cases x; cases y; simp)) rfl ((Wait.get_Num_ (Get.here _)).off rfl) ((Wait.get_Num_ (Get.here _)).off rfl) (eqField (p := x.Fixed) (q := y.Fixed) rfl (EqT.bool Try.isAgg4 Try.runUnderlying4) rfl ((Wait.get_Fixed (Get.here _)).off rfl) ((Wait.get_Fixed (Get.here _)).off rfl) (by rfl)))) ?_
  congr 1
  rw [Bool.eq_iff_iff]; cases x; cases y; simp)) x y
set_option maxRecDepth 20000 in
theorem partref_Less_sim {a0 : Num} {a1 : Num} {r : Bool} (H : partref_Less a0 a1 = some r) (w0 : World) (F : Frz) (M L : List Item) (hM : M.Sublist L) : Ok Try.prog w0 38 [.agg (enc a0).toArray, .agg (enc a1).toArray] F (L) (Is (.bool r) (L)) := by
 unfold partref_Less at H
 refine Ok.enter (m := 2) (n := 24) Try.func38 rfl rfl rfl (by decide) ?_
 refine Cd.env (e' := [(0, .agg (enc a0).toArray), (1, .agg (enc a1).toArray)]) rfl ?_
 refine Cd.seq ?_
 refine Cd.region ?_
 refine Lst.box rfl rfl (by decide) rfl (cs := enc a0) rfl (fun b1 => ?_)
 refine Lst.box rfl rfl (by decide) rfl (cs := enc a1) rfl (fun b3 => ?_)
 refine Lst.r (Ev.assign rfl) ?_
 refine Lst.nil ?_
 refine At.then ?_
 refine Cd.seq ?_
 refine Cd.region ?_
 refine Lst.r (Ev.fieldAddr (off' := 0) rfl Try.runUnderlying61 rfl Try.sizeOf3 rfl rfl) ?_
 refine Lst.r (Ev.load (i := 1) rfl rfl Try.isAgg3 (v := iv a0.N) ((Num.get_N (Get.here _)).off (by rfl))) ?_
 refine Lst.r (Ev.fieldAddr (off' := 0) rfl Try.runUnderlying61 rfl Try.sizeOf3 rfl rfl) ?_
 refine Lst.r (Ev.load (i := 0) rfl rfl Try.isAgg3 (v := iv a1.N) ((Num.get_N (Get.here _)).off (by rfl))) ?_
 refine Lst.r (Ev.lss rfl rfl) ?_
 refine Lst.r (Ev.move rfl) ?_
 rcases Bool.eq_false_or_eq_true (decide (a0.N < a1.N)) with hb5 | hb5
 ·replace H := ite_t hb5 H
  refine Lst.skip rfl rfl rfl hb5 rfl (by decide) ?_
  refine Lst.skip rfl rfl rfl hb5 rfl (by decide) ?_
  refine Lst.skip rfl rfl rfl hb5 rfl (by decide) ?_
  refine Lst.skip rfl rfl rfl hb5 rfl (by decide) ?_
  refine Lst.skip rfl rfl rfl hb5 rfl (by decide) ?_
  refine Lst.skip rfl rfl rfl hb5 rfl (by decide) ?_
  refine Lst.skipU rfl rfl rfl rfl (by decide) ?_
  refine Lst.skipU rfl rfl rfl rfl (by decide) ?_
  refine Lst.skipU rfl rfl rfl rfl (by decide) ?_
  refine Lst.skipU rfl rfl rfl rfl (by decide) ?_
  refine Lst.skipU rfl rfl rfl rfl (by decide) ?_
  refine Lst.skip rfl rfl rfl hb5 rfl (by decide) ?_
  refine Lst.r (Ev.pickT rfl hb5 rfl) ?_
  refine Lst.r (Ev.assign rfl) ?_
  refine Lst.nil ?_
  refine At.then ?_
  obtain rfl := some_inj H
  refine Cd.ret ?_
  exact At.ret1 rfl (Res.tmp rfl) (FLe.refl _) (sc1 (sc1 (.refl _))) ⟨rfl, rfl⟩
 replace H := ite_f hb5 H
 refine Lst.rG hb5 (Ev.fieldAddr (off' := 0) rfl Try.runUnderlying61 rfl Try.sizeOf3 rfl rfl) ?_
 refine Lst.rG hb5 (Ev.load (i := 1) rfl rfl Try.isAgg3 (v := iv a0.N) ((Num.get_N (Get.here _)).off (by rfl))) ?_
 refine Lst.rG hb5 (Ev.fieldAddr (off' := 0) rfl Try.runUnderlying61 rfl Try.sizeOf3 rfl rfl) ?_
 refine Lst.rG hb5 (Ev.load (i := 0) rfl rfl Try.isAgg3 (v := iv a1.N) ((Num.get_N (Get.here _)).off (by rfl))) ?_
 refine Lst.rG hb5 (Ev.eql rfl rfl) ?_
 refine Lst.rG hb5 (Ev.move rfl) ?_
 obtain ⟨o6, H, HKo6⟩ := bind_some H
 refine Lst.join (σ := Bool) 6 (fun y7 => [(10, .bool (decide (a0.N < a1.N))), (22, .bool y7)]) (fun y7 => (.blk b3 (enc a1) 61) :: (.blk b1 (enc a0) 61) :: L) (fun _ y7 => y7 = o6) ?_ ?_
 ·rcases (Bool.eq_false_or_eq_true (a0.N == a1.N)).symm with hb8 | hb8
  ·replace H := ite_f hb8 H
   refine Lst.skip rfl rfl rfl hb8 rfl (by decide) ?_
   refine Lst.skip rfl rfl rfl hb8 rfl (by decide) ?_
   refine Lst.skip rfl rfl rfl hb8 rfl (by decide) ?_
   refine Lst.skip rfl rfl rfl hb8 rfl (by decide) ?_
   refine Lst.skip rfl rfl rfl hb8 rfl (by decide) ?_
   refine Lst.rG hb5 (Ev.pickF rfl hb8 rfl) ?_
   refine Lst.nil ?_
   exact At.meet false (FLe.refl _) ⟨rfl, rfl, trivial⟩ rfl (some_inj H)
  replace H := ite_t hb8 H
  refine Lst.rG hb8 (Ev.fieldAddr (off' := 1) rfl Try.runUnderlying61 rfl Try.sizeOf3 rfl rfl) ?_
  refine Lst.rG hb8 (Ev.load (i := 1) rfl rfl Try.isAgg3 (v := iv a0.By) ((Num.get_By (Get.here _)).off (by rfl))) ?_
  refine Lst.rG hb8 (Ev.fieldAddr (off' := 1) rfl Try.runUnderlying61 rfl Try.sizeOf3 rfl rfl) ?_
  refine Lst.rG hb8 (Ev.load (i := 0) rfl rfl Try.isAgg3 (v := iv a1.By) ((Num.get_By (Get.here _)).off (by rfl))) ?_
  refine Lst.rG hb8 (Ev.lss rfl rfl) ?_
  refine Lst.rG hb5 (Ev.pickT rfl hb8 rfl) ?_
  refine Lst.nil ?_
  exact At.meet (decide (a0.By < a1.By)) (FLe.refl _) ⟨rfl, rfl, trivial⟩ rfl (some_inj H)
 rintro F9 y7 hF10 hy
 subst hy
 refine Lst.as (e' := [(10, .bool (decide (a0.N < a1.N))), (22, .bool y7)]) (L' := (.blk b3 (enc a1) 61) :: (.blk b1 (enc a0) 61) :: L) ⟨rfl, rfl, trivial⟩ rfl ?_
 replace H := HKo6
 refine Lst.r (Ev.pickF rfl hb5 rfl) ?_
 refine Lst.r (Ev.assign rfl) ?_
 refine Lst.nil ?_
 refine At.then ?_
 obtain rfl := some_inj H
 refine Cd.ret ?_
 exact At.ret1 rfl (Res.tmp rfl) hF10 (sc1 (sc1 (.refl _))) ⟨rfl, rfl⟩
set_option maxRecDepth 20000 in
theorem partref_SkeenErr_1_sim {a0 : Wait} {a1 : Wait} {b_a1 : Nat} {r : Bool} (H : partref_SkeenErr_1 a0 a1 = some r) (w0 : World) (F : Frz) (M L : List Item) (hM : M.Sublist L) : Ok Try.prog w0 76 [.agg (enc a0).toArray, pv b_a1 0] F ((.blk b_a1 (enc a1) 77) :: L) (Is (.bool r) ((.blk b_a1 (enc a1) 77) :: L)) := by
 unfold partref_SkeenErr_1 at H
 refine Ok.enter (m := 2) (n := 9) Try.func76 rfl rfl rfl (by decide) ?_
 refine Cd.env (e' := [(0, .agg (enc a0).toArray), (1, pv b_a1 0)]) rfl ?_
 refine Cd.seq ?_
 refine Cd.region ?_
 refine Lst.box rfl rfl (by decide) rfl (cs := enc a0) rfl (fun b2 => ?_)
 refine Lst.r (Ev.assign rfl) ?_
 refine Lst.nil ?_
 refine At.then ?_
 refine Cd.seq ?_
 refine Cd.region ?_
 refine Lst.r (Ev.fieldAddr (off' := 0) rfl Try.runUnderlying77 rfl Try.sizeOf3 rfl rfl) ?_
 refine Lst.r (Ev.load (i := 0) rfl rfl Try.isAgg3 (v := iv a0.Id) ((Wait.get_Id (Get.here _)).off (by rfl))) ?_
 refine Lst.r (Ev.fieldAddr (off' := 0) rfl Try.runUnderlying77 rfl Try.sizeOf3 rfl rfl) ?_
 refine Lst.r (Ev.load (i := 1) rfl rfl Try.isAgg3 (v := iv a1.Id) ((Wait.get_Id (Get.here _)).off (by rfl))) ?_
 refine Lst.r (Ev.eql rfl rfl) ?_
 refine Lst.r (Ev.assign rfl) ?_
 refine Lst.nil ?_
 refine At.then ?_
 obtain rfl := some_inj H
 refine Cd.ret ?_
 exact At.ret1 rfl (Res.tmp rfl) (FLe.refl _) (sc1 (sk1 (.refl _))) ⟨rfl, rfl⟩
set_option maxRecDepth 20000 in
theorem slices_IndexFunc_api_Wait_api_Wait_SkeenErr_1_sim {a0 : List Wait} {a1_c0 : Wait} {s_a0 : Sl} {b_a1_c0 : Nat} {r : Int} (H : slices_IndexFunc_api_Wait_api_Wait_SkeenErr_1 a0 a1_c0 = some r) (w0 : World) (F : Frz) (M L : List Item) (hM : M.Sublist L) (hs_a0 : Rd w0 F M s_a0 a0) : Ok Try.prog w0 80 [Sl.v s_a0, .func (.func 76) #[] #[pv b_a1_c0 0]] F ((.blk b_a1_c0 (enc a1_c0) 77) :: L) (Is (iv r) ((.blk b_a1_c0 (enc a1_c0) 77) :: L)) := by
 unfold slices_IndexFunc_api_Wait_api_Wait_SkeenErr_1 at H
 refine Ok.enter (m := 2) (n := 19) Try.func80 rfl rfl rfl (by decide) ?_
 refine Cd.env (e' := [(0, Sl.v s_a0), (1, .func (.func 76) #[] #[pv b_a1_c0 0])]) rfl ?_
 refine Cd.seq ?_
 refine Cd.region ?_
 refine Lst.r (Ev.assign rfl) ?_
 refine Lst.nil ?_
 refine At.then ?_
 refine Cd.seq ?_
 refine Cd.seq ?_
 refine Cd.region ?_
 refine Lst.r (Ev.move rfl) ?_
 refine Lst.r (Ev.lenS (α := Wait) (xs := a0) (by decide) rfl rfl Try.runUnderlying57 (hs_a0.mono (FLe.refl _) (sc1 hM))) ?_
 refine Lst.r (Ev.move rfl) ?_
 refine Lst.nil ?_
 refine At.then ?_
 refine Cd.block ?_
 refine Cd.bound (Rd.le (α := Wait) (xs := a0) (by decide) (hs_a0.mono (FLe.refl _) (sc1 hM))) (fun hN13 => ?_)
 obtain ⟨ol2, H, HKl2⟩ := andThen_some H
 refine Cd.loop (σ := Nat × Nat × Unit) (fun (i2, k2, _u) => [(0, Sl.v s_a0), (1, .func (.func 76) #[] #[pv b_a1_c0 0]), (7, iv (a0.length : Int)), (8, iv (i2 : Int))]) (fun (i2, k2, _u) => (.blk b_a1_c0 (enc a1_c0) 77) :: L) (fun _ => (fun (i2, k2, _u) => rangeM (slices_IndexFunc_api_Wait_api_Wait_SkeenErr_1_B0 a0 a1_c0) k2 i2 () = some ol2 ∧ i2 + k2 = a0.length)) (fun (i2, k2, _u) => k2) (0, a0.length, ()) ⟨rfl, rfl, rfl, rfl, trivial⟩ rfl ⟨H, by omega⟩ ?_
 rintro F3 ⟨i2, k2, _u⟩ hF4 ⟨H, hik2⟩
 refine Cd.as (e' := [(0, Sl.v s_a0), (1, .func (.func 76) #[] #[pv b_a1_c0 0]), (7, iv (a0.length : Int)), (8, iv (i2 : Int))]) (L' := (.blk b_a1_c0 (enc a1_c0) 77) :: L) ⟨rfl, rfl, rfl, rfl, trivial⟩ rfl ?_
 rcases k2 with _ | k2
 ·have hc2 : decide ((i2 : Int) < (a0.length : Int)) = false := decide_eq_false (by omega)
  replace H := rangeM_end H
  refine Cd.seq ?_
  refine Cd.region ?_
  refine Lst.r (Ev.lss rfl rfl) ?_
  refine Lst.nil ?_
  refine At.then ?_
  refine Cd.seq ?_
  refine Cd.condF rfl hc2 ?_
  refine Cd.exit ?_
  refine At.then_exit ?_
  refine At.then_exit ?_
  refine At.in_exit ?_
  subst H
  replace H := HKl2
  refine At.then ?_
  refine Cd.seq ?_
  refine Cd.region ?_
  refine Lst.r (Ev.assign rfl) ?_
  refine Lst.nil ?_
  refine At.then ?_
  obtain rfl := some_inj H
  refine Cd.ret ?_
  exact At.ret1 rfl (Res.tmp rfl) hF4 (sk1 (.refl _)) ⟨rfl, rfl⟩
 have hc2 : decide ((i2 : Int) < (a0.length : Int)) = true := decide_eq_true (by omega)
 obtain ⟨c2, H, hgo2, hbrk2, hret2⟩ := rangeM_go H
 unfold slices_IndexFunc_api_Wait_api_Wait_SkeenErr_1_B0 at H
 try dsimp only at H
 refine Cd.seq ?_
 refine Cd.region ?_
 refine Lst.r (Ev.lss rfl rfl) ?_
 refine Lst.nil ?_
 refine At.then ?_
 refine Cd.seq ?_
 refine Cd.condT rfl hc2 ?_
 refine Cd.skip ?_
 refine At.then ?_
 refine Cd.seq ?_
 refine Cd.block ?_
 refine Cd.seq ?_
 refine Cd.region ?_
 refine Lst.r (Ev.move rfl) ?_
 refine Lst.r (Ev.assign rfl) ?_
 refine Lst.nil ?_
 refine At.then ?_
 refine Cd.seq ?_
 refine Cd.region ?_
 refine Lst.r (Ev.move rfl) ?_
 refine Lst.r (Ev.move rfl) ?_
 refine Lst.r (Ev.move rfl) ?_
 obtain ⟨x5, h6, H⟩ := bind_some H
 have g7 := lat_some h6
 refine Lst.r (Ev.indexS (α := Wait) (xs := a0) rfl rfl Try.runUnderlying57 Try.sizeOf77 rfl (by decide) (hs_a0.mono hF4 (sc1 hM)) g7.1 g7.2.1) ?_
 refine Lst.r (Ev.loadSA (α := Wait) rfl (hs_a0.mono hF4 (sc1 hM)) Try.isAgg77 Try.sizeOf77 (ch := enc x5) (Enc.len _) (by decide) ((Get.elemN (s := 4) (x := x5) rfl g7.2.2 (Get.here _)).off (by omega))) ?_
 obtain ⟨r8, h9, H⟩ := bind_some H
 refine Lst.callV1 rfl rfl (by decide) (vs := [.agg (enc x5).toArray]) (cs := [pv b_a1_c0 0]) rfl ⟨rfl, trivial⟩ Try.call76 (partref_SkeenErr_1_sim h9 w0 _ M _ hM) ?_
 refine Lst.nil ?_
 refine At.then ?_
 rcases Bool.eq_false_or_eq_true r8 with hb12 | hb12
 ·replace H := ite_t hb12 H
  refine Cd.condT rfl hb12 ?_
  refine Cd.seq ?_
  refine Cd.region ?_
  refine Lst.r (Ev.move rfl) ?_
  refine Lst.r (Ev.assign rfl) ?_
  refine Lst.nil ?_
  refine At.then ?_
  have H := hret2 _ (some_inj H).symm
  subst H
  replace H := HKl2
  obtain rfl := some_inj H
  refine Cd.ret ?_
  refine At.in_ret ?_
  refine At.then_ret ?_
  refine At.then_ret ?_
  refine At.in_ret ?_
  refine At.then_ret ?_
  exact At.ret1 rfl (Res.tmp rfl) hF4 (sk1 (.refl _)) ⟨rfl, rfl⟩
 replace H := ite_f hb12 H
 refine Cd.condF rfl hb12 ?_
 refine Cd.skip ?_
 refine At.in_normal ?_
 refine At.then ?_
 refine Cd.region ?_
 refine Lst.r (Ev.incr (by omega) rfl rfl) ?_
 refine Lst.r (Ev.move rfl) ?_
 refine Lst.nil ?_
 exact At.meet (i2 + 1, k2, ()) hF4 ⟨rfl, rfl, rfl, rfl, trivial⟩ rfl ⟨⟨hgo2 _ (some_inj H).symm, by omega⟩, Nat.lt_succ_self _⟩
set_option maxRecDepth 20000 in
theorem slices_ContainsFunc_api_Wait_api_Wait_SkeenErr_1_sim {a0 : List Wait} {a1_c0 : Wait} {s_a0 : Sl} {b_a1_c0 : Nat} {r : Bool} (H : slices_ContainsFunc_api_Wait_api_Wait_SkeenErr_1 a0 a1_c0 = some r) (w0 : World) (F : Frz) (M L : List Item) (hM : M.Sublist L) (hs_a0 : Rd w0 F M s_a0 a0) : Ok Try.prog w0 40 [Sl.v s_a0, .func (.func 76) #[] #[pv b_a1_c0 0]] F ((.blk b_a1_c0 (enc a1_c0) 77) :: L) (Is (.bool r) ((.blk b_a1_c0 (enc a1_c0) 77) :: L)) := by
 unfold slices_ContainsFunc_api_Wait_api_Wait_SkeenErr_1 at H
 refine Ok.enter (m := 2) (n := 9) Try.func40 rfl rfl rfl (by decide) ?_
 refine Cd.env (e' := [(0, Sl.v s_a0), (1, .func (.func 76) #[] #[pv b_a1_c0 0])]) rfl ?_
 refine Cd.seq ?_
 refine Cd.region ?_
 refine Lst.r (Ev.assign rfl) ?_
 refine Lst.nil ?_
 refine At.then ?_
 refine Cd.seq ?_
 refine Cd.region ?_
 refine Lst.r (Ev.move rfl) ?_
 refine Lst.r (Ev.move rfl) ?_
 obtain ⟨r2, h3, H⟩ := bind_some H
 refine Lst.call1 rfl rfl (by decide) (vs := [Sl.v s_a0, .func (.func 76) #[] #[pv b_a1_c0 0]]) ⟨rfl, rfl, trivial⟩ Try.call80 (slices_IndexFunc_api_Wait_api_Wait_SkeenErr_1_sim h3 w0 _ M _ hM (hs_a0.mono (FLe.refl _) (.refl _))) ?_
 refine Lst.r (Ev.geq rfl rfl) ?_
 refine Lst.r (Ev.assign rfl) ?_
 refine Lst.nil ?_
 refine At.then ?_
 obtain rfl := some_inj H
 refine Cd.ret ?_
 exact At.ret1 rfl (Res.tmp rfl) (FLe.refl _) (sk1 (.refl _)) ⟨rfl, rfl⟩
set_option maxRecDepth 20000 in
theorem partref_SkeenErr_sim {a0 : Skeen} {s_a0_2 : Sl} {r : Int} (H : partref_SkeenErr a0 = some r) (w0 : World) (F : Frz) (M L : List Item) (hM : M.Sublist L) (hs_a0_2 : Rd w0 F M s_a0_2 a0.Wait) : Ok Try.prog w0 30 [.agg (enc (SkeenR.mk a0 s_a0_2)).toArray] F (L) (Is (iv r) (L)) := by
 unfold partref_SkeenErr at H
 refine Ok.enter (m := 1) (n := 112) Try.func30 rfl rfl rfl (by decide) ?_
 refine Cd.env (e' := [(0, .agg (enc (SkeenR.mk a0 s_a0_2)).toArray)]) rfl ?_
 refine Cd.seq ?_
 refine Cd.region ?_
 refine Lst.box rfl rfl (by decide) rfl (cs := enc (SkeenR.mk a0 s_a0_2)) rfl (fun b1 => ?_)
 refine Lst.r (Ev.assign rfl) ?_
 refine Lst.nil ?_
 refine At.then ?_
 refine Cd.seq ?_
 refine Cd.seq ?_
 refine Cd.region ?_
 refine Lst.r (Ev.fieldAddr (off' := 0) rfl Try.runUnderlying59 rfl Try.sizeOf3 rfl rfl) ?_
 refine Lst.r (Ev.load (i := 0) rfl rfl Try.isAgg3 (v := iv a0.Me) ((SkeenR.get_Me (Get.here _)).off (by rfl))) ?_
 refine Lst.r (Ev.lss rfl rfl) ?_
 refine Lst.r (Ev.move rfl) ?_
 obtain ⟨o3, H, HKo3⟩ := bind_some H
 refine Lst.join (σ := Bool) 4 (fun y4 => [(1, pv b1 0), (12, .bool y4)]) (fun y4 => (.blk b1 (enc (SkeenR.mk a0 s_a0_2)) 59) :: L) (fun _ y4 => y4 = o3) ?_ ?_
 ·rcases Bool.eq_false_or_eq_true (decide (a0.Me < (0 : Int))) with hb5 | hb5
  ·replace H := ite_t hb5 H
   refine Lst.skip rfl rfl rfl hb5 rfl (by decide) ?_
   refine Lst.skip rfl rfl rfl hb5 rfl (by decide) ?_
   refine Lst.skip rfl rfl rfl hb5 rfl (by decide) ?_
   refine Lst.r (Ev.pickT rfl hb5 rfl) ?_
   refine Lst.nil ?_
   exact At.meet true (FLe.refl _) ⟨rfl, rfl, trivial⟩ rfl (some_inj H)
  replace H := ite_f hb5 H
  refine Lst.rG hb5 (Ev.fieldAddr (off' := 0) rfl Try.runUnderlying59 rfl Try.sizeOf3 rfl rfl) ?_
  refine Lst.rG hb5 (Ev.load (i := 0) rfl rfl Try.isAgg3 (v := iv a0.Me) ((SkeenR.get_Me (Get.here _)).off (by rfl))) ?_
  refine Lst.rG hb5 (Ev.gtr rfl rfl) ?_
  refine Lst.r (Ev.pickF rfl hb5 rfl) ?_
  refine Lst.nil ?_
  exact At.meet (decide (a0.Me > (5 : Int))) (FLe.refl _) ⟨rfl, rfl, trivial⟩ rfl (some_inj H)
 rintro F6 y4 hF7 hy
 subst hy
 refine Lst.as (e' := [(1, pv b1 0), (12, .bool y4)]) (L' := (.blk b1 (enc (SkeenR.mk a0 s_a0_2)) 59) :: L) ⟨rfl, rfl, trivial⟩ rfl ?_
 replace H := HKo3
 refine Lst.r (Ev.move rfl) ?_
 obtain ⟨o8, H, HKo8⟩ := bind_some H
 refine Lst.join (σ := Bool) 4 (fun y9 => [(1, pv b1 0), (17, .bool y9)]) (fun y9 => (.blk b1 (enc (SkeenR.mk a0 s_a0_2)) 59) :: L) (fun _ y9 => y9 = o8) ?_ ?_
 ·rcases Bool.eq_false_or_eq_true y4 with hb10 | hb10
  ·replace H := ite_t hb10 H
   refine Lst.skip rfl rfl rfl hb10 rfl (by decide) ?_
   refine Lst.skip rfl rfl rfl hb10 rfl (by decide) ?_
   refine Lst.skip rfl rfl rfl hb10 rfl (by decide) ?_
   refine Lst.r (Ev.pickT rfl hb10 rfl) ?_
   refine Lst.nil ?_
   exact At.meet true (FLe.refl _) ⟨rfl, rfl, trivial⟩ rfl (some_inj H)
  replace H := ite_f hb10 H
  refine Lst.rG hb10 (Ev.fieldAddr (off' := 1) rfl Try.runUnderlying59 rfl Try.sizeOf3 rfl rfl) ?_
  refine Lst.rG hb10 (Ev.load (i := 0) rfl rfl Try.isAgg3 (v := iv a0.Clock) ((SkeenR.get_Clock (Get.here _)).off (by rfl))) ?_
  refine Lst.rG hb10 (Ev.lss rfl rfl) ?_
  refine Lst.r (Ev.pickF rfl hb10 rfl) ?_
  refine Lst.nil ?_
  exact At.meet (decide (a0.Clock < (0 : Int))) (FLe.refl _) ⟨rfl, rfl, trivial⟩ rfl (some_inj H)
 rintro F11 y9 hF12 hy
 subst hy
 refine Lst.as (e' := [(1, pv b1 0), (17, .bool y9)]) (L' := (.blk b1 (enc (SkeenR.mk a0 s_a0_2)) 59) :: L) ⟨rfl, rfl, trivial⟩ rfl ?_
 replace H := HKo8
 refine Lst.r (Ev.move rfl) ?_
 obtain ⟨o13, H, HKo13⟩ := bind_some H
 refine Lst.join (σ := Bool) 4 (fun y14 => [(1, pv b1 0), (22, .bool y14)]) (fun y14 => (.blk b1 (enc (SkeenR.mk a0 s_a0_2)) 59) :: L) (fun _ y14 => y14 = o13) ?_ ?_
 ·rcases Bool.eq_false_or_eq_true y9 with hb15 | hb15
  ·replace H := ite_t hb15 H
   refine Lst.skip rfl rfl rfl hb15 rfl (by decide) ?_
   refine Lst.skip rfl rfl rfl hb15 rfl (by decide) ?_
   refine Lst.skip rfl rfl rfl hb15 rfl (by decide) ?_
   refine Lst.r (Ev.pickT rfl hb15 rfl) ?_
   refine Lst.nil ?_
   exact At.meet true (FLe.refl _) ⟨rfl, rfl, trivial⟩ rfl (some_inj H)
  replace H := ite_f hb15 H
  refine Lst.rG hb15 (Ev.fieldAddr (off' := 1) rfl Try.runUnderlying59 rfl Try.sizeOf3 rfl rfl) ?_
  refine Lst.rG hb15 (Ev.load (i := 0) rfl rfl Try.isAgg3 (v := iv a0.Clock) ((SkeenR.get_Clock (Get.here _)).off (by rfl))) ?_
  refine Lst.rG hb15 (Ev.gtr rfl rfl) ?_
  refine Lst.r (Ev.pickF rfl hb15 rfl) ?_
  refine Lst.nil ?_
  exact At.meet (decide (a0.Clock > (16777215 : Int))) (FLe.refl _) ⟨rfl, rfl, trivial⟩ rfl (some_inj H)
 rintro F16 y14 hF17 hy
 subst hy
 refine Lst.as (e' := [(1, pv b1 0), (22, .bool y14)]) (L' := (.blk b1 (enc (SkeenR.mk a0 s_a0_2)) 59) :: L) ⟨rfl, rfl, trivial⟩ rfl ?_
 replace H := HKo13
 refine Lst.nil ?_
 refine At.then ?_
 rcases Bool.eq_false_or_eq_true y14 with hb18 | hb18
 ·replace H := ite_t hb18 H
  refine Cd.condT rfl hb18 ?_
  refine Cd.seq ?_
  refine Cd.region ?_
  refine Lst.r (Ev.assign rfl) ?_
  refine Lst.nil ?_
  refine At.then ?_
  obtain rfl := some_inj H
  refine Cd.ret ?_
  refine At.then_ret ?_
  exact At.ret1 rfl (Res.tmp rfl) (FLe.trans (FLe.trans hF7 hF12) hF17) (sc1 (.refl _)) ⟨rfl, rfl⟩
 replace H := ite_f hb18 H
 refine Cd.condF rfl hb18 ?_
 refine Cd.skip ?_
 refine At.then ?_
 refine Cd.seq ?_
 refine Cd.seq ?_
 refine Cd.region ?_
 refine Lst.r (Ev.fieldAddr (off' := 2) rfl Try.runUnderlying59 rfl Try.sizeOf57 rfl rfl) ?_
 refine Lst.r (Ev.load (i := 0) rfl rfl Try.isAgg57 (v := Sl.v s_a0_2) ((SkeenR.get_Wait (Get.here _)).off (by rfl))) ?_
 refine Lst.r (Ev.lenS (α := Wait) (xs := a0.Wait) (by decide) rfl rfl Try.runUnderlying57 (hs_a0_2.mono (FLe.trans (FLe.trans hF7 hF12) hF17) (sc1 hM))) ?_
 refine Lst.r (Ev.gtr rfl rfl) ?_
 refine Lst.nil ?_
 refine At.then ?_
 rcases Bool.eq_false_or_eq_true (decide ((a0.Wait.length : Int) > (40 : Int))) with hb19 | hb19
 ·replace H := ite_t hb19 H
  refine Cd.condT rfl hb19 ?_
  refine Cd.seq ?_
  refine Cd.region ?_
  refine Lst.r (Ev.assign rfl) ?_
  refine Lst.nil ?_
  refine At.then ?_
  obtain rfl := some_inj H
  refine Cd.ret ?_
  refine At.then_ret ?_
  exact At.ret1 rfl (Res.tmp rfl) (FLe.trans (FLe.trans hF7 hF12) hF17) (sc1 (.refl _)) ⟨rfl, rfl⟩
 replace H := ite_f hb19 H
 refine Cd.condF rfl hb19 ?_
 refine Cd.skip ?_
 refine At.then ?_
 refine Cd.seq ?_
 refine Cd.seq ?_
 refine Cd.region ?_
 refine Lst.r (Ev.fieldAddr (off' := 2) rfl Try.runUnderlying59 rfl Try.sizeOf57 rfl rfl) ?_
 refine Lst.r (Ev.load (i := 0) rfl rfl Try.isAgg57 (v := Sl.v s_a0_2) ((SkeenR.get_Wait (Get.here _)).off (by rfl))) ?_
 refine Lst.r (Ev.lenS (α := Wait) (xs := a0.Wait) (by decide) rfl rfl Try.runUnderlying57 (hs_a0_2.mono (FLe.trans (FLe.trans hF7 hF12) hF17) (sc1 hM))) ?_
 refine Lst.r (Ev.move rfl) ?_
 refine Lst.nil ?_
 refine At.then ?_
 refine Cd.block ?_
 refine Cd.bound (Rd.le (α := Wait) (xs := a0.Wait) (by decide) (hs_a0_2.mono (FLe.trans (FLe.trans hF7 hF12) hF17) (sc1 hM))) (fun hN87 => ?_)
 obtain ⟨ol20, H, HKl20⟩ := andThen_some H
 refine Cd.loop (σ := Nat × Nat × Unit) (fun (i20, k20, _u) => [(1, pv b1 0), (28, Sl.v s_a0_2), (29, iv (a0.Wait.length : Int)), (30, iv (i20 : Int))]) (fun (i20, k20, _u) => (.blk b1 (enc (SkeenR.mk a0 s_a0_2)) 59) :: L) (fun _ => (fun (i20, k20, _u) => rangeM (partref_SkeenErr_B0 a0) k20 i20 () = some ol20 ∧ i20 + k20 = a0.Wait.length)) (fun (i20, k20, _u) => k20) (0, a0.Wait.length, ()) ⟨rfl, rfl, rfl, rfl, trivial⟩ rfl ⟨H, by omega⟩ ?_
 rintro F21 ⟨i20, k20, _u⟩ hF22 ⟨H, hik20⟩
 refine Cd.as (e' := [(1, pv b1 0), (28, Sl.v s_a0_2), (29, iv (a0.Wait.length : Int)), (30, iv (i20 : Int))]) (L' := (.blk b1 (enc (SkeenR.mk a0 s_a0_2)) 59) :: L) ⟨rfl, rfl, rfl, rfl, trivial⟩ rfl ?_
 rcases k20 with _ | k20
 ·have hc20 : decide ((i20 : Int) < (a0.Wait.length : Int)) = false := decide_eq_false (by omega)
  replace H := rangeM_end H
  refine Cd.seq ?_
  refine Cd.region ?_
  refine Lst.r (Ev.lss rfl rfl) ?_
  refine Lst.nil ?_
  refine At.then ?_
  refine Cd.seq ?_
  refine Cd.condF rfl hc20 ?_
  refine Cd.exit ?_
  refine At.then_exit ?_
  refine At.then_exit ?_
  refine At.in_exit ?_
  subst H
  replace H := HKl20
  refine At.then ?_
  refine Cd.seq ?_
  refine Cd.seq ?_
  refine Cd.region ?_
  refine Lst.r (Ev.fieldAddr (off' := 2) rfl Try.runUnderlying59 rfl Try.sizeOf57 rfl rfl) ?_
  refine Lst.r (Ev.load (i := 0) rfl rfl Try.isAgg57 (v := Sl.v s_a0_2) ((SkeenR.get_Wait (Get.here _)).off (by rfl))) ?_
  refine Lst.r (Ev.lenS (α := Wait) (xs := a0.Wait) (by decide) rfl rfl Try.runUnderlying57 (hs_a0_2.mono (FLe.trans (FLe.trans (FLe.trans hF7 hF12) hF17) hF22) (sc1 hM))) ?_
  refine Lst.r (Ev.gtr rfl rfl) ?_
  refine Lst.r (Ev.move rfl) ?_
  obtain ⟨o78, H, HKo78⟩ := bind_some H
  refine Lst.join (σ := Bool) 6 (fun y79 => [(111, .bool y79)]) (fun y79 => (.blk b1 (enc (SkeenR.mk a0 s_a0_2)) 59) :: L) (fun _ y79 => y79 = o78) ?_ ?_
  ·rcases (Bool.eq_false_or_eq_true (decide ((a0.Wait.length : Int) > (0 : Int)))).symm with hb80 | hb80
   ·replace H := ite_f hb80 H
    refine Lst.skip rfl rfl rfl hb80 rfl (by decide) ?_
    refine Lst.skip rfl rfl rfl hb80 rfl (by decide) ?_
    refine Lst.skip rfl rfl rfl hb80 rfl (by decide) ?_
    refine Lst.skip rfl rfl rfl hb80 rfl (by decide) ?_
    refine Lst.skip rfl rfl rfl hb80 rfl (by decide) ?_
    refine Lst.r (Ev.pickF rfl hb80 rfl) ?_
    refine Lst.nil ?_
    exact At.meet false (FLe.refl _) ⟨rfl, trivial⟩ rfl (some_inj H)
   replace H := ite_t hb80 H
   refine Lst.rG hb80 (Ev.fieldAddr (off' := 2) rfl Try.runUnderlying59 rfl Try.sizeOf57 rfl rfl) ?_
   refine Lst.rG hb80 (Ev.load (i := 0) rfl rfl Try.isAgg57 (v := Sl.v s_a0_2) ((SkeenR.get_Wait (Get.here _)).off (by rfl))) ?_
   obtain ⟨x81, h82, H⟩ := bind_some H
   have g83 := lat_some h82
   refine Lst.rG hb80 (Ev.indexS (α := Wait) (xs := a0.Wait) rfl rfl Try.runUnderlying57 Try.sizeOf77 rfl (by decide) (hs_a0_2.mono (FLe.trans (FLe.trans (FLe.trans hF7 hF12) hF17) hF22) (sc1 hM)) g83.1 g83.2.1) ?_
   refine Lst.rG hb80 (Ev.fieldS (α := Wait) (f' := (0 : Int).toNat * 4 + 3) rfl (hs_a0_2.mono (FLe.trans (FLe.trans (FLe.trans hF7 hF12) hF17) hF22) (sc1 hM)) ((Get.elemN (s := 4) (x := x81) rfl g83.2.2 (Get.here _)).off (by omega)) rfl Try.runUnderlying77 rfl Try.sizeOf4 rfl rfl rfl) ?_
   refine Lst.rG hb80 (Ev.loadS (α := Wait) rfl (hs_a0_2.mono (FLe.trans (FLe.trans (FLe.trans hF7 hF12) hF17) hF22) (sc1 hM)) Try.isAgg4 (v := .bool x81.Fixed) ((Get.elemN (s := 4) (x := x81) rfl g83.2.2 (Wait.get_Fixed (Get.here _))).off (by omega))) ?_
   refine Lst.r (Ev.pickT rfl hb80 rfl) ?_
   refine Lst.nil ?_
   exact At.meet x81.Fixed (FLe.refl _) ⟨rfl, trivial⟩ rfl (some_inj H)
  rintro F84 y79 hF85 hy
  subst hy
  refine Lst.as (e' := [(111, .bool y79)]) (L' := (.blk b1 (enc (SkeenR.mk a0 s_a0_2)) 59) :: L) ⟨rfl, trivial⟩ rfl ?_
  replace H := HKo78
  refine Lst.nil ?_
  refine At.then ?_
  rcases Bool.eq_false_or_eq_true y79 with hb86 | hb86
  ·replace H := ite_t hb86 H
   refine Cd.condT rfl hb86 ?_
   refine Cd.seq ?_
   refine Cd.region ?_
   refine Lst.r (Ev.assign rfl) ?_
   refine Lst.nil ?_
   refine At.then ?_
   obtain rfl := some_inj H
   refine Cd.ret ?_
   refine At.then_ret ?_
   exact At.ret1 rfl (Res.tmp rfl) (FLe.trans (FLe.trans (FLe.trans (FLe.trans hF7 hF12) hF17) hF22) hF85) (sc1 (.refl _)) ⟨rfl, rfl⟩
  replace H := ite_f hb86 H
  refine Cd.condF rfl hb86 ?_
  refine Cd.skip ?_
  refine At.then ?_
  refine Cd.seq ?_
  refine Cd.region ?_
  refine Lst.r (Ev.assign rfl) ?_
  refine Lst.nil ?_
  refine At.then ?_
  obtain rfl := some_inj H
  refine Cd.ret ?_
  exact At.ret1 rfl (Res.tmp rfl) (FLe.trans (FLe.trans (FLe.trans (FLe.trans hF7 hF12) hF17) hF22) hF85) (sc1 (.refl _)) ⟨rfl, rfl⟩
 have hc20 : decide ((i20 : Int) < (a0.Wait.length : Int)) = true := decide_eq_true (by omega)
 obtain ⟨c20, H, hgo20, hbrk20, hret20⟩ := rangeM_go H
 unfold partref_SkeenErr_B0 at H
 try dsimp only at H
 refine Cd.seq ?_
 refine Cd.region ?_
 refine Lst.r (Ev.lss rfl rfl) ?_
 refine Lst.nil ?_
 refine At.then ?_
 refine Cd.seq ?_
 refine Cd.condT rfl hc20 ?_
 refine Cd.skip ?_
 refine At.then ?_
 refine Cd.seq ?_
 refine Cd.block ?_
 refine Cd.seq ?_
 refine Cd.region ?_
 refine Lst.r (Ev.move rfl) ?_
 obtain ⟨x23, h24, H⟩ := bind_some H
 have g25 := lat_some h24
 refine Lst.r (Ev.indexS (α := Wait) (xs := a0.Wait) rfl rfl Try.runUnderlying57 Try.sizeOf77 rfl (by decide) (hs_a0_2.mono (FLe.trans (FLe.trans (FLe.trans hF7 hF12) hF17) hF22) (sc1 hM)) g25.1 g25.2.1) ?_
 refine Lst.r (Ev.loadSA (α := Wait) rfl (hs_a0_2.mono (FLe.trans (FLe.trans (FLe.trans hF7 hF12) hF17) hF22) (sc1 hM)) Try.isAgg77 Try.sizeOf77 (ch := enc x23) (Enc.len _) (by decide) ((Get.elemN (s := 4) (x := x23) rfl g25.2.2 (Get.here _)).off (by omega))) ?_
 refine Lst.alloc (cs := enc Wait.zero) rfl rfl (by decide) Try.zeroValue77 rfl (fun b26 => ?_)
 refine Lst.r (Ev.assign rfl) ?_
 refine Lst.store (i := 0) rfl rfl rfl rfl rfl Try.sizeOf77 (vs := enc x23) rfl (Enc.len _) (Enc.one _) (cs' := enc x23) (Put.here ((Enc.len _).trans (Enc.len _).symm)) (L' := (.blk b26 (enc x23) 77) :: (.blk b1 (enc (SkeenR.mk a0 s_a0_2)) 59) :: L) rfl ?_
 refine Lst.nil ?_
 refine At.then ?_
 refine Cd.seq ?_
 refine Cd.seq ?_
 refine Cd.region ?_
 refine Lst.r (Ev.fieldAddr (off' := 1) rfl Try.runUnderlying77 rfl Try.sizeOf61 rfl rfl) ?_
 refine Lst.r (Ev.fieldAddr (off' := 1) rfl Try.runUnderlying61 rfl Try.sizeOf3 rfl rfl) ?_
 refine Lst.r (Ev.load (i := 0) rfl rfl Try.isAgg3 (v := iv x23.Num_.N) ((Wait.get_Num_ (Num.get_N (Get.here _))).off (by rfl))) ?_
 refine Lst.r (Ev.lss rfl rfl) ?_
 refine Lst.r (Ev.move rfl) ?_
 obtain ⟨o28, H, HKo28⟩ := bind_some H
 refine Lst.join (σ := Bool) 7 (fun y29 => [(1, pv b1 0), (3, iv (i20 : Int)), (4, pv b26 0), (28, Sl.v s_a0_2), (29, iv (a0.Wait.length : Int)), (30, iv (i20 : Int)), (46, .bool y29)]) (fun y29 => (.blk b26 (enc x23) 77) :: (.blk b1 (enc (SkeenR.mk a0 s_a0_2)) 59) :: L) (fun _ y29 => y29 = o28) ?_ ?_
 ·rcases Bool.eq_false_or_eq_true (decide (x23.Num_.N < (1 : Int))) with hb30 | hb30
  ·replace H := ite_t hb30 H
   refine Lst.skip rfl rfl rfl hb30 rfl (by decide) ?_
   refine Lst.skip rfl rfl rfl hb30 rfl (by decide) ?_
   refine Lst.skip rfl rfl rfl hb30 rfl (by decide) ?_
   refine Lst.skip rfl rfl rfl hb30 rfl (by decide) ?_
   refine Lst.skip rfl rfl rfl hb30 rfl (by decide) ?_
   refine Lst.skip rfl rfl rfl hb30 rfl (by decide) ?_
   refine Lst.r (Ev.pickT rfl hb30 rfl) ?_
   refine Lst.nil ?_
   exact At.meet true (FLe.refl _) ⟨rfl, rfl, rfl, rfl, rfl, rfl, rfl, trivial⟩ rfl (some_inj H)
  replace H := ite_f hb30 H
  refine Lst.rG hb30 (Ev.fieldAddr (off' := 1) rfl Try.runUnderlying77 rfl Try.sizeOf61 rfl rfl) ?_
  refine Lst.rG hb30 (Ev.fieldAddr (off' := 1) rfl Try.runUnderlying61 rfl Try.sizeOf3 rfl rfl) ?_
  refine Lst.rG hb30 (Ev.load (i := 0) rfl rfl Try.isAgg3 (v := iv x23.Num_.N) ((Wait.get_Num_ (Num.get_N (Get.here _))).off (by rfl))) ?_
  refine Lst.rG hb30 (Ev.fieldAddr (off' := 1) rfl Try.runUnderlying59 rfl Try.sizeOf3 rfl rfl) ?_
  refine Lst.rG hb30 (Ev.load (i := 1) rfl rfl Try.isAgg3 (v := iv a0.Clock) ((SkeenR.get_Clock (Get.here _)).off (by rfl))) ?_
  refine Lst.rG hb30 (Ev.gtr rfl rfl) ?_
  refine Lst.r (Ev.pickF rfl hb30 rfl) ?_
  refine Lst.nil ?_
  exact At.meet (decide (x23.Num_.N > a0.Clock)) (FLe.refl _) ⟨rfl, rfl, rfl, rfl, rfl, rfl, rfl, trivial⟩ rfl (some_inj H)
 rintro F31 y29 hF32 hy
 subst hy
 refine Lst.as (e' := [(1, pv b1 0), (3, iv (i20 : Int)), (4, pv b26 0), (28, Sl.v s_a0_2), (29, iv (a0.Wait.length : Int)), (30, iv (i20 : Int)), (46, .bool y29)]) (L' := (.blk b26 (enc x23) 77) :: (.blk b1 (enc (SkeenR.mk a0 s_a0_2)) 59) :: L) ⟨rfl, rfl, rfl, rfl, rfl, rfl, rfl, trivial⟩ rfl ?_
 replace H := HKo28
 refine Lst.r (Ev.move rfl) ?_
 obtain ⟨o33, H, HKo33⟩ := bind_some H
 refine Lst.join (σ := Bool) 5 (fun y34 => [(1, pv b1 0), (3, iv (i20 : Int)), (4, pv b26 0), (28, Sl.v s_a0_2), (29, iv (a0.Wait.length : Int)), (30, iv (i20 : Int)), (52, .bool y34)]) (fun y34 => (.blk b26 (enc x23) 77) :: (.blk b1 (enc (SkeenR.mk a0 s_a0_2)) 59) :: L) (fun _ y34 => y34 = o33) ?_ ?_
 ·rcases Bool.eq_false_or_eq_true y29 with hb35 | hb35
  ·replace H := ite_t hb35 H
   refine Lst.skip rfl rfl rfl hb35 rfl (by decide) ?_
   refine Lst.skip rfl rfl rfl hb35 rfl (by decide) ?_
   refine Lst.skip rfl rfl rfl hb35 rfl (by decide) ?_
   refine Lst.skip rfl rfl rfl hb35 rfl (by decide) ?_
   refine Lst.r (Ev.pickT rfl hb35 rfl) ?_
   refine Lst.nil ?_
   exact At.meet true (FLe.refl _) ⟨rfl, rfl, rfl, rfl, rfl, rfl, rfl, trivial⟩ rfl (some_inj H)
  replace H := ite_f hb35 H
  refine Lst.rG hb35 (Ev.fieldAddr (off' := 1) rfl Try.runUnderlying77 rfl Try.sizeOf61 rfl rfl) ?_
  refine Lst.rG hb35 (Ev.fieldAddr (off' := 2) rfl Try.runUnderlying61 rfl Try.sizeOf3 rfl rfl) ?_
  refine Lst.rG hb35 (Ev.load (i := 0) rfl rfl Try.isAgg3 (v := iv x23.Num_.By) ((Wait.get_Num_ (Num.get_By (Get.here _))).off (by rfl))) ?_
  refine Lst.rG hb35 (Ev.lss rfl rfl) ?_
  refine Lst.r (Ev.pickF rfl hb35 rfl) ?_
  refine Lst.nil ?_
  exact At.meet (decide (x23.Num_.By < (0 : Int))) (FLe.refl _) ⟨rfl, rfl, rfl, rfl, rfl, rfl, rfl, trivial⟩ rfl (some_inj H)
 rintro F36 y34 hF37 hy
 subst hy
 refine Lst.as (e' := [(1, pv b1 0), (3, iv (i20 : Int)), (4, pv b26 0), (28, Sl.v s_a0_2), (29, iv (a0.Wait.length : Int)), (30, iv (i20 : Int)), (52, .bool y34)]) (L' := (.blk b26 (enc x23) 77) :: (.blk b1 (enc (SkeenR.mk a0 s_a0_2)) 59) :: L) ⟨rfl, rfl, rfl, rfl, rfl, rfl, rfl, trivial⟩ rfl ?_
 replace H := HKo33
 refine Lst.r (Ev.move rfl) ?_
 obtain ⟨o38, H, HKo38⟩ := bind_some H
 refine Lst.join (σ := Bool) 5 (fun y39 => [(1, pv b1 0), (3, iv (i20 : Int)), (4, pv b26 0), (28, Sl.v s_a0_2), (29, iv (a0.Wait.length : Int)), (30, iv (i20 : Int)), (58, .bool y39)]) (fun y39 => (.blk b26 (enc x23) 77) :: (.blk b1 (enc (SkeenR.mk a0 s_a0_2)) 59) :: L) (fun _ y39 => y39 = o38) ?_ ?_
 ·rcases Bool.eq_false_or_eq_true y34 with hb40 | hb40
  ·replace H := ite_t hb40 H
   refine Lst.skip rfl rfl rfl hb40 rfl (by decide) ?_
   refine Lst.skip rfl rfl rfl hb40 rfl (by decide) ?_
   refine Lst.skip rfl rfl rfl hb40 rfl (by decide) ?_
   refine Lst.skip rfl rfl rfl hb40 rfl (by decide) ?_
   refine Lst.r (Ev.pickT rfl hb40 rfl) ?_
   refine Lst.nil ?_
   exact At.meet true (FLe.refl _) ⟨rfl, rfl, rfl, rfl, rfl, rfl, rfl, trivial⟩ rfl (some_inj H)
  replace H := ite_f hb40 H
  refine Lst.rG hb40 (Ev.fieldAddr (off' := 1) rfl Try.runUnderlying77 rfl Try.sizeOf61 rfl rfl) ?_
  refine Lst.rG hb40 (Ev.fieldAddr (off' := 2) rfl Try.runUnderlying61 rfl Try.sizeOf3 rfl rfl) ?_
  refine Lst.rG hb40 (Ev.load (i := 0) rfl rfl Try.isAgg3 (v := iv x23.Num_.By) ((Wait.get_Num_ (Num.get_By (Get.here _))).off (by rfl))) ?_
  refine Lst.rG hb40 (Ev.gtr rfl rfl) ?_
  refine Lst.r (Ev.pickF rfl hb40 rfl) ?_
  refine Lst.nil ?_
  exact At.meet (decide (x23.Num_.By > (5 : Int))) (FLe.refl _) ⟨rfl, rfl, rfl, rfl, rfl, rfl, rfl, trivial⟩ rfl (some_inj H)
 rintro F41 y39 hF42 hy
 subst hy
 refine Lst.as (e' := [(1, pv b1 0), (3, iv (i20 : Int)), (4, pv b26 0), (28, Sl.v s_a0_2), (29, iv (a0.Wait.length : Int)), (30, iv (i20 : Int)), (58, .bool y39)]) (L' := (.blk b26 (enc x23) 77) :: (.blk b1 (enc (SkeenR.mk a0 s_a0_2)) 59) :: L) ⟨rfl, rfl, rfl, rfl, rfl, rfl, rfl, trivial⟩ rfl ?_
 replace H := HKo38
 refine Lst.r (Ev.move rfl) ?_
 obtain ⟨o43, H, HKo43⟩ := bind_some H
 refine Lst.join (σ := Bool) 4 (fun y44 => [(1, pv b1 0), (3, iv (i20 : Int)), (4, pv b26 0), (28, Sl.v s_a0_2), (29, iv (a0.Wait.length : Int)), (30, iv (i20 : Int)), (63, .bool y44)]) (fun y44 => (.blk b26 (enc x23) 77) :: (.blk b1 (enc (SkeenR.mk a0 s_a0_2)) 59) :: L) (fun _ y44 => y44 = o43) ?_ ?_
 ·rcases Bool.eq_false_or_eq_true y39 with hb45 | hb45
  ·replace H := ite_t hb45 H
   refine Lst.skip rfl rfl rfl hb45 rfl (by decide) ?_
   refine Lst.skip rfl rfl rfl hb45 rfl (by decide) ?_
   refine Lst.skip rfl rfl rfl hb45 rfl (by decide) ?_
   refine Lst.r (Ev.pickT rfl hb45 rfl) ?_
   refine Lst.nil ?_
   exact At.meet true (FLe.refl _) ⟨rfl, rfl, rfl, rfl, rfl, rfl, rfl, trivial⟩ rfl (some_inj H)
  replace H := ite_f hb45 H
  refine Lst.rG hb45 (Ev.fieldAddr (off' := 0) rfl Try.runUnderlying77 rfl Try.sizeOf3 rfl rfl) ?_
  refine Lst.rG hb45 (Ev.load (i := 0) rfl rfl Try.isAgg3 (v := iv x23.Id) ((Wait.get_Id (Get.here _)).off (by rfl))) ?_
  refine Lst.rG hb45 (Ev.lss rfl rfl) ?_
  refine Lst.r (Ev.pickF rfl hb45 rfl) ?_
  refine Lst.nil ?_
  exact At.meet (decide (x23.Id < (0 : Int))) (FLe.refl _) ⟨rfl, rfl, rfl, rfl, rfl, rfl, rfl, trivial⟩ rfl (some_inj H)
 rintro F46 y44 hF47 hy
 subst hy
 refine Lst.as (e' := [(1, pv b1 0), (3, iv (i20 : Int)), (4, pv b26 0), (28, Sl.v s_a0_2), (29, iv (a0.Wait.length : Int)), (30, iv (i20 : Int)), (63, .bool y44)]) (L' := (.blk b26 (enc x23) 77) :: (.blk b1 (enc (SkeenR.mk a0 s_a0_2)) 59) :: L) ⟨rfl, rfl, rfl, rfl, rfl, rfl, rfl, trivial⟩ rfl ?_
 replace H := HKo43
 refine Lst.nil ?_
 refine At.then ?_
 rcases Bool.eq_false_or_eq_true y44 with hb48 | hb48
 ·replace H := ite_t hb48 H
  refine Cd.condT rfl hb48 ?_
  refine Cd.seq ?_
  refine Cd.region ?_
  refine Lst.r (Ev.assign rfl) ?_
  refine Lst.nil ?_
  refine At.then ?_
  have H := hret20 _ (some_inj H).symm
  subst H
  replace H := HKl20
  obtain rfl := some_inj H
  refine Cd.ret ?_
  refine At.then_ret ?_
  refine At.in_ret ?_
  refine At.then_ret ?_
  refine At.then_ret ?_
  refine At.in_ret ?_
  refine At.then_ret ?_
  exact At.ret1 rfl (Res.tmp rfl) (FLe.trans (FLe.trans (FLe.trans (FLe.trans (FLe.trans (FLe.trans (FLe.trans hF7 hF12) hF17) hF22) hF32) hF37) hF42) hF47) (sc1 (sc1 (.refl _))) ⟨rfl, rfl⟩
 replace H := ite_f hb48 H
 refine Cd.condF rfl hb48 ?_
 refine Cd.skip ?_
 refine At.then ?_
 refine Cd.seq ?_
 refine Cd.quiet (by kernel_rfl) (by kernel_rfl) ?_
 refine Qt.r (Ev.fieldAddr (off' := 3) rfl Try.runUnderlying77 rfl Try.sizeOf4 rfl rfl) ?_
 refine Qt.r (Ev.load (i := 0) rfl rfl Try.isAgg4 (v := .bool x23.Fixed) ((Wait.get_Fixed (Get.here _)).off (by rfl))) ?_
 refine Qt.r (Ev.not rfl) ?_
 refine Qt.r (Ev.move rfl) ?_
 obtain ⟨o49, H, HKo49⟩ := bind_some H
 refine Qt.join (σ := Bool) 7 (fun y50 => [(1, pv b1 0), (3, iv (i20 : Int)), (4, pv b26 0), (28, Sl.v s_a0_2), (29, iv (a0.Wait.length : Int)), (30, iv (i20 : Int)), (74, .bool y50)]) (fun y50 => y50 = o49) ?_ ?_
 ·rcases (Bool.eq_false_or_eq_true (!x23.Fixed)).symm with hb51 | hb51
  ·replace H := ite_f hb51 H
   refine Qt.skip rfl rfl rfl hb51 rfl (by decide) ?_
   refine Qt.skip rfl rfl rfl hb51 rfl (by decide) ?_
   refine Qt.skip rfl rfl rfl hb51 rfl (by decide) ?_
   refine Qt.skip rfl rfl rfl hb51 rfl (by decide) ?_
   refine Qt.skip rfl rfl rfl hb51 rfl (by decide) ?_
   refine Qt.skip rfl rfl rfl hb51 rfl (by decide) ?_
   refine Qt.r (Ev.pickF rfl hb51 rfl) ?_
   exact Qt.meet false ⟨rfl, rfl, rfl, rfl, rfl, rfl, rfl, trivial⟩ (some_inj H)
  replace H := ite_t hb51 H
  refine Qt.rG hb51 (Ev.fieldAddr (off' := 1) rfl Try.runUnderlying77 rfl Try.sizeOf61 rfl rfl) ?_
  refine Qt.rG hb51 (Ev.fieldAddr (off' := 2) rfl Try.runUnderlying61 rfl Try.sizeOf3 rfl rfl) ?_
  refine Qt.rG hb51 (Ev.load (i := 0) rfl rfl Try.isAgg3 (v := iv x23.Num_.By) ((Wait.get_Num_ (Num.get_By (Get.here _))).off (by rfl))) ?_
  refine Qt.rG hb51 (Ev.fieldAddr (off' := 0) rfl Try.runUnderlying59 rfl Try.sizeOf3 rfl rfl) ?_
  refine Qt.rG hb51 (Ev.load (i := 1) rfl rfl Try.isAgg3 (v := iv a0.Me) ((SkeenR.get_Me (Get.here _)).off (by rfl))) ?_
  refine Qt.rG hb51 (Ev.neq rfl rfl) ?_
  refine Qt.r (Ev.pickT rfl hb51 rfl) ?_
  exact Qt.meet (x23.Num_.By != a0.Me) ⟨rfl, rfl, rfl, rfl, rfl, rfl, rfl, trivial⟩ (some_inj H)
 rintro y50 hy
 subst hy
 refine Qt.as (e' := [(1, pv b1 0), (3, iv (i20 : Int)), (4, pv b26 0), (28, Sl.v s_a0_2), (29, iv (a0.Wait.length : Int)), (30, iv (i20 : Int)), (74, .bool y50)]) ⟨rfl, rfl, rfl, rfl, rfl, rfl, rfl, trivial⟩ ?_
 replace H := HKo49
 refine Qt.r (Ev.move rfl) ?_
 obtain ⟨o52, H, HKo52⟩ := bind_some H
 refine Qt.join (σ := Bool) 16 (fun y53 => [(1, pv b1 0), (3, iv (i20 : Int)), (4, pv b26 0), (28, Sl.v s_a0_2), (29, iv (a0.Wait.length : Int)), (30, iv (i20 : Int)), (91, .bool y53)]) (fun y53 => y53 = o52) ?_ ?_
 ·rcases Bool.eq_false_or_eq_true y50 with hb54 | hb54
  ·replace H := ite_t hb54 H
   refine Qt.skip rfl rfl rfl hb54 rfl (by decide) ?_
   refine Qt.skip rfl rfl rfl hb54 rfl (by decide) ?_
   refine Qt.skip rfl rfl rfl hb54 rfl (by decide) ?_
   refine Qt.skipU rfl rfl rfl rfl (by decide) ?_
   refine Qt.skipU rfl rfl rfl rfl (by decide) ?_
   refine Qt.skipU rfl rfl rfl rfl (by decide) ?_
   refine Qt.skipU rfl rfl rfl rfl (by decide) ?_
   refine Qt.skipU rfl rfl rfl rfl (by decide) ?_
   refine Qt.skipU rfl rfl rfl rfl (by decide) ?_
   refine Qt.skipU rfl rfl rfl rfl (by decide) ?_
   refine Qt.skipU rfl rfl rfl rfl (by decide) ?_
   refine Qt.skipU rfl rfl rfl rfl (by decide) ?_
   refine Qt.skipU rfl rfl rfl rfl (by decide) ?_
   refine Qt.skipU rfl rfl rfl rfl (by decide) ?_
   refine Qt.skip rfl rfl rfl hb54 rfl (by decide) ?_
   refine Qt.r (Ev.pickT rfl hb54 rfl) ?_
   exact Qt.meet true ⟨rfl, rfl, rfl, rfl, rfl, rfl, rfl, trivial⟩ (some_inj H)
  replace H := ite_f hb54 H
  refine Qt.rG hb54 (Ev.move rfl) ?_
  refine Qt.rG hb54 (Ev.gtr rfl rfl) ?_
  refine Qt.rG hb54 (Ev.move rfl) ?_
  obtain ⟨o55, H, HKo55⟩ := bind_some H
  refine Qt.join (σ := Bool) 12 (fun y56 => [(1, pv b1 0), (3, iv (i20 : Int)), (4, pv b26 0), (28, Sl.v s_a0_2), (29, iv (a0.Wait.length : Int)), (30, iv (i20 : Int)), (75, .bool y50), (90, .bool y56)]) (fun y56 => y56 = o55) ?_ ?_
  ·rcases (Bool.eq_false_or_eq_true (decide ((i20 : Int) > (0 : Int)))).symm with hb57 | hb57
   ·replace H := ite_f hb57 H
    refine Qt.skip rfl rfl rfl hb57 rfl (by decide) ?_
    refine Qt.skip rfl rfl rfl hb57 rfl (by decide) ?_
    refine Qt.skip rfl rfl rfl hb57 rfl (by decide) ?_
    refine Qt.skip rfl rfl rfl hb57 rfl (by decide) ?_
    refine Qt.skip rfl rfl rfl hb57 rfl (by decide) ?_
    refine Qt.skip rfl rfl rfl hb57 rfl (by decide) ?_
    refine Qt.skip rfl rfl rfl hb57 rfl (by decide) ?_
    refine Qt.skip rfl rfl rfl hb57 rfl (by decide) ?_
    refine Qt.skip rfl rfl rfl hb57 rfl (by decide) ?_
    refine Qt.skip rfl rfl rfl hb57 rfl (by decide) ?_
    refine Qt.skip rfl rfl rfl hb57 rfl (by decide) ?_
    refine Qt.rG hb54 (Ev.pickF rfl hb57 rfl) ?_
    exact Qt.meet false ⟨rfl, rfl, rfl, rfl, rfl, rfl, rfl, rfl, trivial⟩ (some_inj H)
   replace H := ite_t hb57 H
   refine Qt.rG hb57 (Ev.fieldAddr (off' := 2) rfl Try.runUnderlying59 rfl Try.sizeOf57 rfl rfl) ?_
   refine Qt.rG hb57 (Ev.load (i := 1) rfl rfl Try.isAgg57 (v := Sl.v s_a0_2) ((SkeenR.get_Wait (Get.here _)).off (by rfl))) ?_
   refine Qt.rG hb57 (Ev.move rfl) ?_
   refine Qt.rG hb57 (Ev.sub rfl rfl) ?_
   obtain ⟨x58, h59, H⟩ := bind_some H
   have g60 := lat_some h59
   refine Qt.rG hb57 (Ev.indexS (α := Wait) (xs := a0.Wait) rfl rfl Try.runUnderlying57 Try.sizeOf77 rfl (by decide) (hs_a0_2.mono (FLe.trans (FLe.trans (FLe.trans (FLe.trans (FLe.trans (FLe.trans (FLe.trans hF7 hF12) hF17) hF22) hF32) hF37) hF42) hF47) (sc2 hM)) g60.1 g60.2.1) ?_
   refine Qt.rG hb57 (Ev.fieldS (α := Wait) (f' := (w64 ((i20 : Int) - (1 : Int))).toNat * 4 + 1) rfl (hs_a0_2.mono (FLe.trans (FLe.trans (FLe.trans (FLe.trans (FLe.trans (FLe.trans (FLe.trans hF7 hF12) hF17) hF22) hF32) hF37) hF42) hF47) (sc2 hM)) ((Get.elemN (s := 4) (x := x58) rfl g60.2.2 (Get.here _)).off (by omega)) rfl Try.runUnderlying77 rfl Try.sizeOf61 rfl rfl rfl) ?_
   refine Qt.rG hb57 (Ev.loadSA (α := Wait) rfl (hs_a0_2.mono (FLe.trans (FLe.trans (FLe.trans (FLe.trans (FLe.trans (FLe.trans (FLe.trans hF7 hF12) hF17) hF22) hF32) hF37) hF42) hF47) (sc2 hM)) Try.isAgg61 Try.sizeOf61 (ch := enc x58.Num_) (Enc.len _) (by decide) ((Get.elemN (s := 4) (x := x58) rfl g60.2.2 (Wait.get_Num_ (Get.here _))).off (by omega))) ?_
   refine Qt.rG hb57 (Ev.fieldAddr (off' := 1) rfl Try.runUnderlying77 rfl Try.sizeOf61 rfl rfl) ?_
   refine Qt.rG hb57 (Ev.loadA (i := 0) rfl rfl Try.isAgg61 Try.sizeOf61 (ch := enc x23.Num_) (Enc.len _) ((Wait.get_Num_ (Get.here _)).off (by rfl))) ?_
   obtain ⟨r61, h62, H⟩ := bind_some H
   refine Qt.callG rfl rfl rfl hb57 rfl (by decide) (vs := [.agg (enc x58.Num_).toArray, .agg (enc x23.Num_).toArray]) ⟨rfl, rfl, trivial⟩ Try.call38 (partref_Less_sim h62 w0 _ M _ (sc2 hM)) ?_
   refine Qt.rG hb57 (Ev.not rfl) ?_
   refine Qt.rG hb54 (Ev.pickT rfl hb57 rfl) ?_
   exact Qt.meet (!r61) ⟨rfl, rfl, rfl, rfl, rfl, rfl, rfl, rfl, trivial⟩ (some_inj H)
  rintro y56 hy
  subst hy
  refine Qt.as (e' := [(1, pv b1 0), (3, iv (i20 : Int)), (4, pv b26 0), (28, Sl.v s_a0_2), (29, iv (a0.Wait.length : Int)), (30, iv (i20 : Int)), (75, .bool y50), (90, .bool y56)]) ⟨rfl, rfl, rfl, rfl, rfl, rfl, rfl, rfl, trivial⟩ ?_
  replace H := HKo55
  refine Qt.r (Ev.pickF rfl hb54 rfl) ?_
  exact Qt.meet y56 ⟨rfl, rfl, rfl, rfl, rfl, rfl, rfl, trivial⟩ (some_inj H)
 rintro y53 hy
 subst hy
 refine Qt.as (e' := [(1, pv b1 0), (3, iv (i20 : Int)), (4, pv b26 0), (28, Sl.v s_a0_2), (29, iv (a0.Wait.length : Int)), (30, iv (i20 : Int)), (91, .bool y53)]) ⟨rfl, rfl, rfl, rfl, rfl, rfl, rfl, trivial⟩ ?_
 replace H := HKo52
 refine Qt.r (Ev.move rfl) ?_
 obtain ⟨o65, H, HKo65⟩ := bind_some H
 refine Qt.join (σ := Bool) 7 (fun y66 => [(1, pv b1 0), (28, Sl.v s_a0_2), (29, iv (a0.Wait.length : Int)), (30, iv (i20 : Int)), (99, .bool y66)]) (fun y66 => y66 = o65) ?_ ?_
 ·rcases Bool.eq_false_or_eq_true y53 with hb67 | hb67
  ·replace H := ite_t hb67 H
   refine Qt.skip rfl rfl rfl hb67 rfl (by decide) ?_
   refine Qt.skip rfl rfl rfl hb67 rfl (by decide) ?_
   refine Qt.skip rfl rfl rfl hb67 rfl (by decide) ?_
   refine Qt.skip rfl rfl rfl hb67 rfl (by decide) ?_
   refine Qt.skip rfl rfl rfl hb67 rfl (by decide) ?_
   refine Qt.skip rfl rfl rfl hb67 rfl (by decide) ?_
   refine Qt.r (Ev.pickT rfl hb67 rfl) ?_
   exact Qt.meet true ⟨rfl, rfl, rfl, rfl, rfl, trivial⟩ (some_inj H)
  replace H := ite_f hb67 H
  refine Qt.rG hb67 (Ev.fieldAddr (off' := 2) rfl Try.runUnderlying59 rfl Try.sizeOf57 rfl rfl) ?_
  refine Qt.rG hb67 (Ev.load (i := 1) rfl rfl Try.isAgg57 (v := Sl.v s_a0_2) ((SkeenR.get_Wait (Get.here _)).off (by rfl))) ?_
  refine Qt.rG hb67 (Ev.move rfl) ?_
  obtain ⟨m68, h69, H⟩ := bind_some H
  obtain ⟨g70, gl71⟩ := cutL_some h69
  try dsimp only at g70
  have hq72 : Rd w0 F M (s_a0_2.cut (0 : Int).toNat ((i20 : Int) : Int).toNat 4) m68 := by rw [← gl71]; exact Rd.cut (by decide) hs_a0_2 (by omega) (by omega)
  refine Qt.rG hb67 (Ev.cut (α := Wait) (xs := a0.Wait) (i := 0) (j := (i20 : Int)) rfl rfl rfl Try.runUnderlying57 Try.sizeOf77 rfl (by decide) (hs_a0_2.mono (FLe.trans (FLe.trans (FLe.trans (FLe.trans (FLe.trans (FLe.trans (FLe.trans hF7 hF12) hF17) hF22) hF32) hF37) hF42) hF47) (sc2 hM)) g70.1 g70.2.1 g70.2.2) ?_
  refine Qt.rG hb67 (Ev.makeFunc (us := []) (vs := [pv b26 0]) trivial ⟨rfl, trivial⟩) ?_
  obtain ⟨r73, h74, H⟩ := bind_some H
  refine Qt.callG rfl rfl rfl hb67 rfl (by decide) (vs := [Sl.v (s_a0_2.cut (0 : Int).toNat ((i20 : Int) : Int).toNat 4), .func (.func 76) #[] #[pv b26 0]]) ⟨rfl, rfl, trivial⟩ Try.call40 (slices_ContainsFunc_api_Wait_api_Wait_SkeenErr_1_sim h74 w0 _ M _ (sc1 hM) (hq72.mono (FLe.trans (FLe.trans (FLe.trans (FLe.trans (FLe.trans (FLe.trans (FLe.trans hF7 hF12) hF17) hF22) hF32) hF37) hF42) hF47) (.refl _))) ?_
  refine Qt.r (Ev.pickF rfl hb67 rfl) ?_
  exact Qt.meet r73 ⟨rfl, rfl, rfl, rfl, rfl, trivial⟩ (some_inj H)
 rintro y66 hy
 subst hy
 refine Qt.as (e' := [(1, pv b1 0), (28, Sl.v s_a0_2), (29, iv (a0.Wait.length : Int)), (30, iv (i20 : Int)), (99, .bool y66)]) ⟨rfl, rfl, rfl, rfl, rfl, trivial⟩ ?_
 replace H := HKo65
 refine Qt.done ?_
 refine At.then ?_
 rcases Bool.eq_false_or_eq_true y66 with hb77 | hb77
 ·replace H := ite_t hb77 H
  refine Cd.condT rfl hb77 ?_
  refine Cd.seq ?_
  refine Cd.region ?_
  refine Lst.r (Ev.assign rfl) ?_
  refine Lst.nil ?_
  refine At.then ?_
  have H := hret20 _ (some_inj H).symm
  subst H
  replace H := HKl20
  obtain rfl := some_inj H
  refine Cd.ret ?_
  refine At.in_ret ?_
  refine At.then_ret ?_
  refine At.then_ret ?_
  refine At.in_ret ?_
  refine At.then_ret ?_
  exact At.ret1 rfl (Res.tmp rfl) (FLe.trans (FLe.trans (FLe.trans (FLe.trans (FLe.trans (FLe.trans (FLe.trans hF7 hF12) hF17) hF22) hF32) hF37) hF42) hF47) (sc1 (sc1 (.refl _))) ⟨rfl, rfl⟩
 replace H := ite_f hb77 H
 refine Cd.condF rfl hb77 ?_
 refine Cd.skip ?_
 refine At.in_normal ?_
 refine At.then ?_
 refine Cd.region ?_
 refine Lst.r (Ev.incr (by omega) rfl rfl) ?_
 refine Lst.r (Ev.move rfl) ?_
 refine Lst.nil ?_
 refine At.less (L' := (.blk b1 (enc (SkeenR.mk a0 s_a0_2)) 59) :: L) (sc1 (sk1 (.refl _))) ?_
 exact At.meet (i20 + 1, k20, ()) (FLe.trans (FLe.trans (FLe.trans (FLe.trans hF22 hF32) hF37) hF42) hF47) ⟨rfl, rfl, rfl, rfl, trivial⟩ rfl ⟨⟨hgo20 _ (some_inj H).symm, by omega⟩, Nat.lt_succ_self _⟩
set_option maxRecDepth 20000 in
theorem skeen_in_sim {a0 : Int} {a1 : Int} {a2 : Int} {r : Bool} (H : skeen_in a0 a1 a2 = some r) (w0 : World) (F : Frz) (M L : List Item) (hM : M.Sublist L) : Ok Try.prog w0 79 [iv a0, iv a1, iv a2] F (L) (Is (.bool r) (L)) := by
 unfold skeen_in at H
 refine Ok.enter (m := 3) (n := 15) Try.func79 rfl rfl rfl (by decide) ?_
 refine Cd.env (e' := [(0, iv a0), (1, iv a1), (2, iv a2)]) rfl ?_
 refine Cd.seq ?_
 refine Cd.region ?_
 refine Lst.r (Ev.assign rfl) ?_
 refine Lst.nil ?_
 refine At.then ?_
 refine Cd.seq ?_
 refine Cd.region ?_
 refine Lst.r (Ev.move rfl) ?_
 refine Lst.r (Ev.move rfl) ?_
 refine Lst.r (Ev.geq rfl rfl) ?_
 refine Lst.r (Ev.move rfl) ?_
 obtain ⟨o1, H, HKo1⟩ := bind_some H
 refine Lst.join (σ := Bool) 4 (fun y2 => [(14, .bool y2)]) (fun y2 => L) (fun _ y2 => y2 = o1) ?_ ?_
 ·rcases (Bool.eq_false_or_eq_true (decide (a0 ≥ a1))).symm with hb3 | hb3
  ·replace H := ite_f hb3 H
   refine Lst.skip rfl rfl rfl hb3 rfl (by decide) ?_
   refine Lst.skip rfl rfl rfl hb3 rfl (by decide) ?_
   refine Lst.skip rfl rfl rfl hb3 rfl (by decide) ?_
   refine Lst.r (Ev.pickF rfl hb3 rfl) ?_
   refine Lst.nil ?_
   exact At.meet false (FLe.refl _) ⟨rfl, trivial⟩ rfl (some_inj H)
  replace H := ite_t hb3 H
  refine Lst.rG hb3 (Ev.move rfl) ?_
  refine Lst.rG hb3 (Ev.move rfl) ?_
  refine Lst.rG hb3 (Ev.leq rfl rfl) ?_
  refine Lst.r (Ev.pickT rfl hb3 rfl) ?_
  refine Lst.nil ?_
  exact At.meet (decide (a0 ≤ a2)) (FLe.refl _) ⟨rfl, trivial⟩ rfl (some_inj H)
 rintro F4 y2 hF5 hy
 subst hy
 refine Lst.as (e' := [(14, .bool y2)]) (L' := L) ⟨rfl, trivial⟩ rfl ?_
 replace H := HKo1
 refine Lst.r (Ev.assign rfl) ?_
 refine Lst.nil ?_
 refine At.then ?_
 obtain rfl := some_inj H
 refine Cd.ret ?_
 exact At.ret1 rfl (Res.tmp rfl) hF5 (.refl _) ⟨rfl, rfl⟩
set_option maxRecDepth 20000 in
theorem cmp_isNaN_int_sim {a0 : Int} {r : Bool} (H : cmp_isNaN_int a0 = some r) (w0 : World) (F : Frz) (M L : List Item) (hM : M.Sublist L) : Ok Try.prog w0 113 [iv a0] F (L) (Is (.bool r) (L)) := by
 unfold cmp_isNaN_int at H
 refine Ok.enter (m := 1) (n := 6) Try.func113 rfl rfl rfl (by decide) ?_
 refine Cd.env (e' := [(0, iv a0)]) rfl ?_
 refine Cd.seq ?_
 refine Cd.region ?_
 refine Lst.r (Ev.assign rfl) ?_
 refine Lst.nil ?_
 refine At.then ?_
 refine Cd.seq ?_
 refine Cd.region ?_
 refine Lst.r (Ev.move rfl) ?_
 refine Lst.r (Ev.move rfl) ?_
 refine Lst.r (Ev.neq rfl rfl) ?_
 refine Lst.r (Ev.assign rfl) ?_
 refine Lst.nil ?_
 refine At.then ?_
 obtain rfl := some_inj H
 refine Cd.ret ?_
 exact At.ret1 rfl (Res.tmp rfl) (FLe.refl _) (.refl _) ⟨rfl, rfl⟩
set_option maxRecDepth 20000 in
theorem cmp_Compare_int_sim {a0 : Int} {a1 : Int} {r : Int} (H : cmp_Compare_int a0 a1 = some r) (w0 : World) (F : Frz) (M L : List Item) (hM : M.Sublist L) : Ok Try.prog w0 98 [iv a0, iv a1] F (L) (Is (iv r) (L)) := by
 unfold cmp_Compare_int at H
 refine Ok.enter (m := 2) (n := 20) Try.func98 rfl rfl rfl (by decide) ?_
 refine Cd.env (e' := [(0, iv a0), (1, iv a1)]) rfl ?_
 refine Cd.seq ?_
 refine Cd.region ?_
 refine Lst.r (Ev.assign rfl) ?_
 refine Lst.nil ?_
 refine At.then ?_
 refine Cd.seq ?_
 refine Cd.region ?_
 refine Lst.r (Ev.move rfl) ?_
 obtain ⟨r1, h2, H⟩ := bind_some H
 refine Lst.call1 rfl rfl (by decide) (vs := [iv a0]) ⟨rfl, trivial⟩ Try.call113 (cmp_isNaN_int_sim h2 w0 _ M _ hM) ?_
 refine Lst.r (Ev.assign rfl) ?_
 refine Lst.nil ?_
 refine At.then ?_
 refine Cd.seq ?_
 refine Cd.region ?_
 refine Lst.r (Ev.move rfl) ?_
 obtain ⟨r5, h6, H⟩ := bind_some H
 refine Lst.call1 rfl rfl (by decide) (vs := [iv a1]) ⟨rfl, trivial⟩ Try.call113 (cmp_isNaN_int_sim h6 w0 _ M _ hM) ?_
 refine Lst.r (Ev.assign rfl) ?_
 refine Lst.nil ?_
 refine At.then ?_
 refine Cd.seq ?_
 refine Cd.seq ?_
 refine Cd.region ?_
 refine Lst.r (Ev.move rfl) ?_
 refine Lst.nil ?_
 refine At.then ?_
 rcases Bool.eq_false_or_eq_true r1 with hb9 | hb9
 ·replace H := ite_t hb9 H
  refine Cd.condT rfl hb9 ?_
  refine Cd.seq ?_
  refine Cd.seq ?_
  refine Cd.region ?_
  refine Lst.r (Ev.move rfl) ?_
  refine Lst.nil ?_
  refine At.then ?_
  rcases Bool.eq_false_or_eq_true r5 with hb10 | hb10
  ·replace H := ite_t hb10 H
   refine Cd.condT rfl hb10 ?_
   refine Cd.seq ?_
   refine Cd.region ?_
   refine Lst.r (Ev.assign rfl) ?_
   refine Lst.nil ?_
   refine At.then ?_
   obtain rfl := some_inj H
   refine Cd.ret ?_
   refine At.then_ret ?_
   refine At.then_ret ?_
   exact At.ret1 rfl (Res.tmp rfl) (FLe.refl _) (.refl _) ⟨rfl, rfl⟩
  replace H := ite_f hb10 H
  refine Cd.condF rfl hb10 ?_
  refine Cd.skip ?_
  refine At.then ?_
  refine Cd.seq ?_
  refine Cd.region ?_
  refine Lst.r (Ev.assign rfl) ?_
  refine Lst.nil ?_
  refine At.then ?_
  obtain rfl := some_inj H
  refine Cd.ret ?_
  refine At.then_ret ?_
  exact At.ret1 rfl (Res.tmp rfl) (FLe.refl _) (.refl _) ⟨rfl, rfl⟩
 replace H := ite_f hb9 H
 refine Cd.condF rfl hb9 ?_
 refine Cd.skip ?_
 refine At.then ?_
 refine Cd.seq ?_
 refine Cd.seq ?_
 refine Cd.region ?_
 refine Lst.r (Ev.move rfl) ?_
 refine Lst.nil ?_
 refine At.then ?_
 rcases Bool.eq_false_or_eq_true r5 with hb11 | hb11
 ·replace H := ite_t hb11 H
  refine Cd.condT rfl hb11 ?_
  refine Cd.seq ?_
  refine Cd.region ?_
  refine Lst.r (Ev.assign rfl) ?_
  refine Lst.nil ?_
  refine At.then ?_
  obtain rfl := some_inj H
  refine Cd.ret ?_
  refine At.then_ret ?_
  exact At.ret1 rfl (Res.tmp rfl) (FLe.refl _) (.refl _) ⟨rfl, rfl⟩
 replace H := ite_f hb11 H
 refine Cd.condF rfl hb11 ?_
 refine Cd.skip ?_
 refine At.then ?_
 refine Cd.seq ?_
 refine Cd.seq ?_
 refine Cd.region ?_
 refine Lst.r (Ev.move rfl) ?_
 refine Lst.r (Ev.move rfl) ?_
 refine Lst.r (Ev.lss rfl rfl) ?_
 refine Lst.nil ?_
 refine At.then ?_
 rcases Bool.eq_false_or_eq_true (decide (a0 < a1)) with hb12 | hb12
 ·replace H := ite_t hb12 H
  refine Cd.condT rfl hb12 ?_
  refine Cd.seq ?_
  refine Cd.region ?_
  refine Lst.r (Ev.assign rfl) ?_
  refine Lst.nil ?_
  refine At.then ?_
  obtain rfl := some_inj H
  refine Cd.ret ?_
  refine At.then_ret ?_
  exact At.ret1 rfl (Res.tmp rfl) (FLe.refl _) (.refl _) ⟨rfl, rfl⟩
 replace H := ite_f hb12 H
 refine Cd.condF rfl hb12 ?_
 refine Cd.skip ?_
 refine At.then ?_
 refine Cd.seq ?_
 refine Cd.seq ?_
 refine Cd.region ?_
 refine Lst.r (Ev.move rfl) ?_
 refine Lst.r (Ev.move rfl) ?_
 refine Lst.r (Ev.gtr rfl rfl) ?_
 refine Lst.nil ?_
 refine At.then ?_
 rcases Bool.eq_false_or_eq_true (decide (a0 > a1)) with hb13 | hb13
 ·replace H := ite_t hb13 H
  refine Cd.condT rfl hb13 ?_
  refine Cd.seq ?_
  refine Cd.as (e' := []) (L' := L) trivial rfl ?_
  refine Cd.region ?_
  refine Lst.r (Ev.assign rfl) ?_
  refine Lst.nil ?_
  refine At.then ?_
  obtain rfl := some_inj H
  refine Cd.ret ?_
  refine At.then_ret ?_
  exact At.ret1 rfl (Res.tmp rfl) (FLe.refl _) (.refl _) ⟨rfl, rfl⟩
 replace H := ite_f hb13 H
 refine Cd.condF rfl hb13 ?_
 refine Cd.skip ?_
 refine At.then ?_
 refine Cd.seq ?_
 refine Cd.as (e' := []) (L' := L) trivial rfl ?_
 refine Cd.region ?_
 refine Lst.r (Ev.assign rfl) ?_
 refine Lst.nil ?_
 refine At.then ?_
 obtain rfl := some_inj H
 refine Cd.ret ?_
 exact At.ret1 rfl (Res.tmp rfl) (FLe.refl _) (.refl _) ⟨rfl, rfl⟩
set_option maxRecDepth 20000 in
theorem cmp_Or_int_sim {a0 : List Int} {s_a0 : Sl} {r : Int} (H : cmp_Or_int a0 = some r) (w0 : World) (F : Frz) (M L : List Item) (hM : M.Sublist L) (hs_a0 : Rd w0 F M s_a0 a0) : Ok Try.prog w0 97 [Sl.v s_a0] F (L) (Is (iv r) (L)) := by
 unfold cmp_Or_int at H
 refine Ok.enter (m := 1) (n := 18) Try.func97 rfl rfl rfl (by decide) ?_
 refine Cd.env (e' := [(0, Sl.v s_a0)]) rfl ?_
 refine Cd.seq ?_
 refine Cd.region ?_
 refine Lst.r (Ev.assign rfl) ?_
 refine Lst.nil ?_
 refine At.then ?_
 refine Cd.seq ?_
 refine Cd.region ?_
 refine Lst.r (Ev.assign rfl) ?_
 refine Lst.nil ?_
 refine At.then ?_
 refine Cd.seq ?_
 refine Cd.seq ?_
 refine Cd.region ?_
 refine Lst.r (Ev.move rfl) ?_
 refine Lst.r (Ev.lenS (α := Int) (xs := a0) (by decide) rfl rfl Try.runUnderlying36 (hs_a0.mono (FLe.refl _) hM)) ?_
 refine Lst.r (Ev.move rfl) ?_
 refine Lst.nil ?_
 refine At.then ?_
 refine Cd.block ?_
 refine Cd.bound (Rd.le (α := Int) (xs := a0) (by decide) (hs_a0.mono (FLe.refl _) hM)) (fun hN8 => ?_)
 obtain ⟨ol1, H, HKl1⟩ := andThen_some H
 refine Cd.loop (σ := Nat × Nat × Unit) (fun (i1, k1, _u) => [(3, iv (0 : Int)), (6, Sl.v s_a0), (7, iv (a0.length : Int)), (8, iv (i1 : Int))]) (fun (i1, k1, _u) => L) (fun _ => (fun (i1, k1, _u) => rangeM (cmp_Or_int_B0 a0) k1 i1 () = some ol1 ∧ i1 + k1 = a0.length)) (fun (i1, k1, _u) => k1) (0, a0.length, ()) ⟨rfl, rfl, rfl, rfl, trivial⟩ rfl ⟨H, by omega⟩ ?_
 rintro F2 ⟨i1, k1, _u⟩ hF3 ⟨H, hik1⟩
 refine Cd.as (e' := [(3, iv (0 : Int)), (6, Sl.v s_a0), (7, iv (a0.length : Int)), (8, iv (i1 : Int))]) (L' := L) ⟨rfl, rfl, rfl, rfl, trivial⟩ rfl ?_
 rcases k1 with _ | k1
 ·have hc1 : decide ((i1 : Int) < (a0.length : Int)) = false := decide_eq_false (by omega)
  replace H := rangeM_end H
  refine Cd.seq ?_
  refine Cd.region ?_
  refine Lst.r (Ev.lss rfl rfl) ?_
  refine Lst.nil ?_
  refine At.then ?_
  refine Cd.seq ?_
  refine Cd.condF rfl hc1 ?_
  refine Cd.exit ?_
  refine At.then_exit ?_
  refine At.then_exit ?_
  refine At.in_exit ?_
  subst H
  replace H := HKl1
  refine At.then ?_
  refine Cd.seq ?_
  refine Cd.region ?_
  refine Lst.r (Ev.move rfl) ?_
  refine Lst.r (Ev.assign rfl) ?_
  refine Lst.nil ?_
  refine At.then ?_
  obtain rfl := some_inj H
  refine Cd.ret ?_
  exact At.ret1 rfl (Res.tmp rfl) hF3 (.refl _) ⟨rfl, rfl⟩
 have hc1 : decide ((i1 : Int) < (a0.length : Int)) = true := decide_eq_true (by omega)
 obtain ⟨c1, H, hgo1, hbrk1, hret1⟩ := rangeM_go H
 unfold cmp_Or_int_B0 at H
 try dsimp only at H
 refine Cd.seq ?_
 refine Cd.region ?_
 refine Lst.r (Ev.lss rfl rfl) ?_
 refine Lst.nil ?_
 refine At.then ?_
 refine Cd.seq ?_
 refine Cd.condT rfl hc1 ?_
 refine Cd.skip ?_
 refine At.then ?_
 refine Cd.seq ?_
 refine Cd.block ?_
 refine Cd.seq ?_
 refine Cd.region ?_
 obtain ⟨x4, h5, H⟩ := bind_some H
 have g6 := lat_some h5
 refine Lst.r (Ev.indexS (α := Int) (xs := a0) rfl rfl Try.runUnderlying36 Try.sizeOf3 rfl (by decide) (hs_a0.mono hF3 hM) g6.1 g6.2.1) ?_
 refine Lst.r (Ev.loadS (α := Int) rfl (hs_a0.mono hF3 hM) Try.isAgg3 (v := iv x4) ((Get.elemN (s := 1) (x := x4) rfl g6.2.2 (Get.here _)).off (by omega))) ?_
 refine Lst.r (Ev.assign rfl) ?_
 refine Lst.nil ?_
 refine At.then ?_
 refine Cd.seq ?_
 refine Cd.region ?_
 refine Lst.r (Ev.move rfl) ?_
 refine Lst.r (Ev.move rfl) ?_
 refine Lst.r (Ev.neq rfl rfl) ?_
 refine Lst.nil ?_
 refine At.then ?_
 rcases Bool.eq_false_or_eq_true (x4 != (0 : Int)) with hb7 | hb7
 ·replace H := ite_t hb7 H
  refine Cd.condT rfl hb7 ?_
  refine Cd.seq ?_
  refine Cd.region ?_
  refine Lst.r (Ev.move rfl) ?_
  refine Lst.r (Ev.assign rfl) ?_
  refine Lst.nil ?_
  refine At.then ?_
  have H := hret1 _ (some_inj H).symm
  subst H
  replace H := HKl1
  obtain rfl := some_inj H
  refine Cd.ret ?_
  refine At.in_ret ?_
  refine At.then_ret ?_
  refine At.then_ret ?_
  refine At.in_ret ?_
  refine At.then_ret ?_
  exact At.ret1 rfl (Res.tmp rfl) hF3 (.refl _) ⟨rfl, rfl⟩
 replace H := ite_f hb7 H
 refine Cd.condF rfl hb7 ?_
 refine Cd.skip ?_
 refine At.in_normal ?_
 refine At.then ?_
 refine Cd.region ?_
 refine Lst.r (Ev.incr (by omega) rfl rfl) ?_
 refine Lst.r (Ev.move rfl) ?_
 refine Lst.nil ?_
 exact At.meet (i1 + 1, k1, ()) hF3 ⟨rfl, rfl, rfl, rfl, trivial⟩ rfl ⟨⟨hgo1 _ (some_inj H).symm, by omega⟩, Nat.lt_succ_self _⟩
set_option maxRecDepth 20000 in
theorem skeen_compare_sim {a0 : Num} {a1 : Num} {r : Int} (H : skeen_compare a0 a1 = some r) (w0 : World) (F : Frz) (M L : List Item) (hM : M.Sublist L) : Ok Try.prog w0 82 [.agg (enc a0).toArray, .agg (enc a1).toArray] F (L) (Is (iv r) (L)) := by
 unfold skeen_compare at H
 refine Ok.enter (m := 2) (n := 17) Try.func82 rfl rfl rfl (by decide) ?_
 refine Cd.env (e' := [(0, .agg (enc a0).toArray), (1, .agg (enc a1).toArray)]) rfl ?_
 refine Cd.seq ?_
 refine Cd.region ?_
 refine Lst.box rfl rfl (by decide) rfl (cs := enc a0) rfl (fun b1 => ?_)
 refine Lst.box rfl rfl (by decide) rfl (cs := enc a1) rfl (fun b3 => ?_)
 refine Lst.r (Ev.assign rfl) ?_
 refine Lst.nil ?_
 refine At.then ?_
 refine Cd.seq ?_
 refine Cd.tail 10 (by kernel_rfl) (by kernel_rfl) ?_
 refine Qt.r (Ev.fieldAddr (off' := 0) rfl Try.runUnderlying61 rfl Try.sizeOf3 rfl rfl) ?_
 refine Qt.r (Ev.load (i := 1) rfl rfl Try.isAgg3 (v := iv a0.N) ((Num.get_N (Get.here _)).off (by rfl))) ?_
 refine Qt.r (Ev.fieldAddr (off' := 0) rfl Try.runUnderlying61 rfl Try.sizeOf3 rfl rfl) ?_
 refine Qt.r (Ev.load (i := 0) rfl rfl Try.isAgg3 (v := iv a1.N) ((Num.get_N (Get.here _)).off (by rfl))) ?_
 obtain ⟨r5, h6, H⟩ := bind_some H
 refine Qt.call rfl rfl (by decide) (vs := [iv a0.N, iv a1.N]) ⟨rfl, rfl, trivial⟩ Try.call98 (cmp_Compare_int_sim h6 w0 _ M _ (sc2 hM)) ?_
 refine Qt.r (Ev.fieldAddr (off' := 1) rfl Try.runUnderlying61 rfl Try.sizeOf3 rfl rfl) ?_
 refine Qt.r (Ev.load (i := 1) rfl rfl Try.isAgg3 (v := iv a0.By) ((Num.get_By (Get.here _)).off (by rfl))) ?_
 refine Qt.r (Ev.fieldAddr (off' := 1) rfl Try.runUnderlying61 rfl Try.sizeOf3 rfl rfl) ?_
 refine Qt.r (Ev.load (i := 0) rfl rfl Try.isAgg3 (v := iv a1.By) ((Num.get_By (Get.here _)).off (by rfl))) ?_
 obtain ⟨r9, h10, H⟩ := bind_some H
 refine Qt.call rfl rfl (by decide) (vs := [iv a0.By, iv a1.By]) ⟨rfl, rfl, trivial⟩ Try.call98 (cmp_Compare_int_sim h10 w0 _ M _ (sc2 hM)) ?_
 refine Qt.tail ?_
 refine Lst.buildSlice (α := Int) (xs := ([r5, r9] : List Int)) (pv := [(0, iv r5), (1, iv r9)]) rfl rfl (by decide) ⟨rfl, rfl, ⟨rfl, rfl, trivial⟩⟩ (run_buildSlice (α := Int) (z0 := (0 : Int)) (xs := ([r5, r9] : List Int)) Try.runUnderlying36 Try.sizeOf3 Try.zeroValue3 rfl rfl rfl (by decide) rfl (fill_cons (cs := encs (List.replicate 2 (0 : Int))) (cs' := encs ((List.replicate 2 (0 : Int)).set 0 r5)) (vs := [iv r5]) rfl rfl rfl ((Put.elemN (s := 1) (i := 0) (x := (0 : Int)) (y := r5) rfl rfl (Put.here (vs := [iv r5]) rfl)).off rfl) (fill_cons (cs := encs ((List.replicate 2 (0 : Int)).set 0 r5)) (cs' := encs (((List.replicate 2 (0 : Int)).set 0 r5).set 1 r9)) (vs := [iv r9]) rfl rfl rfl ((Put.elemN (s := 1) (i := 1) (x := (0 : Int)) (y := r9) rfl rfl (Put.here (vs := [iv r9]) rfl)).off rfl) fill_nil))) rfl rfl (by decide) (fun s13 _ => ?_)
 obtain ⟨r15, h16, H⟩ := bind_some H
 refine Lst.call1 rfl rfl (by decide) (vs := [Sl.v s13]) ⟨rfl, trivial⟩ Try.call97 (cmp_Or_int_sim h16 w0 _ _ _ (.refl _) (Rd.own (i := 0) rfl rfl rfl)) ?_
 refine Lst.r (Ev.assign rfl) ?_
 refine Lst.nil ?_
 refine At.then ?_
 obtain rfl := some_inj H
 refine Cd.ret ?_
 exact At.ret1 rfl (Res.tmp rfl) (FLe.refl _) (sc1 (sc1 (sc1 (.refl _)))) ⟨rfl, rfl⟩
set_option maxRecDepth 20000 in
theorem skeen_wait_1_sim {a0 : Wait} {a1 : Wait} {b_a1 : Nat} {r : Bool} (H : skeen_wait_1 a0 a1 = some r) (w0 : World) (F : Frz) (M L : List Item) (hM : M.Sublist L) : Ok Try.prog w0 111 [.agg (enc a0).toArray, pv b_a1 0] F ((.blk b_a1 (enc a1) 77) :: L) (Is (.bool r) ((.blk b_a1 (enc a1) 77) :: L)) := by
 unfold skeen_wait_1 at H
 refine Ok.enter (m := 2) (n := 9) Try.func111 rfl rfl rfl (by decide) ?_
 refine Cd.env (e' := [(0, .agg (enc a0).toArray), (1, pv b_a1 0)]) rfl ?_
 refine Cd.seq ?_
 refine Cd.region ?_
 refine Lst.box rfl rfl (by decide) rfl (cs := enc a0) rfl (fun b2 => ?_)
 refine Lst.r (Ev.assign rfl) ?_
 refine Lst.nil ?_
 refine At.then ?_
 refine Cd.seq ?_
 refine Cd.region ?_
 refine Lst.r (Ev.fieldAddr (off' := 0) rfl Try.runUnderlying77 rfl Try.sizeOf3 rfl rfl) ?_
 refine Lst.r (Ev.load (i := 0) rfl rfl Try.isAgg3 (v := iv a0.Id) ((Wait.get_Id (Get.here _)).off (by rfl))) ?_
 refine Lst.r (Ev.fieldAddr (off' := 0) rfl Try.runUnderlying77 rfl Try.sizeOf3 rfl rfl) ?_
 refine Lst.r (Ev.load (i := 1) rfl rfl Try.isAgg3 (v := iv a1.Id) ((Wait.get_Id (Get.here _)).off (by rfl))) ?_
 refine Lst.r (Ev.eql rfl rfl) ?_
 refine Lst.r (Ev.assign rfl) ?_
 refine Lst.nil ?_
 refine At.then ?_
 obtain rfl := some_inj H
 refine Cd.ret ?_
 exact At.ret1 rfl (Res.tmp rfl) (FLe.refl _) (sc1 (sk1 (.refl _))) ⟨rfl, rfl⟩
set_option maxRecDepth 20000 in
theorem slices_IndexFunc_api_Wait_api_Wait_wait_1_sim {a0 : List Wait} {a1_c0 : Wait} {s_a0 : Sl} {b_a1_c0 : Nat} {r : Int} (H : slices_IndexFunc_api_Wait_api_Wait_wait_1 a0 a1_c0 = some r) (w0 : World) (F : Frz) (M L : List Item) (hM : M.Sublist L) (hs_a0 : Rd w0 F M s_a0 a0) : Ok Try.prog w0 80 [Sl.v s_a0, .func (.func 111) #[] #[pv b_a1_c0 0]] F ((.blk b_a1_c0 (enc a1_c0) 77) :: L) (Is (iv r) ((.blk b_a1_c0 (enc a1_c0) 77) :: L)) := by
 unfold slices_IndexFunc_api_Wait_api_Wait_wait_1 at H
 refine Ok.enter (m := 2) (n := 19) Try.func80 rfl rfl rfl (by decide) ?_
 refine Cd.env (e' := [(0, Sl.v s_a0), (1, .func (.func 111) #[] #[pv b_a1_c0 0])]) rfl ?_
 refine Cd.seq ?_
 refine Cd.region ?_
 refine Lst.r (Ev.assign rfl) ?_
 refine Lst.nil ?_
 refine At.then ?_
 refine Cd.seq ?_
 refine Cd.seq ?_
 refine Cd.region ?_
 refine Lst.r (Ev.move rfl) ?_
 refine Lst.r (Ev.lenS (α := Wait) (xs := a0) (by decide) rfl rfl Try.runUnderlying57 (hs_a0.mono (FLe.refl _) (sc1 hM))) ?_
 refine Lst.r (Ev.move rfl) ?_
 refine Lst.nil ?_
 refine At.then ?_
 refine Cd.block ?_
 refine Cd.bound (Rd.le (α := Wait) (xs := a0) (by decide) (hs_a0.mono (FLe.refl _) (sc1 hM))) (fun hN13 => ?_)
 obtain ⟨ol2, H, HKl2⟩ := andThen_some H
 refine Cd.loop (σ := Nat × Nat × Unit) (fun (i2, k2, _u) => [(0, Sl.v s_a0), (1, .func (.func 111) #[] #[pv b_a1_c0 0]), (7, iv (a0.length : Int)), (8, iv (i2 : Int))]) (fun (i2, k2, _u) => (.blk b_a1_c0 (enc a1_c0) 77) :: L) (fun _ => (fun (i2, k2, _u) => rangeM (slices_IndexFunc_api_Wait_api_Wait_wait_1_B0 a0 a1_c0) k2 i2 () = some ol2 ∧ i2 + k2 = a0.length)) (fun (i2, k2, _u) => k2) (0, a0.length, ()) ⟨rfl, rfl, rfl, rfl, trivial⟩ rfl ⟨H, by omega⟩ ?_
 rintro F3 ⟨i2, k2, _u⟩ hF4 ⟨H, hik2⟩
 refine Cd.as (e' := [(0, Sl.v s_a0), (1, .func (.func 111) #[] #[pv b_a1_c0 0]), (7, iv (a0.length : Int)), (8, iv (i2 : Int))]) (L' := (.blk b_a1_c0 (enc a1_c0) 77) :: L) ⟨rfl, rfl, rfl, rfl, trivial⟩ rfl ?_
 rcases k2 with _ | k2
 ·have hc2 : decide ((i2 : Int) < (a0.length : Int)) = false := decide_eq_false (by omega)
  replace H := rangeM_end H
  refine Cd.seq ?_
  refine Cd.region ?_
  refine Lst.r (Ev.lss rfl rfl) ?_
  refine Lst.nil ?_
  refine At.then ?_
  refine Cd.seq ?_
  refine Cd.condF rfl hc2 ?_
  refine Cd.exit ?_
  refine At.then_exit ?_
  refine At.then_exit ?_
  refine At.in_exit ?_
  subst H
  replace H := HKl2
  refine At.then ?_
  refine Cd.seq ?_
  refine Cd.region ?_
  refine Lst.r (Ev.assign rfl) ?_
  refine Lst.nil ?_
  refine At.then ?_
  obtain rfl := some_inj H
  refine Cd.ret ?_
  exact At.ret1 rfl (Res.tmp rfl) hF4 (sk1 (.refl _)) ⟨rfl, rfl⟩
 have hc2 : decide ((i2 : Int) < (a0.length : Int)) = true := decide_eq_true (by omega)
 obtain ⟨c2, H, hgo2, hbrk2, hret2⟩ := rangeM_go H
 unfold slices_IndexFunc_api_Wait_api_Wait_wait_1_B0 at H
 try dsimp only at H
 refine Cd.seq ?_
 refine Cd.region ?_
 refine Lst.r (Ev.lss rfl rfl) ?_
 refine Lst.nil ?_
 refine At.then ?_
 refine Cd.seq ?_
 refine Cd.condT rfl hc2 ?_
 refine Cd.skip ?_
 refine At.then ?_
 refine Cd.seq ?_
 refine Cd.block ?_
 refine Cd.seq ?_
 refine Cd.region ?_
 refine Lst.r (Ev.move rfl) ?_
 refine Lst.r (Ev.assign rfl) ?_
 refine Lst.nil ?_
 refine At.then ?_
 refine Cd.seq ?_
 refine Cd.region ?_
 refine Lst.r (Ev.move rfl) ?_
 refine Lst.r (Ev.move rfl) ?_
 refine Lst.r (Ev.move rfl) ?_
 obtain ⟨x5, h6, H⟩ := bind_some H
 have g7 := lat_some h6
 refine Lst.r (Ev.indexS (α := Wait) (xs := a0) rfl rfl Try.runUnderlying57 Try.sizeOf77 rfl (by decide) (hs_a0.mono hF4 (sc1 hM)) g7.1 g7.2.1) ?_
 refine Lst.r (Ev.loadSA (α := Wait) rfl (hs_a0.mono hF4 (sc1 hM)) Try.isAgg77 Try.sizeOf77 (ch := enc x5) (Enc.len _) (by decide) ((Get.elemN (s := 4) (x := x5) rfl g7.2.2 (Get.here _)).off (by omega))) ?_
 obtain ⟨r8, h9, H⟩ := bind_some H
 refine Lst.callV1 rfl rfl (by decide) (vs := [.agg (enc x5).toArray]) (cs := [pv b_a1_c0 0]) rfl ⟨rfl, trivial⟩ Try.call111 (skeen_wait_1_sim h9 w0 _ M _ hM) ?_
 refine Lst.nil ?_
 refine At.then ?_
 rcases Bool.eq_false_or_eq_true r8 with hb12 | hb12
 ·replace H := ite_t hb12 H
  refine Cd.condT rfl hb12 ?_
  refine Cd.seq ?_
  refine Cd.region ?_
  refine Lst.r (Ev.move rfl) ?_
  refine Lst.r (Ev.assign rfl) ?_
  refine Lst.nil ?_
  refine At.then ?_
  have H := hret2 _ (some_inj H).symm
  subst H
  replace H := HKl2
  obtain rfl := some_inj H
  refine Cd.ret ?_
  refine At.in_ret ?_
  refine At.then_ret ?_
  refine At.then_ret ?_
  refine At.in_ret ?_
  refine At.then_ret ?_
  exact At.ret1 rfl (Res.tmp rfl) hF4 (sk1 (.refl _)) ⟨rfl, rfl⟩
 replace H := ite_f hb12 H
 refine Cd.condF rfl hb12 ?_
 refine Cd.skip ?_
 refine At.in_normal ?_
 refine At.then ?_
 refine Cd.region ?_
 refine Lst.r (Ev.incr (by omega) rfl rfl) ?_
 refine Lst.r (Ev.move rfl) ?_
 refine Lst.nil ?_
 exact At.meet (i2 + 1, k2, ()) hF4 ⟨rfl, rfl, rfl, rfl, trivial⟩ rfl ⟨⟨hgo2 _ (some_inj H).symm, by omega⟩, Nat.lt_succ_self _⟩
set_option maxRecDepth 20000 in
theorem slices_ContainsFunc_api_Wait_api_Wait_wait_1_sim {a0 : List Wait} {a1_c0 : Wait} {s_a0 : Sl} {b_a1_c0 : Nat} {r : Bool} (H : slices_ContainsFunc_api_Wait_api_Wait_wait_1 a0 a1_c0 = some r) (w0 : World) (F : Frz) (M L : List Item) (hM : M.Sublist L) (hs_a0 : Rd w0 F M s_a0 a0) : Ok Try.prog w0 40 [Sl.v s_a0, .func (.func 111) #[] #[pv b_a1_c0 0]] F ((.blk b_a1_c0 (enc a1_c0) 77) :: L) (Is (.bool r) ((.blk b_a1_c0 (enc a1_c0) 77) :: L)) := by
 unfold slices_ContainsFunc_api_Wait_api_Wait_wait_1 at H
 refine Ok.enter (m := 2) (n := 9) Try.func40 rfl rfl rfl (by decide) ?_
 refine Cd.env (e' := [(0, Sl.v s_a0), (1, .func (.func 111) #[] #[pv b_a1_c0 0])]) rfl ?_
 refine Cd.seq ?_
 refine Cd.region ?_
 refine Lst.r (Ev.assign rfl) ?_
 refine Lst.nil ?_
 refine At.then ?_
 refine Cd.seq ?_
 refine Cd.region ?_
 refine Lst.r (Ev.move rfl) ?_
 refine Lst.r (Ev.move rfl) ?_
 obtain ⟨r2, h3, H⟩ := bind_some H
 refine Lst.call1 rfl rfl (by decide) (vs := [Sl.v s_a0, .func (.func 111) #[] #[pv b_a1_c0 0]]) ⟨rfl, rfl, trivial⟩ Try.call80 (slices_IndexFunc_api_Wait_api_Wait_wait_1_sim h3 w0 _ M _ hM (hs_a0.mono (FLe.refl _) (.refl _))) ?_
 refine Lst.r (Ev.geq rfl rfl) ?_
 refine Lst.r (Ev.assign rfl) ?_
 refine Lst.nil ?_
 refine At.then ?_
 obtain rfl := some_inj H
 refine Cd.ret ?_
 exact At.ret1 rfl (Res.tmp rfl) (FLe.refl _) (sk1 (.refl _)) ⟨rfl, rfl⟩
set_option maxRecDepth 20000 in
theorem skeen_wait_sim {a0 : Skeen} {a1 : Int} {s_a0_2 : Sl} {r : Int} (H : skeen_wait a0 a1 = some r) (w0 : World) (F : Frz) (M L : List Item) (hM : M.Sublist L) (hs_a0_2 : Rd w0 F M s_a0_2 a0.Wait) : Ok Try.prog w0 87 [.agg (enc (SkeenR.mk a0 s_a0_2)).toArray, iv a1] F (L) (Is (iv r) (L)) := by
 unfold skeen_wait at H
 refine Ok.enter (m := 2) (n := 67) Try.func87 rfl rfl rfl (by decide) ?_
 refine Cd.env (e' := [(0, .agg (enc (SkeenR.mk a0 s_a0_2)).toArray), (1, iv a1)]) rfl ?_
 refine Cd.seq ?_
 refine Cd.region ?_
 refine Lst.box rfl rfl (by decide) rfl (cs := enc (SkeenR.mk a0 s_a0_2)) rfl (fun b1 => ?_)
 refine Lst.r (Ev.assign rfl) ?_
 refine Lst.nil ?_
 refine At.then ?_
 refine Cd.seq ?_
 refine Cd.region ?_
 refine Lst.r (Ev.fieldAddr (off' := 2) rfl Try.runUnderlying59 rfl Try.sizeOf57 rfl rfl) ?_
 refine Lst.r (Ev.load (i := 0) rfl rfl Try.isAgg57 (v := Sl.v s_a0_2) ((SkeenR.get_Wait (Get.here _)).off (by rfl))) ?_
 refine Lst.r (Ev.move rfl) ?_
 obtain ⟨x3, h4, H⟩ := bind_some H
 have g5 := lat_some h4
 refine Lst.r (Ev.indexS (α := Wait) (xs := a0.Wait) rfl rfl Try.runUnderlying57 Try.sizeOf77 rfl (by decide) (hs_a0_2.mono (FLe.refl _) (sc1 hM)) g5.1 g5.2.1) ?_
 refine Lst.r (Ev.loadSA (α := Wait) rfl (hs_a0_2.mono (FLe.refl _) (sc1 hM)) Try.isAgg77 Try.sizeOf77 (ch := enc x3) (Enc.len _) (by decide) ((Get.elemN (s := 4) (x := x3) rfl g5.2.2 (Get.here _)).off (by omega))) ?_
 refine Lst.alloc (cs := enc Wait.zero) rfl rfl (by decide) Try.zeroValue77 rfl (fun b6 => ?_)
 refine Lst.store (i := 0) rfl rfl rfl rfl rfl Try.sizeOf77 (vs := enc x3) rfl (Enc.len _) (Enc.one _) (cs' := enc x3) (Put.here ((Enc.len _).trans (Enc.len _).symm)) (L' := (.blk b6 (enc x3) 77) :: (.blk b1 (enc (SkeenR.mk a0 s_a0_2)) 59) :: L) rfl ?_
 refine Lst.nil ?_
 refine At.then ?_
 refine Cd.seq ?_
 refine Cd.block ?_
 refine Cd.seq ?_
 refine Cd.region ?_
 refine Lst.r (Ev.fieldAddr (off' := 1) rfl Try.runUnderlying77 rfl Try.sizeOf61 rfl rfl) ?_
 refine Lst.r (Ev.fieldAddr (off' := 1) rfl Try.runUnderlying61 rfl Try.sizeOf3 rfl rfl) ?_
 refine Lst.r (Ev.load (i := 0) rfl rfl Try.isAgg3 (v := iv x3.Num_.N) ((Wait.get_Num_ (Num.get_N (Get.here _))).off (by rfl))) ?_
 refine Lst.r (Ev.fieldAddr (off' := 1) rfl Try.runUnderlying59 rfl Try.sizeOf3 rfl rfl) ?_
 refine Lst.r (Ev.load (i := 1) rfl rfl Try.isAgg3 (v := iv a0.Clock) ((SkeenR.get_Clock (Get.here _)).off (by rfl))) ?_
 obtain ⟨r8, h9, H⟩ := bind_some H
 refine Lst.call1 rfl rfl (by decide) (vs := [iv x3.Num_.N, iv (1 : Int), iv a0.Clock]) ⟨rfl, rfl, rfl, trivial⟩ Try.call79 (skeen_in_sim h9 w0 _ M _ (sc2 hM)) ?_
 refine Lst.r (Ev.not rfl) ?_
 refine Lst.r (Ev.move rfl) ?_
 obtain ⟨o12, H, HKo12⟩ := bind_some H
 refine Lst.join (σ := Bool) 6 (fun y13 => [(1, iv a1), (2, pv b1 0), (5, pv b6 0), (25, .bool y13)]) (fun y13 => (.blk b6 (enc x3) 77) :: (.blk b1 (enc (SkeenR.mk a0 s_a0_2)) 59) :: L) (fun _ y13 => y13 = o12) ?_ ?_
 ·rcases Bool.eq_false_or_eq_true (!r8) with hb14 | hb14
  ·replace H := ite_t hb14 H
   refine Lst.skip rfl rfl rfl hb14 rfl (by decide) ?_
   refine Lst.skip rfl rfl rfl hb14 rfl (by decide) ?_
   refine Lst.skip rfl rfl rfl hb14 rfl (by decide) ?_
   refine Lst.skip rfl rfl rfl hb14 rfl (by decide) ?_
   refine Lst.skip rfl rfl rfl hb14 rfl (by decide) ?_
   refine Lst.r (Ev.pickT rfl hb14 rfl) ?_
   refine Lst.nil ?_
   exact At.meet true (FLe.refl _) ⟨rfl, rfl, rfl, rfl, trivial⟩ rfl (some_inj H)
  replace H := ite_f hb14 H
  refine Lst.rG hb14 (Ev.fieldAddr (off' := 1) rfl Try.runUnderlying77 rfl Try.sizeOf61 rfl rfl) ?_
  refine Lst.rG hb14 (Ev.fieldAddr (off' := 2) rfl Try.runUnderlying61 rfl Try.sizeOf3 rfl rfl) ?_
  refine Lst.rG hb14 (Ev.load (i := 0) rfl rfl Try.isAgg3 (v := iv x3.Num_.By) ((Wait.get_Num_ (Num.get_By (Get.here _))).off (by rfl))) ?_
  obtain ⟨r15, h16, H⟩ := bind_some H
  refine Lst.call1G rfl rfl rfl hb14 rfl (by decide) (vs := [iv x3.Num_.By, iv (0 : Int), iv (5 : Int)]) ⟨rfl, rfl, rfl, trivial⟩ Try.call79 (skeen_in_sim h16 w0 _ M _ (sc2 hM)) ?_
  refine Lst.rG hb14 (Ev.not rfl) ?_
  refine Lst.r (Ev.pickF rfl hb14 rfl) ?_
  refine Lst.nil ?_
  exact At.meet (!r15) (FLe.refl _) ⟨rfl, rfl, rfl, rfl, trivial⟩ rfl (some_inj H)
 rintro F19 y13 hF20 hy
 subst hy
 refine Lst.as (e' := [(1, iv a1), (2, pv b1 0), (5, pv b6 0), (25, .bool y13)]) (L' := (.blk b6 (enc x3) 77) :: (.blk b1 (enc (SkeenR.mk a0 s_a0_2)) 59) :: L) ⟨rfl, rfl, rfl, rfl, trivial⟩ rfl ?_
 replace H := HKo12
 refine Lst.r (Ev.move rfl) ?_
 obtain ⟨o21, H, HKo21⟩ := bind_some H
 refine Lst.join (σ := Bool) 4 (fun y22 => [(1, iv a1), (2, pv b1 0), (5, pv b6 0), (30, .bool y22)]) (fun y22 => (.blk b6 (enc x3) 77) :: (.blk b1 (enc (SkeenR.mk a0 s_a0_2)) 59) :: L) (fun _ y22 => y22 = o21) ?_ ?_
 ·rcases Bool.eq_false_or_eq_true y13 with hb23 | hb23
  ·replace H := ite_t hb23 H
   refine Lst.skip rfl rfl rfl hb23 rfl (by decide) ?_
   refine Lst.skip rfl rfl rfl hb23 rfl (by decide) ?_
   refine Lst.skip rfl rfl rfl hb23 rfl (by decide) ?_
   refine Lst.r (Ev.pickT rfl hb23 rfl) ?_
   refine Lst.nil ?_
   exact At.meet true (FLe.refl _) ⟨rfl, rfl, rfl, rfl, trivial⟩ rfl (some_inj H)
  replace H := ite_f hb23 H
  refine Lst.rG hb23 (Ev.fieldAddr (off' := 0) rfl Try.runUnderlying77 rfl Try.sizeOf3 rfl rfl) ?_
  refine Lst.rG hb23 (Ev.load (i := 0) rfl rfl Try.isAgg3 (v := iv x3.Id) ((Wait.get_Id (Get.here _)).off (by rfl))) ?_
  refine Lst.rG hb23 (Ev.lss rfl rfl) ?_
  refine Lst.r (Ev.pickF rfl hb23 rfl) ?_
  refine Lst.nil ?_
  exact At.meet (decide (x3.Id < (0 : Int))) (FLe.refl _) ⟨rfl, rfl, rfl, rfl, trivial⟩ rfl (some_inj H)
 rintro F24 y22 hF25 hy
 subst hy
 refine Lst.as (e' := [(1, iv a1), (2, pv b1 0), (5, pv b6 0), (30, .bool y22)]) (L' := (.blk b6 (enc x3) 77) :: (.blk b1 (enc (SkeenR.mk a0 s_a0_2)) 59) :: L) ⟨rfl, rfl, rfl, rfl, trivial⟩ rfl ?_
 replace H := HKo21
 refine Lst.r (Ev.assign rfl) ?_
 refine Lst.nil ?_
 refine At.then ?_
 rcases Bool.eq_false_or_eq_true y22 with hb26 | hb26
 ·replace H := ite_t hb26 H
  refine Cd.condT rfl hb26 ?_
  refine Cd.seq ?_
  refine Cd.region ?_
  refine Lst.r (Ev.assign rfl) ?_
  refine Lst.nil ?_
  refine At.then ?_
  obtain rfl := some_inj H
  refine Cd.ret ?_
  refine At.in_ret ?_
  refine At.then_ret ?_
  exact At.ret1 rfl (Res.tmp rfl) (FLe.trans hF20 hF25) (sc1 (sc1 (.refl _))) ⟨rfl, rfl⟩
 replace H := ite_f hb26 H
 refine Cd.condF rfl hb26 ?_
 refine Cd.seq ?_
 refine Cd.quiet (by kernel_rfl) (by kernel_rfl) ?_
 refine Qt.r (Ev.fieldAddr (off' := 3) rfl Try.runUnderlying77 rfl Try.sizeOf4 rfl rfl) ?_
 refine Qt.r (Ev.load (i := 0) rfl rfl Try.isAgg4 (v := .bool x3.Fixed) ((Wait.get_Fixed (Get.here _)).off (by rfl))) ?_
 refine Qt.r (Ev.not rfl) ?_
 refine Qt.r (Ev.move rfl) ?_
 obtain ⟨o27, H, HKo27⟩ := bind_some H
 refine Qt.join (σ := Bool) 7 (fun y28 => [(1, iv a1), (2, pv b1 0), (5, pv b6 0), (42, .bool y28)]) (fun y28 => y28 = o27) ?_ ?_
 ·rcases (Bool.eq_false_or_eq_true (!x3.Fixed)).symm with hb29 | hb29
  ·replace H := ite_f hb29 H
   refine Qt.skip rfl rfl rfl hb29 rfl (by decide) ?_
   refine Qt.skip rfl rfl rfl hb29 rfl (by decide) ?_
   refine Qt.skip rfl rfl rfl hb29 rfl (by decide) ?_
   refine Qt.skip rfl rfl rfl hb29 rfl (by decide) ?_
   refine Qt.skip rfl rfl rfl hb29 rfl (by decide) ?_
   refine Qt.skip rfl rfl rfl hb29 rfl (by decide) ?_
   refine Qt.r (Ev.pickF rfl hb29 rfl) ?_
   exact Qt.meet false ⟨rfl, rfl, rfl, rfl, trivial⟩ (some_inj H)
  replace H := ite_t hb29 H
  refine Qt.rG hb29 (Ev.fieldAddr (off' := 1) rfl Try.runUnderlying77 rfl Try.sizeOf61 rfl rfl) ?_
  refine Qt.rG hb29 (Ev.fieldAddr (off' := 2) rfl Try.runUnderlying61 rfl Try.sizeOf3 rfl rfl) ?_
  refine Qt.rG hb29 (Ev.load (i := 0) rfl rfl Try.isAgg3 (v := iv x3.Num_.By) ((Wait.get_Num_ (Num.get_By (Get.here _))).off (by rfl))) ?_
  refine Qt.rG hb29 (Ev.fieldAddr (off' := 0) rfl Try.runUnderlying59 rfl Try.sizeOf3 rfl rfl) ?_
  refine Qt.rG hb29 (Ev.load (i := 1) rfl rfl Try.isAgg3 (v := iv a0.Me) ((SkeenR.get_Me (Get.here _)).off (by rfl))) ?_
  refine Qt.rG hb29 (Ev.neq rfl rfl) ?_
  refine Qt.r (Ev.pickT rfl hb29 rfl) ?_
  exact Qt.meet (x3.Num_.By != a0.Me) ⟨rfl, rfl, rfl, rfl, trivial⟩ (some_inj H)
 rintro y28 hy
 subst hy
 refine Qt.as (e' := [(1, iv a1), (2, pv b1 0), (5, pv b6 0), (42, .bool y28)]) ⟨rfl, rfl, rfl, rfl, trivial⟩ ?_
 replace H := HKo27
 refine Qt.r (Ev.move rfl) ?_
 obtain ⟨o30, H, HKo30⟩ := bind_some H
 refine Qt.join (σ := Bool) 16 (fun y31 => [(1, iv a1), (2, pv b1 0), (5, pv b6 0), (59, .bool y31)]) (fun y31 => y31 = o30) ?_ ?_
 ·rcases Bool.eq_false_or_eq_true y28 with hb32 | hb32
  ·replace H := ite_t hb32 H
   refine Qt.skip rfl rfl rfl hb32 rfl (by decide) ?_
   refine Qt.skip rfl rfl rfl hb32 rfl (by decide) ?_
   refine Qt.skip rfl rfl rfl hb32 rfl (by decide) ?_
   refine Qt.skipU rfl rfl rfl rfl (by decide) ?_
   refine Qt.skipU rfl rfl rfl rfl (by decide) ?_
   refine Qt.skipU rfl rfl rfl rfl (by decide) ?_
   refine Qt.skipU rfl rfl rfl rfl (by decide) ?_
   refine Qt.skipU rfl rfl rfl rfl (by decide) ?_
   refine Qt.skipU rfl rfl rfl rfl (by decide) ?_
   refine Qt.skipU rfl rfl rfl rfl (by decide) ?_
   refine Qt.skipU rfl rfl rfl rfl (by decide) ?_
   refine Qt.skipU rfl rfl rfl rfl (by decide) ?_
   refine Qt.skipU rfl rfl rfl rfl (by decide) ?_
   refine Qt.skipU rfl rfl rfl rfl (by decide) ?_
   refine Qt.skip rfl rfl rfl hb32 rfl (by decide) ?_
   refine Qt.r (Ev.pickT rfl hb32 rfl) ?_
   exact Qt.meet true ⟨rfl, rfl, rfl, rfl, trivial⟩ (some_inj H)
  replace H := ite_f hb32 H
  refine Qt.rG hb32 (Ev.move rfl) ?_
  refine Qt.rG hb32 (Ev.gtr rfl rfl) ?_
  refine Qt.rG hb32 (Ev.move rfl) ?_
  obtain ⟨o33, H, HKo33⟩ := bind_some H
  refine Qt.join (σ := Bool) 12 (fun y34 => [(1, iv a1), (2, pv b1 0), (5, pv b6 0), (43, .bool y28), (58, .bool y34)]) (fun y34 => y34 = o33) ?_ ?_
  ·rcases (Bool.eq_false_or_eq_true (decide (a1 > (0 : Int)))).symm with hb35 | hb35
   ·replace H := ite_f hb35 H
    refine Qt.skip rfl rfl rfl hb35 rfl (by decide) ?_
    refine Qt.skip rfl rfl rfl hb35 rfl (by decide) ?_
    refine Qt.skip rfl rfl rfl hb35 rfl (by decide) ?_
    refine Qt.skip rfl rfl rfl hb35 rfl (by decide) ?_
    refine Qt.skip rfl rfl rfl hb35 rfl (by decide) ?_
    refine Qt.skip rfl rfl rfl hb35 rfl (by decide) ?_
    refine Qt.skip rfl rfl rfl hb35 rfl (by decide) ?_
    refine Qt.skip rfl rfl rfl hb35 rfl (by decide) ?_
    refine Qt.skip rfl rfl rfl hb35 rfl (by decide) ?_
    refine Qt.skip rfl rfl rfl hb35 rfl (by decide) ?_
    refine Qt.skip rfl rfl rfl hb35 rfl (by decide) ?_
    refine Qt.rG hb32 (Ev.pickF rfl hb35 rfl) ?_
    exact Qt.meet false ⟨rfl, rfl, rfl, rfl, rfl, trivial⟩ (some_inj H)
   replace H := ite_t hb35 H
   refine Qt.rG hb35 (Ev.fieldAddr (off' := 1) rfl Try.runUnderlying77 rfl Try.sizeOf61 rfl rfl) ?_
   refine Qt.rG hb35 (Ev.loadA (i := 0) rfl rfl Try.isAgg61 Try.sizeOf61 (ch := enc x3.Num_) (Enc.len _) ((Wait.get_Num_ (Get.here _)).off (by rfl))) ?_
   refine Qt.rG hb35 (Ev.fieldAddr (off' := 2) rfl Try.runUnderlying59 rfl Try.sizeOf57 rfl rfl) ?_
   refine Qt.rG hb35 (Ev.load (i := 1) rfl rfl Try.isAgg57 (v := Sl.v s_a0_2) ((SkeenR.get_Wait (Get.here _)).off (by rfl))) ?_
   refine Qt.rG hb35 (Ev.move rfl) ?_
   refine Qt.rG hb35 (Ev.sub rfl rfl) ?_
   obtain ⟨x36, h37, H⟩ := bind_some H
   have g38 := lat_some h37
   refine Qt.rG hb35 (Ev.indexS (α := Wait) (xs := a0.Wait) rfl rfl Try.runUnderlying57 Try.sizeOf77 rfl (by decide) (hs_a0_2.mono (FLe.trans hF20 hF25) (sc2 hM)) g38.1 g38.2.1) ?_
   refine Qt.rG hb35 (Ev.fieldS (α := Wait) (f' := (w64 (a1 - (1 : Int))).toNat * 4 + 1) rfl (hs_a0_2.mono (FLe.trans hF20 hF25) (sc2 hM)) ((Get.elemN (s := 4) (x := x36) rfl g38.2.2 (Get.here _)).off (by omega)) rfl Try.runUnderlying77 rfl Try.sizeOf61 rfl rfl rfl) ?_
   refine Qt.rG hb35 (Ev.loadSA (α := Wait) rfl (hs_a0_2.mono (FLe.trans hF20 hF25) (sc2 hM)) Try.isAgg61 Try.sizeOf61 (ch := enc x36.Num_) (Enc.len _) (by decide) ((Get.elemN (s := 4) (x := x36) rfl g38.2.2 (Wait.get_Num_ (Get.here _))).off (by omega))) ?_
   obtain ⟨r39, h40, H⟩ := bind_some H
   refine Qt.callG rfl rfl rfl hb35 rfl (by decide) (vs := [.agg (enc x3.Num_).toArray, .agg (enc x36.Num_).toArray]) ⟨rfl, rfl, trivial⟩ Try.call82 (skeen_compare_sim h40 w0 _ M _ (sc2 hM)) ?_
   refine Qt.rG hb35 (Ev.leq rfl rfl) ?_
   refine Qt.rG hb32 (Ev.pickT rfl hb35 rfl) ?_
   exact Qt.meet (decide (r39 ≤ (0 : Int))) ⟨rfl, rfl, rfl, rfl, rfl, trivial⟩ (some_inj H)
  rintro y34 hy
  subst hy
  refine Qt.as (e' := [(1, iv a1), (2, pv b1 0), (5, pv b6 0), (43, .bool y28), (58, .bool y34)]) ⟨rfl, rfl, rfl, rfl, rfl, trivial⟩ ?_
  replace H := HKo33
  refine Qt.r (Ev.pickF rfl hb32 rfl) ?_
  exact Qt.meet y34 ⟨rfl, rfl, rfl, rfl, trivial⟩ (some_inj H)
 rintro y31 hy
 subst hy
 refine Qt.as (e' := [(1, iv a1), (2, pv b1 0), (5, pv b6 0), (59, .bool y31)]) ⟨rfl, rfl, rfl, rfl, trivial⟩ ?_
 replace H := HKo30
 refine Qt.r (Ev.assign rfl) ?_
 refine Qt.done ?_
 refine At.then ?_
 rcases Bool.eq_false_or_eq_true y31 with hb43 | hb43
 ·replace H := ite_t hb43 H
  refine Cd.condT rfl hb43 ?_
  refine Cd.seq ?_
  refine Cd.region ?_
  refine Lst.r (Ev.assign rfl) ?_
  refine Lst.nil ?_
  refine At.then ?_
  obtain rfl := some_inj H
  refine Cd.ret ?_
  refine At.in_ret ?_
  refine At.then_ret ?_
  exact At.ret1 rfl (Res.tmp rfl) (FLe.trans hF20 hF25) (sc1 (sc1 (.refl _))) ⟨rfl, rfl⟩
 replace H := ite_f hb43 H
 refine Cd.condF rfl hb43 ?_
 refine Cd.seq ?_
 refine Cd.region ?_
 refine Lst.r (Ev.fieldAddr (off' := 2) rfl Try.runUnderlying59 rfl Try.sizeOf57 rfl rfl) ?_
 refine Lst.r (Ev.load (i := 1) rfl rfl Try.isAgg57 (v := Sl.v s_a0_2) ((SkeenR.get_Wait (Get.here _)).off (by rfl))) ?_
 refine Lst.r (Ev.move rfl) ?_
 obtain ⟨m44, h45, H⟩ := bind_some H
 obtain ⟨g46, gl47⟩ := cutL_some h45
 try dsimp only at g46
 have hq48 : Rd w0 F M (s_a0_2.cut (0 : Int).toNat (a1 : Int).toNat 4) m44 := by rw [← gl47]; exact Rd.cut (by decide) hs_a0_2 (by omega) (by omega)
 refine Lst.r (Ev.cut (α := Wait) (xs := a0.Wait) (i := 0) (j := a1) rfl rfl rfl Try.runUnderlying57 Try.sizeOf77 rfl (by decide) (hs_a0_2.mono (FLe.trans hF20 hF25) (sc2 hM)) g46.1 g46.2.1 g46.2.2) ?_
 refine Lst.r (Ev.makeFunc (us := []) (vs := [pv b6 0]) trivial ⟨rfl, trivial⟩) ?_
 obtain ⟨r49, h50, H⟩ := bind_some H
 refine Lst.call1 rfl rfl (by decide) (vs := [Sl.v (s_a0_2.cut (0 : Int).toNat (a1 : Int).toNat 4), .func (.func 111) #[] #[pv b6 0]]) ⟨rfl, rfl, trivial⟩ Try.call40 (slices_ContainsFunc_api_Wait_api_Wait_wait_1_sim h50 w0 _ M _ (sc1 hM) (hq48.mono (FLe.trans hF20 hF25) (.refl _))) ?_
 refine Lst.r (Ev.assign rfl) ?_
 refine Lst.nil ?_
 refine At.then ?_
 rcases Bool.eq_false_or_eq_true r49 with hb53 | hb53
 ·replace H := ite_t hb53 H
  refine Cd.condT rfl hb53 ?_
  refine Cd.seq ?_
  refine Cd.region ?_
  refine Lst.r (Ev.assign rfl) ?_
  refine Lst.nil ?_
  refine At.then ?_
  obtain rfl := some_inj H
  refine Cd.ret ?_
  refine At.in_ret ?_
  refine At.then_ret ?_
  exact At.ret1 rfl (Res.tmp rfl) (FLe.trans hF20 hF25) (sc1 (sc1 (.refl _))) ⟨rfl, rfl⟩
 replace H := ite_f hb53 H
 refine Cd.condF rfl hb53 ?_
 refine Cd.skip ?_
 refine At.in_normal ?_
 refine At.then ?_
 refine Cd.seq ?_
 refine Cd.region ?_
 refine Lst.r (Ev.assign rfl) ?_
 refine Lst.nil ?_
 refine At.then ?_
 obtain rfl := some_inj H
 refine Cd.ret ?_
 exact At.ret1 rfl (Res.tmp rfl) (FLe.trans hF20 hF25) (sc1 (sc1 (.refl _))) ⟨rfl, rfl⟩
set_option maxRecDepth 20000 in
theorem skeen_Check_sim {a0 : Skeen} {s_a0_2 : Sl} {r : Int} (H : skeen_Check a0 = some r) (w0 : World) (F : Frz) (M L : List Item) (hM : M.Sublist L) (hs_a0_2 : Rd w0 F M s_a0_2 a0.Wait) : Ok Try.prog w0 34 [.agg (enc (SkeenR.mk a0 s_a0_2)).toArray] F (L) (Is (iv r) (L)) := by
 unfold skeen_Check at H
 refine Ok.enter (m := 1) (n := 45) Try.func34 rfl rfl rfl (by decide) ?_
 refine Cd.env (e' := [(0, .agg (enc (SkeenR.mk a0 s_a0_2)).toArray)]) rfl ?_
 refine Cd.seq ?_
 refine Cd.region ?_
 refine Lst.box rfl rfl (by decide) rfl (cs := enc (SkeenR.mk a0 s_a0_2)) rfl (fun b1 => ?_)
 refine Lst.r (Ev.assign rfl) ?_
 refine Lst.nil ?_
 refine At.then ?_
 refine Cd.seq ?_
 refine Cd.block ?_
 refine Cd.seq ?_
 refine Cd.region ?_
 refine Lst.r (Ev.fieldAddr (off' := 0) rfl Try.runUnderlying59 rfl Try.sizeOf3 rfl rfl) ?_
 refine Lst.r (Ev.load (i := 0) rfl rfl Try.isAgg3 (v := iv a0.Me) ((SkeenR.get_Me (Get.here _)).off (by rfl))) ?_
 obtain ⟨r3, h4, H⟩ := bind_some H
 refine Lst.call1 rfl rfl (by decide) (vs := [iv a0.Me, iv (0 : Int), iv (5 : Int)]) ⟨rfl, rfl, rfl, trivial⟩ Try.call79 (skeen_in_sim h4 w0 _ M _ (sc1 hM)) ?_
 refine Lst.r (Ev.not rfl) ?_
 refine Lst.r (Ev.move rfl) ?_
 obtain ⟨o7, H, HKo7⟩ := bind_some H
 refine Lst.join (σ := Bool) 5 (fun y8 => [(1, pv b1 0), (15, .bool y8)]) (fun y8 => (.blk b1 (enc (SkeenR.mk a0 s_a0_2)) 59) :: L) (fun _ y8 => y8 = o7) ?_ ?_
 ·rcases Bool.eq_false_or_eq_true (!r3) with hb9 | hb9
  ·replace H := ite_t hb9 H
   refine Lst.skip rfl rfl rfl hb9 rfl (by decide) ?_
   refine Lst.skip rfl rfl rfl hb9 rfl (by decide) ?_
   refine Lst.skip rfl rfl rfl hb9 rfl (by decide) ?_
   refine Lst.skip rfl rfl rfl hb9 rfl (by decide) ?_
   refine Lst.r (Ev.pickT rfl hb9 rfl) ?_
   refine Lst.nil ?_
   exact At.meet true (FLe.refl _) ⟨rfl, rfl, trivial⟩ rfl (some_inj H)
  replace H := ite_f hb9 H
  refine Lst.rG hb9 (Ev.fieldAddr (off' := 1) rfl Try.runUnderlying59 rfl Try.sizeOf3 rfl rfl) ?_
  refine Lst.rG hb9 (Ev.load (i := 0) rfl rfl Try.isAgg3 (v := iv a0.Clock) ((SkeenR.get_Clock (Get.here _)).off (by rfl))) ?_
  obtain ⟨r10, h11, H⟩ := bind_some H
  refine Lst.call1G rfl rfl rfl hb9 rfl (by decide) (vs := [iv a0.Clock, iv (0 : Int), iv (16777215 : Int)]) ⟨rfl, rfl, rfl, trivial⟩ Try.call79 (skeen_in_sim h11 w0 _ M _ (sc1 hM)) ?_
  refine Lst.rG hb9 (Ev.not rfl) ?_
  refine Lst.r (Ev.pickF rfl hb9 rfl) ?_
  refine Lst.nil ?_
  exact At.meet (!r10) (FLe.refl _) ⟨rfl, rfl, trivial⟩ rfl (some_inj H)
 rintro F14 y8 hF15 hy
 subst hy
 refine Lst.as (e' := [(1, pv b1 0), (15, .bool y8)]) (L' := (.blk b1 (enc (SkeenR.mk a0 s_a0_2)) 59) :: L) ⟨rfl, rfl, trivial⟩ rfl ?_
 replace H := HKo7
 refine Lst.r (Ev.assign rfl) ?_
 refine Lst.nil ?_
 refine At.then ?_
 rcases Bool.eq_false_or_eq_true y8 with hb16 | hb16
 ·replace H := ite_t hb16 H
  refine Cd.condT rfl hb16 ?_
  refine Cd.seq ?_
  refine Cd.region ?_
  refine Lst.r (Ev.assign rfl) ?_
  refine Lst.nil ?_
  refine At.then ?_
  obtain rfl := some_inj H
  refine Cd.ret ?_
  refine At.in_ret ?_
  refine At.then_ret ?_
  exact At.ret1 rfl (Res.tmp rfl) hF15 (sc1 (.refl _)) ⟨rfl, rfl⟩
 replace H := ite_f hb16 H
 refine Cd.condF rfl hb16 ?_
 refine Cd.seq ?_
 refine Cd.region ?_
 refine Lst.r (Ev.fieldAddr (off' := 2) rfl Try.runUnderlying59 rfl Try.sizeOf57 rfl rfl) ?_
 refine Lst.r (Ev.load (i := 0) rfl rfl Try.isAgg57 (v := Sl.v s_a0_2) ((SkeenR.get_Wait (Get.here _)).off (by rfl))) ?_
 refine Lst.r (Ev.lenS (α := Wait) (xs := a0.Wait) (by decide) rfl rfl Try.runUnderlying57 (hs_a0_2.mono hF15 (sc1 hM))) ?_
 refine Lst.r (Ev.gtr rfl rfl) ?_
 refine Lst.r (Ev.assign rfl) ?_
 refine Lst.nil ?_
 refine At.then ?_
 rcases Bool.eq_false_or_eq_true (decide ((a0.Wait.length : Int) > (40 : Int))) with hb17 | hb17
 ·replace H := ite_t hb17 H
  refine Cd.condT rfl hb17 ?_
  refine Cd.seq ?_
  refine Cd.region ?_
  refine Lst.r (Ev.assign rfl) ?_
  refine Lst.nil ?_
  refine At.then ?_
  obtain rfl := some_inj H
  refine Cd.ret ?_
  refine At.in_ret ?_
  refine At.then_ret ?_
  exact At.ret1 rfl (Res.tmp rfl) hF15 (sc1 (.refl _)) ⟨rfl, rfl⟩
 replace H := ite_f hb17 H
 refine Cd.condF rfl hb17 ?_
 refine Cd.skip ?_
 refine At.in_normal ?_
 refine At.then ?_
 refine Cd.seq ?_
 refine Cd.seq ?_
 refine Cd.region ?_
 refine Lst.r (Ev.fieldAddr (off' := 2) rfl Try.runUnderlying59 rfl Try.sizeOf57 rfl rfl) ?_
 refine Lst.r (Ev.load (i := 0) rfl rfl Try.isAgg57 (v := Sl.v s_a0_2) ((SkeenR.get_Wait (Get.here _)).off (by rfl))) ?_
 refine Lst.r (Ev.lenS (α := Wait) (xs := a0.Wait) (by decide) rfl rfl Try.runUnderlying57 (hs_a0_2.mono hF15 (sc1 hM))) ?_
 refine Lst.r (Ev.move rfl) ?_
 refine Lst.nil ?_
 refine At.then ?_
 refine Cd.block ?_
 refine Cd.bound (Rd.le (α := Wait) (xs := a0.Wait) (by decide) (hs_a0_2.mono hF15 (sc1 hM))) (fun hN35 => ?_)
 obtain ⟨ol18, H, HKl18⟩ := andThen_some H
 refine Cd.loop (σ := Nat × Nat × Unit) (fun (i18, k18, _u) => [(1, pv b1 0), (23, iv (a0.Wait.length : Int)), (24, iv (i18 : Int))]) (fun (i18, k18, _u) => (.blk b1 (enc (SkeenR.mk a0 s_a0_2)) 59) :: L) (fun _ => (fun (i18, k18, _u) => rangeM (skeen_Check_B1 a0) k18 i18 () = some ol18 ∧ i18 + k18 = a0.Wait.length)) (fun (i18, k18, _u) => k18) (0, a0.Wait.length, ()) ⟨rfl, rfl, rfl, trivial⟩ rfl ⟨H, by omega⟩ ?_
 rintro F19 ⟨i18, k18, _u⟩ hF20 ⟨H, hik18⟩
 refine Cd.as (e' := [(1, pv b1 0), (23, iv (a0.Wait.length : Int)), (24, iv (i18 : Int))]) (L' := (.blk b1 (enc (SkeenR.mk a0 s_a0_2)) 59) :: L) ⟨rfl, rfl, rfl, trivial⟩ rfl ?_
 rcases k18 with _ | k18
 ·have hc18 : decide ((i18 : Int) < (a0.Wait.length : Int)) = false := decide_eq_false (by omega)
  replace H := rangeM_end H
  refine Cd.seq ?_
  refine Cd.region ?_
  refine Lst.r (Ev.lss rfl rfl) ?_
  refine Lst.nil ?_
  refine At.then ?_
  refine Cd.seq ?_
  refine Cd.condF rfl hc18 ?_
  refine Cd.exit ?_
  refine At.then_exit ?_
  refine At.then_exit ?_
  refine At.in_exit ?_
  subst H
  replace H := HKl18
  refine At.then ?_
  refine Cd.seq ?_
  refine Cd.seq ?_
  refine Cd.region ?_
  refine Lst.r (Ev.fieldAddr (off' := 2) rfl Try.runUnderlying59 rfl Try.sizeOf57 rfl rfl) ?_
  refine Lst.r (Ev.load (i := 0) rfl rfl Try.isAgg57 (v := Sl.v s_a0_2) ((SkeenR.get_Wait (Get.here _)).off (by rfl))) ?_
  refine Lst.r (Ev.lenS (α := Wait) (xs := a0.Wait) (by decide) rfl rfl Try.runUnderlying57 (hs_a0_2.mono (FLe.trans hF15 hF20) (sc1 hM))) ?_
  refine Lst.r (Ev.gtr rfl rfl) ?_
  refine Lst.r (Ev.move rfl) ?_
  obtain ⟨o26, H, HKo26⟩ := bind_some H
  refine Lst.join (σ := Bool) 6 (fun y27 => [(44, .bool y27)]) (fun y27 => (.blk b1 (enc (SkeenR.mk a0 s_a0_2)) 59) :: L) (fun _ y27 => y27 = o26) ?_ ?_
  ·rcases (Bool.eq_false_or_eq_true (decide ((a0.Wait.length : Int) > (0 : Int)))).symm with hb28 | hb28
   ·replace H := ite_f hb28 H
    refine Lst.skip rfl rfl rfl hb28 rfl (by decide) ?_
    refine Lst.skip rfl rfl rfl hb28 rfl (by decide) ?_
    refine Lst.skip rfl rfl rfl hb28 rfl (by decide) ?_
    refine Lst.skip rfl rfl rfl hb28 rfl (by decide) ?_
    refine Lst.skip rfl rfl rfl hb28 rfl (by decide) ?_
    refine Lst.r (Ev.pickF rfl hb28 rfl) ?_
    refine Lst.nil ?_
    exact At.meet false (FLe.refl _) ⟨rfl, trivial⟩ rfl (some_inj H)
   replace H := ite_t hb28 H
   refine Lst.rG hb28 (Ev.fieldAddr (off' := 2) rfl Try.runUnderlying59 rfl Try.sizeOf57 rfl rfl) ?_
   refine Lst.rG hb28 (Ev.load (i := 0) rfl rfl Try.isAgg57 (v := Sl.v s_a0_2) ((SkeenR.get_Wait (Get.here _)).off (by rfl))) ?_
   obtain ⟨x29, h30, H⟩ := bind_some H
   have g31 := lat_some h30
   refine Lst.rG hb28 (Ev.indexS (α := Wait) (xs := a0.Wait) rfl rfl Try.runUnderlying57 Try.sizeOf77 rfl (by decide) (hs_a0_2.mono (FLe.trans hF15 hF20) (sc1 hM)) g31.1 g31.2.1) ?_
   refine Lst.rG hb28 (Ev.fieldS (α := Wait) (f' := (0 : Int).toNat * 4 + 3) rfl (hs_a0_2.mono (FLe.trans hF15 hF20) (sc1 hM)) ((Get.elemN (s := 4) (x := x29) rfl g31.2.2 (Get.here _)).off (by omega)) rfl Try.runUnderlying77 rfl Try.sizeOf4 rfl rfl rfl) ?_
   refine Lst.rG hb28 (Ev.loadS (α := Wait) rfl (hs_a0_2.mono (FLe.trans hF15 hF20) (sc1 hM)) Try.isAgg4 (v := .bool x29.Fixed) ((Get.elemN (s := 4) (x := x29) rfl g31.2.2 (Wait.get_Fixed (Get.here _))).off (by omega))) ?_
   refine Lst.r (Ev.pickT rfl hb28 rfl) ?_
   refine Lst.nil ?_
   exact At.meet x29.Fixed (FLe.refl _) ⟨rfl, trivial⟩ rfl (some_inj H)
  rintro F32 y27 hF33 hy
  subst hy
  refine Lst.as (e' := [(44, .bool y27)]) (L' := (.blk b1 (enc (SkeenR.mk a0 s_a0_2)) 59) :: L) ⟨rfl, trivial⟩ rfl ?_
  replace H := HKo26
  refine Lst.nil ?_
  refine At.then ?_
  rcases Bool.eq_false_or_eq_true y27 with hb34 | hb34
  ·replace H := ite_t hb34 H
   refine Cd.condT rfl hb34 ?_
   refine Cd.seq ?_
   refine Cd.region ?_
   refine Lst.r (Ev.assign rfl) ?_
   refine Lst.nil ?_
   refine At.then ?_
   obtain rfl := some_inj H
   refine Cd.ret ?_
   refine At.then_ret ?_
   exact At.ret1 rfl (Res.tmp rfl) (FLe.trans (FLe.trans hF15 hF20) hF33) (sc1 (.refl _)) ⟨rfl, rfl⟩
  replace H := ite_f hb34 H
  refine Cd.condF rfl hb34 ?_
  refine Cd.skip ?_
  refine At.then ?_
  refine Cd.seq ?_
  refine Cd.region ?_
  refine Lst.r (Ev.assign rfl) ?_
  refine Lst.nil ?_
  refine At.then ?_
  obtain rfl := some_inj H
  refine Cd.ret ?_
  exact At.ret1 rfl (Res.tmp rfl) (FLe.trans (FLe.trans hF15 hF20) hF33) (sc1 (.refl _)) ⟨rfl, rfl⟩
 have hc18 : decide ((i18 : Int) < (a0.Wait.length : Int)) = true := decide_eq_true (by omega)
 obtain ⟨c18, H, hgo18, hbrk18, hret18⟩ := rangeM_go H
 unfold skeen_Check_B1 at H
 try dsimp only at H
 refine Cd.seq ?_
 refine Cd.region ?_
 refine Lst.r (Ev.lss rfl rfl) ?_
 refine Lst.nil ?_
 refine At.then ?_
 refine Cd.seq ?_
 refine Cd.condT rfl hc18 ?_
 refine Cd.skip ?_
 refine At.then ?_
 refine Cd.seq ?_
 refine Cd.block ?_
 refine Cd.seq ?_
 refine Cd.region ?_
 refine Lst.r (Ev.move rfl) ?_
 refine Lst.r (Ev.assign rfl) ?_
 refine Lst.nil ?_
 refine At.then ?_
 refine Cd.seq ?_
 refine Cd.region ?_
 refine Lst.r (Ev.loadA (i := 0) rfl rfl Try.isAgg59 Try.sizeOf59 (ch := enc (SkeenR.mk a0 s_a0_2)) (Enc.len _) (Get.here _)) ?_
 refine Lst.r (Ev.move rfl) ?_
 obtain ⟨r21, h22, H⟩ := bind_some H
 refine Lst.call1 rfl rfl (by decide) (vs := [.agg (enc (SkeenR.mk a0 s_a0_2)).toArray, iv (i18 : Int)]) ⟨rfl, rfl, trivial⟩ Try.call87 (skeen_wait_sim h22 w0 _ M _ (sc1 hM) (hs_a0_2.mono (FLe.trans hF15 hF20) (.refl _))) ?_
 refine Lst.r (Ev.assign rfl) ?_
 refine Lst.nil ?_
 refine At.then ?_
 refine Cd.seq ?_
 refine Cd.region ?_
 refine Lst.r (Ev.move rfl) ?_
 refine Lst.r (Ev.neq rfl rfl) ?_
 refine Lst.nil ?_
 refine At.then ?_
 rcases Bool.eq_false_or_eq_true (r21 != (0 : Int)) with hb25 | hb25
 ·replace H := ite_t hb25 H
  refine Cd.condT rfl hb25 ?_
  refine Cd.seq ?_
  refine Cd.region ?_
  refine Lst.r (Ev.move rfl) ?_
  refine Lst.r (Ev.assign rfl) ?_
  refine Lst.nil ?_
  refine At.then ?_
  have H := hret18 _ (some_inj H).symm
  subst H
  replace H := HKl18
  obtain rfl := some_inj H
  refine Cd.ret ?_
  refine At.in_ret ?_
  refine At.then_ret ?_
  refine At.then_ret ?_
  refine At.in_ret ?_
  refine At.then_ret ?_
  exact At.ret1 rfl (Res.tmp rfl) (FLe.trans hF15 hF20) (sc1 (.refl _)) ⟨rfl, rfl⟩
 replace H := ite_f hb25 H
 refine Cd.condF rfl hb25 ?_
 refine Cd.skip ?_
 refine At.in_normal ?_
 refine At.then ?_
 refine Cd.region ?_
 refine Lst.r (Ev.incr (by omega) rfl rfl) ?_
 refine Lst.r (Ev.move rfl) ?_
 refine Lst.nil ?_
 exact At.meet (i18 + 1, k18, ()) hF20 ⟨rfl, rfl, rfl, trivial⟩ rfl ⟨⟨hgo18 _ (some_inj H).symm, by omega⟩, Nat.lt_succ_self _⟩
set_option maxRecDepth 20000 in
theorem skeen_Offer_1_sim {a0 : Wait} {a1 : Int} {b_a1 : Nat} {r : Bool} (H : skeen_Offer_1 a0 a1 = some r) (w0 : World) (F : Frz) (M L : List Item) (hM : M.Sublist L) : Ok Try.prog w0 77 [.agg (enc a0).toArray, pv b_a1 0] F ((.blk b_a1 (enc a1) 3) :: L) (Is (.bool r) ((.blk b_a1 (enc a1) 3) :: L)) := by
 unfold skeen_Offer_1 at H
 refine Ok.enter (m := 2) (n := 8) Try.func77 rfl rfl rfl (by decide) ?_
 refine Cd.env (e' := [(0, .agg (enc a0).toArray), (1, pv b_a1 0)]) rfl ?_
 refine Cd.seq ?_
 refine Cd.region ?_
 refine Lst.box rfl rfl (by decide) rfl (cs := enc a0) rfl (fun b2 => ?_)
 refine Lst.r (Ev.assign rfl) ?_
 refine Lst.nil ?_
 refine At.then ?_
 refine Cd.seq ?_
 refine Cd.region ?_
 refine Lst.r (Ev.fieldAddr (off' := 0) rfl Try.runUnderlying77 rfl Try.sizeOf3 rfl rfl) ?_
 refine Lst.r (Ev.load (i := 0) rfl rfl Try.isAgg3 (v := iv a0.Id) ((Wait.get_Id (Get.here _)).off (by rfl))) ?_
 refine Lst.r (Ev.load (i := 1) rfl rfl Try.isAgg3 (v := iv a1) (Get.here _)) ?_
 refine Lst.r (Ev.eql rfl rfl) ?_
 refine Lst.r (Ev.assign rfl) ?_
 refine Lst.nil ?_
 refine At.then ?_
 obtain rfl := some_inj H
 refine Cd.ret ?_
 exact At.ret1 rfl (Res.tmp rfl) (FLe.refl _) (sc1 (sk1 (.refl _))) ⟨rfl, rfl⟩
set_option maxRecDepth 20000 in
theorem slices_IndexFunc_api_Wait_api_Wait_Offer_1_sim {a0 : List Wait} {a1_c0 : Int} {s_a0 : Sl} {b_a1_c0 : Nat} {r : Int} (H : slices_IndexFunc_api_Wait_api_Wait_Offer_1 a0 a1_c0 = some r) (w0 : World) (F : Frz) (M L : List Item) (hM : M.Sublist L) (hs_a0 : Rd w0 F M s_a0 a0) : Ok Try.prog w0 80 [Sl.v s_a0, .func (.func 77) #[] #[pv b_a1_c0 0]] F ((.blk b_a1_c0 (enc a1_c0) 3) :: L) (Is (iv r) ((.blk b_a1_c0 (enc a1_c0) 3) :: L)) := by
 unfold slices_IndexFunc_api_Wait_api_Wait_Offer_1 at H
 refine Ok.enter (m := 2) (n := 19) Try.func80 rfl rfl rfl (by decide) ?_
 refine Cd.env (e' := [(0, Sl.v s_a0), (1, .func (.func 77) #[] #[pv b_a1_c0 0])]) rfl ?_
 refine Cd.seq ?_
 refine Cd.region ?_
 refine Lst.r (Ev.assign rfl) ?_
 refine Lst.nil ?_
 refine At.then ?_
 refine Cd.seq ?_
 refine Cd.seq ?_
 refine Cd.region ?_
 refine Lst.r (Ev.move rfl) ?_
 refine Lst.r (Ev.lenS (α := Wait) (xs := a0) (by decide) rfl rfl Try.runUnderlying57 (hs_a0.mono (FLe.refl _) (sc1 hM))) ?_
 refine Lst.r (Ev.move rfl) ?_
 refine Lst.nil ?_
 refine At.then ?_
 refine Cd.block ?_
 refine Cd.bound (Rd.le (α := Wait) (xs := a0) (by decide) (hs_a0.mono (FLe.refl _) (sc1 hM))) (fun hN13 => ?_)
 obtain ⟨ol2, H, HKl2⟩ := andThen_some H
 refine Cd.loop (σ := Nat × Nat × Unit) (fun (i2, k2, _u) => [(0, Sl.v s_a0), (1, .func (.func 77) #[] #[pv b_a1_c0 0]), (7, iv (a0.length : Int)), (8, iv (i2 : Int))]) (fun (i2, k2, _u) => (.blk b_a1_c0 (enc a1_c0) 3) :: L) (fun _ => (fun (i2, k2, _u) => rangeM (slices_IndexFunc_api_Wait_api_Wait_Offer_1_B0 a0 a1_c0) k2 i2 () = some ol2 ∧ i2 + k2 = a0.length)) (fun (i2, k2, _u) => k2) (0, a0.length, ()) ⟨rfl, rfl, rfl, rfl, trivial⟩ rfl ⟨H, by omega⟩ ?_
 rintro F3 ⟨i2, k2, _u⟩ hF4 ⟨H, hik2⟩
 refine Cd.as (e' := [(0, Sl.v s_a0), (1, .func (.func 77) #[] #[pv b_a1_c0 0]), (7, iv (a0.length : Int)), (8, iv (i2 : Int))]) (L' := (.blk b_a1_c0 (enc a1_c0) 3) :: L) ⟨rfl, rfl, rfl, rfl, trivial⟩ rfl ?_
 rcases k2 with _ | k2
 ·have hc2 : decide ((i2 : Int) < (a0.length : Int)) = false := decide_eq_false (by omega)
  replace H := rangeM_end H
  refine Cd.seq ?_
  refine Cd.region ?_
  refine Lst.r (Ev.lss rfl rfl) ?_
  refine Lst.nil ?_
  refine At.then ?_
  refine Cd.seq ?_
  refine Cd.condF rfl hc2 ?_
  refine Cd.exit ?_
  refine At.then_exit ?_
  refine At.then_exit ?_
  refine At.in_exit ?_
  subst H
  replace H := HKl2
  refine At.then ?_
  refine Cd.seq ?_
  refine Cd.region ?_
  refine Lst.r (Ev.assign rfl) ?_
  refine Lst.nil ?_
  refine At.then ?_
  obtain rfl := some_inj H
  refine Cd.ret ?_
  exact At.ret1 rfl (Res.tmp rfl) hF4 (sk1 (.refl _)) ⟨rfl, rfl⟩
 have hc2 : decide ((i2 : Int) < (a0.length : Int)) = true := decide_eq_true (by omega)
 obtain ⟨c2, H, hgo2, hbrk2, hret2⟩ := rangeM_go H
 unfold slices_IndexFunc_api_Wait_api_Wait_Offer_1_B0 at H
 try dsimp only at H
 refine Cd.seq ?_
 refine Cd.region ?_
 refine Lst.r (Ev.lss rfl rfl) ?_
 refine Lst.nil ?_
 refine At.then ?_
 refine Cd.seq ?_
 refine Cd.condT rfl hc2 ?_
 refine Cd.skip ?_
 refine At.then ?_
 refine Cd.seq ?_
 refine Cd.block ?_
 refine Cd.seq ?_
 refine Cd.region ?_
 refine Lst.r (Ev.move rfl) ?_
 refine Lst.r (Ev.assign rfl) ?_
 refine Lst.nil ?_
 refine At.then ?_
 refine Cd.seq ?_
 refine Cd.region ?_
 refine Lst.r (Ev.move rfl) ?_
 refine Lst.r (Ev.move rfl) ?_
 refine Lst.r (Ev.move rfl) ?_
 obtain ⟨x5, h6, H⟩ := bind_some H
 have g7 := lat_some h6
 refine Lst.r (Ev.indexS (α := Wait) (xs := a0) rfl rfl Try.runUnderlying57 Try.sizeOf77 rfl (by decide) (hs_a0.mono hF4 (sc1 hM)) g7.1 g7.2.1) ?_
 refine Lst.r (Ev.loadSA (α := Wait) rfl (hs_a0.mono hF4 (sc1 hM)) Try.isAgg77 Try.sizeOf77 (ch := enc x5) (Enc.len _) (by decide) ((Get.elemN (s := 4) (x := x5) rfl g7.2.2 (Get.here _)).off (by omega))) ?_
 obtain ⟨r8, h9, H⟩ := bind_some H
 refine Lst.callV1 rfl rfl (by decide) (vs := [.agg (enc x5).toArray]) (cs := [pv b_a1_c0 0]) rfl ⟨rfl, trivial⟩ Try.call77 (skeen_Offer_1_sim h9 w0 _ M _ hM) ?_
 refine Lst.nil ?_
 refine At.then ?_
 rcases Bool.eq_false_or_eq_true r8 with hb12 | hb12
 ·replace H := ite_t hb12 H
  refine Cd.condT rfl hb12 ?_
  refine Cd.seq ?_
  refine Cd.region ?_
  refine Lst.r (Ev.move rfl) ?_
  refine Lst.r (Ev.assign rfl) ?_
  refine Lst.nil ?_
  refine At.then ?_
  have H := hret2 _ (some_inj H).symm
  subst H
  replace H := HKl2
  obtain rfl := some_inj H
  refine Cd.ret ?_
  refine At.in_ret ?_
  refine At.then_ret ?_
  refine At.then_ret ?_
  refine At.in_ret ?_
  refine At.then_ret ?_
  exact At.ret1 rfl (Res.tmp rfl) hF4 (sk1 (.refl _)) ⟨rfl, rfl⟩
 replace H := ite_f hb12 H
 refine Cd.condF rfl hb12 ?_
 refine Cd.skip ?_
 refine At.in_normal ?_
 refine At.then ?_
 refine Cd.region ?_
 refine Lst.r (Ev.incr (by omega) rfl rfl) ?_
 refine Lst.r (Ev.move rfl) ?_
 refine Lst.nil ?_
 exact At.meet (i2 + 1, k2, ()) hF4 ⟨rfl, rfl, rfl, rfl, trivial⟩ rfl ⟨⟨hgo2 _ (some_inj H).symm, by omega⟩, Nat.lt_succ_self _⟩
set_option maxRecDepth 20000 in
theorem slices_ContainsFunc_api_Wait_api_Wait_Offer_1_sim {a0 : List Wait} {a1_c0 : Int} {s_a0 : Sl} {b_a1_c0 : Nat} {r : Bool} (H : slices_ContainsFunc_api_Wait_api_Wait_Offer_1 a0 a1_c0 = some r) (w0 : World) (F : Frz) (M L : List Item) (hM : M.Sublist L) (hs_a0 : Rd w0 F M s_a0 a0) : Ok Try.prog w0 40 [Sl.v s_a0, .func (.func 77) #[] #[pv b_a1_c0 0]] F ((.blk b_a1_c0 (enc a1_c0) 3) :: L) (Is (.bool r) ((.blk b_a1_c0 (enc a1_c0) 3) :: L)) := by
 unfold slices_ContainsFunc_api_Wait_api_Wait_Offer_1 at H
 refine Ok.enter (m := 2) (n := 9) Try.func40 rfl rfl rfl (by decide) ?_
 refine Cd.env (e' := [(0, Sl.v s_a0), (1, .func (.func 77) #[] #[pv b_a1_c0 0])]) rfl ?_
 refine Cd.seq ?_
 refine Cd.region ?_
 refine Lst.r (Ev.assign rfl) ?_
 refine Lst.nil ?_
 refine At.then ?_
 refine Cd.seq ?_
 refine Cd.region ?_
 refine Lst.r (Ev.move rfl) ?_
 refine Lst.r (Ev.move rfl) ?_
 obtain ⟨r2, h3, H⟩ := bind_some H
 refine Lst.call1 rfl rfl (by decide) (vs := [Sl.v s_a0, .func (.func 77) #[] #[pv b_a1_c0 0]]) ⟨rfl, rfl, trivial⟩ Try.call80 (slices_IndexFunc_api_Wait_api_Wait_Offer_1_sim h3 w0 _ M _ hM (hs_a0.mono (FLe.refl _) (.refl _))) ?_
 refine Lst.r (Ev.geq rfl rfl) ?_
 refine Lst.r (Ev.assign rfl) ?_
 refine Lst.nil ?_
 refine At.then ?_
 obtain rfl := some_inj H
 refine Cd.ret ?_
 exact At.ret1 rfl (Res.tmp rfl) (FLe.refl _) (sk1 (.refl _)) ⟨rfl, rfl⟩
set_option maxRecDepth 20000 in
theorem slices_Clone_api_Wait_api_Wait_sim {a0 : List Wait} {s_a0 : Sl} {r : (List Wait)} (H : slices_Clone_api_Wait_api_Wait a0 = some r) (w0 : World) (F : Frz) (M L : List Item) (hM : M.Sublist L) (hs_a0 : Rd w0 F M s_a0 a0) : Ok Try.prog w0 78 [Sl.v s_a0] F (L) (fun _ L' v => ∃ (s1 : Sl), v = Sl.v s1 ∧ L' = (.own s1 77 4 (encs r)) :: L) := by
 unfold slices_Clone_api_Wait_api_Wait at H
 refine Ok.enter (m := 1) (n := 8) Try.func78 rfl rfl rfl (by decide) ?_
 refine Cd.env (e' := [(0, Sl.v s_a0)]) rfl ?_
 refine Cd.seq ?_
 refine Cd.region ?_
 refine Lst.addNil 77 4 ?_
 refine Lst.r (Ev.assign rfl) ?_
 refine Lst.nil ?_
 refine At.then ?_
 refine Cd.seq ?_
 refine Cd.seq ?_
 refine Cd.region ?_
 refine Lst.r (Ev.move rfl) ?_
 refine Lst.r (Ev.eqlNil rfl Try.runUnderlying57) ?_
 refine Lst.nil ?_
 refine At.then ?_
 rcases Bool.eq_false_or_eq_true ((Sl.a s_a0).isNone) with hb2 | hb2
 ·refine Cd.bound (Rd.isNil (α := Wait) (by decide) (hs_a0.mono (FLe.refl _) (sc1 hM)) hb2) (fun hx9 => ?_)
  rw [clone_nil hx9] at H
  refine Cd.condT rfl hb2 ?_
  refine Cd.seq ?_
  refine Cd.region ?_
  refine Lst.addNil 77 4 ?_
  refine Lst.r (Ev.assign rfl) ?_
  refine Lst.nil ?_
  refine At.then ?_
  obtain rfl := some_inj H
  refine Cd.ret ?_
  refine At.then_ret ?_
  exact At.ret1 rfl (Res.tmp rfl) (FLe.refl _) (sk1 (sc1 (.refl _))) ⟨Sl.nil, rfl, rfl⟩
 refine Cd.condF rfl hb2 ?_
 refine Cd.skip ?_
 refine At.then ?_
 refine Cd.seq ?_
 refine Cd.region ?_
 refine Lst.buildSlice0 rfl rfl (by decide) Try.runUnderlying57 Try.sizeOf77 (fun s3 => ?_)
 refine Lst.its (L' := (.own s3 77 4 (encs ([] : List Wait))) :: (.own Sl.nil 77 4 (encs ([] : List Wait))) :: L) rfl ?_
 refine Lst.r (Ev.move rfl) ?_
 obtain ⟨u5, h6, H⟩ := bind_some H
 refine Lst.append (i := 0) (α := Wait) (xs := ([] : List Wait)) (ys := a0) rfl rfl (by decide) rfl rfl Try.runUnderlying57 Try.typeInfo77 rfl rfl rfl rfl rfl rfl (hs_a0.mono (FLe.refl _) (sc2 hM)) rfl (room_some h6) rfl (fun s7 => ?_)
 refine Lst.its (L' := (.own s7 77 4 (encs (([] : List Wait) ++ a0))) :: (.own Sl.nil 77 4 (encs ([] : List Wait))) :: L) rfl ?_
 refine Lst.r (Ev.assign rfl) ?_
 refine Lst.nil ?_
 refine At.then ?_
 obtain rfl := some_inj H
 refine Cd.ret ?_
 exact At.ret1 rfl (Res.tmp rfl) (FLe.refl _) (sk1 (sc1 (.refl _))) ⟨s7, rfl, rfl⟩
set_option maxRecDepth 20000 in
theorem skeen_Offer_sim {a0 : Skeen} {a1 : Int} {s_a0_2 : Sl} {r : Skeen × Num × Int} (H : skeen_Offer a0 a1 = some r) (w0 : World) (F : Frz) (M L : List Item) (hM : M.Sublist L) (hs_a0_2 : Rd w0 F M s_a0_2 a0.Wait) : Ok Try.prog w0 31 [.agg (enc (SkeenR.mk a0 s_a0_2)).toArray, iv a1] F (L) (fun _ L' v => ∃ (s1 : Sl), v = .tuple #[.agg (enc (SkeenR.mk r.1 s1)).toArray, .agg (enc r.2.1).toArray, iv r.2.2] ∧ L' = (.own s1 77 4 (encs r.1.Wait)) :: L) := by
 unfold skeen_Offer at H
 refine Ok.enter (m := 2) (n := 60) Try.func31 rfl rfl rfl (by decide) ?_
 refine Cd.env (e' := [(0, .agg (enc (SkeenR.mk a0 s_a0_2)).toArray), (1, iv a1)]) rfl ?_
 refine Cd.seq ?_
 refine Cd.region ?_
 refine Lst.box rfl rfl (by decide) rfl (cs := enc (SkeenR.mk a0 s_a0_2)) rfl (fun b1 => ?_)
 refine Lst.box rfl rfl (by decide) rfl (cs := enc a1) rfl (fun b3 => ?_)
 refine Lst.addNil 77 4 ?_
 refine Lst.alloc (cs := enc (SkeenR.mk ({ Skeen.zero with Wait := ([] : List Wait) } : Skeen) Sl.nil)) rfl rfl (by decide) Try.zeroValue59 rfl (fun b6 => ?_)
 refine Lst.alloc (cs := enc Num.zero) rfl rfl (by decide) Try.zeroValue61 rfl (fun b8 => ?_)
 refine Lst.r (Ev.assign rfl) ?_
 refine Lst.nil ?_
 refine At.then ?_
 refine Cd.seq ?_
 refine Cd.seq ?_
 refine Cd.region ?_
 refine Lst.r (Ev.loadA (i := 4) rfl rfl Try.isAgg59 Try.sizeOf59 (ch := enc (SkeenR.mk a0 s_a0_2)) (Enc.len _) (Get.here _)) ?_
 obtain ⟨r10, h11, H⟩ := bind_some H
 refine Lst.call1 rfl rfl (by decide) (vs := [.agg (enc (SkeenR.mk a0 s_a0_2)).toArray]) ⟨rfl, trivial⟩ Try.call34 (skeen_Check_sim h11 w0 _ M _ (sc4 (sc1 hM)) (hs_a0_2.mono (FLe.refl _) (.refl _))) ?_
 refine Lst.r (Ev.assign rfl) ?_
 refine Lst.nil ?_
 refine At.then ?_
 refine Cd.seq ?_
 refine Cd.region ?_
 refine Lst.r (Ev.move rfl) ?_
 refine Lst.r (Ev.neq rfl rfl) ?_
 refine Lst.nil ?_
 refine At.then ?_
 rcases Bool.eq_false_or_eq_true (r10 != (0 : Int)) with hb14 | hb14
 ·replace H := ite_t hb14 H
  refine Cd.condT rfl hb14 ?_
  refine Cd.seq ?_
  refine Cd.region ?_
  refine Lst.r (Ev.build (v := .agg (enc (SkeenR.mk Skeen.zero Sl.nil)).toArray) (pv := []) trivial (fun w => by kernel_rfl)) ?_
  refine Lst.r (Ev.build (v := .agg (enc Num.zero).toArray) (pv := []) trivial (fun w => by kernel_rfl)) ?_
  refine Lst.r (Ev.move rfl) ?_
  refine Lst.store (i := 1) rfl rfl rfl rfl rfl Try.sizeOf59 (vs := enc (SkeenR.mk Skeen.zero Sl.nil)) rfl (Enc.len _) (Enc.one _) (cs' := enc (SkeenR.mk Skeen.zero Sl.nil)) (Put.here ((Enc.len _).trans (Enc.len _).symm)) (L' := (.blk b8 (enc Num.zero) 61) :: (.blk b6 (enc (SkeenR.mk Skeen.zero Sl.nil)) 59) :: (.own Sl.nil 77 4 (encs ([] : List Wait))) :: (.blk b3 (enc a1) 3) :: (.blk b1 (enc (SkeenR.mk a0 s_a0_2)) 59) :: L) rfl ?_
  refine Lst.store (i := 0) rfl rfl rfl rfl rfl Try.sizeOf61 (vs := enc Num.zero) rfl (Enc.len _) (Enc.one _) (cs' := enc Num.zero) (Put.here ((Enc.len _).trans (Enc.len _).symm)) (L' := (.blk b8 (enc Num.zero) 61) :: (.blk b6 (enc (SkeenR.mk Skeen.zero Sl.nil)) 59) :: (.own Sl.nil 77 4 (encs ([] : List Wait))) :: (.blk b3 (enc a1) 3) :: (.blk b1 (enc (SkeenR.mk a0 s_a0_2)) 59) :: L) rfl ?_
  refine Lst.r (Ev.assign rfl) ?_
  refine Lst.nil ?_
  refine At.then ?_
  obtain rfl := some_inj H
  refine Cd.ret ?_
  refine At.then_ret ?_
  refine At.addNil 77 4 ?_
  exact At.ret3 rfl (Res.cellA (i := 2) rfl rfl Try.isAgg59 Try.sizeOf59 (Enc.len _)) (Res.cellA (i := 1) rfl rfl Try.isAgg61 Try.sizeOf61 (Enc.len _)) (Res.tmp rfl) (FLe.refl _) (sk1 (sc1 (sc1 (sc1 (sc1 (sc1 (.refl _))))))) ⟨Sl.nil, rfl, rfl⟩
 replace H := ite_f hb14 H
 refine Cd.condF rfl hb14 ?_
 refine Cd.skip ?_
 refine At.then ?_
 refine Cd.seq ?_
 refine Cd.block ?_
 refine Cd.seq ?_
 refine Cd.region ?_
 refine Lst.r (Ev.load (i := 3) rfl rfl Try.isAgg3 (v := iv a1) (Get.here _)) ?_
 refine Lst.r (Ev.lss rfl rfl) ?_
 refine Lst.r (Ev.assign rfl) ?_
 refine Lst.nil ?_
 refine At.then ?_
 rcases Bool.eq_false_or_eq_true (decide (a1 < (0 : Int))) with hb16 | hb16
 ·replace H := ite_t hb16 H
  refine Cd.condT rfl hb16 ?_
  refine Cd.seq ?_
  refine Cd.region ?_
  refine Lst.r (Ev.build (v := .agg (enc (SkeenR.mk Skeen.zero Sl.nil)).toArray) (pv := []) trivial (fun w => by kernel_rfl)) ?_
  refine Lst.r (Ev.build (v := .agg (enc Num.zero).toArray) (pv := []) trivial (fun w => by kernel_rfl)) ?_
  refine Lst.store (i := 1) rfl rfl rfl rfl rfl Try.sizeOf59 (vs := enc (SkeenR.mk Skeen.zero Sl.nil)) rfl (Enc.len _) (Enc.one _) (cs' := enc (SkeenR.mk Skeen.zero Sl.nil)) (Put.here ((Enc.len _).trans (Enc.len _).symm)) (L' := (.blk b8 (enc Num.zero) 61) :: (.blk b6 (enc (SkeenR.mk Skeen.zero Sl.nil)) 59) :: (.own Sl.nil 77 4 (encs ([] : List Wait))) :: (.blk b3 (enc a1) 3) :: (.blk b1 (enc (SkeenR.mk a0 s_a0_2)) 59) :: L) rfl ?_
  refine Lst.store (i := 0) rfl rfl rfl rfl rfl Try.sizeOf61 (vs := enc Num.zero) rfl (Enc.len _) (Enc.one _) (cs' := enc Num.zero) (Put.here ((Enc.len _).trans (Enc.len _).symm)) (L' := (.blk b8 (enc Num.zero) 61) :: (.blk b6 (enc (SkeenR.mk Skeen.zero Sl.nil)) 59) :: (.own Sl.nil 77 4 (encs ([] : List Wait))) :: (.blk b3 (enc a1) 3) :: (.blk b1 (enc (SkeenR.mk a0 s_a0_2)) 59) :: L) rfl ?_
  refine Lst.r (Ev.assign rfl) ?_
  refine Lst.nil ?_
  refine At.then ?_
  obtain rfl := some_inj H
  refine Cd.ret ?_
  refine At.in_ret ?_
  refine At.then_ret ?_
  refine At.addNil 77 4 ?_
  exact At.ret3 rfl (Res.cellA (i := 2) rfl rfl Try.isAgg59 Try.sizeOf59 (Enc.len _)) (Res.cellA (i := 1) rfl rfl Try.isAgg61 Try.sizeOf61 (Enc.len _)) (Res.tmp rfl) (FLe.refl _) (sk1 (sc1 (sc1 (sc1 (sc1 (sc1 (.refl _))))))) ⟨Sl.nil, rfl, rfl⟩
 replace H := ite_f hb16 H
 refine Cd.condF rfl hb16 ?_
 refine Cd.seq ?_
 refine Cd.region ?_
 refine Lst.r (Ev.fieldAddr (off' := 2) rfl Try.runUnderlying59 rfl Try.sizeOf57 rfl rfl) ?_
 refine Lst.r (Ev.load (i := 4) rfl rfl Try.isAgg57 (v := Sl.v s_a0_2) ((SkeenR.get_Wait (Get.here _)).off (by rfl))) ?_
 refine Lst.r (Ev.makeFunc (us := []) (vs := [pv b3 0]) trivial ⟨rfl, trivial⟩) ?_
 obtain ⟨r18, h19, H⟩ := bind_some H
 refine Lst.front (i := 3) rfl (L' := (.blk b3 (enc a1) 3) :: (.blk b8 (enc Num.zero) 61) :: (.blk b6 (enc (SkeenR.mk ({ Skeen.zero with Wait := ([] : List Wait) } : Skeen) Sl.nil)) 59) :: (.own Sl.nil 77 4 (encs ([] : List Wait))) :: (.blk b1 (enc (SkeenR.mk a0 s_a0_2)) 59) :: L) rfl ?_
 refine Lst.call1 rfl rfl (by decide) (vs := [Sl.v s_a0_2, .func (.func 77) #[] #[pv b3 0]]) ⟨rfl, rfl, trivial⟩ Try.call40 (slices_ContainsFunc_api_Wait_api_Wait_Offer_1_sim h19 w0 _ M _ (sc4 hM) (hs_a0_2.mono (FLe.refl _) (.refl _))) ?_
 refine Lst.r (Ev.assign rfl) ?_
 refine Lst.nil ?_
 refine At.then ?_
 rcases Bool.eq_false_or_eq_true r18 with hb22 | hb22
 ·replace H := ite_t hb22 H
  refine Cd.condT rfl hb22 ?_
  refine Cd.seq ?_
  refine Cd.as (e' := [(4, pv b6 0), (5, pv b8 0)]) (L' := (.blk b3 (enc a1) 3) :: (.blk b8 (enc Num.zero) 61) :: (.blk b6 (enc (SkeenR.mk ({ Skeen.zero with Wait := ([] : List Wait) } : Skeen) Sl.nil)) 59) :: (.own Sl.nil 77 4 (encs ([] : List Wait))) :: (.blk b1 (enc (SkeenR.mk a0 s_a0_2)) 59) :: L) ⟨rfl, rfl, trivial⟩ rfl ?_
  refine Cd.region ?_
  refine Lst.r (Ev.build (v := .agg (enc (SkeenR.mk Skeen.zero Sl.nil)).toArray) (pv := []) trivial (fun w => by kernel_rfl)) ?_
  refine Lst.r (Ev.build (v := .agg (enc Num.zero).toArray) (pv := []) trivial (fun w => by kernel_rfl)) ?_
  refine Lst.store (i := 2) rfl rfl rfl rfl rfl Try.sizeOf59 (vs := enc (SkeenR.mk Skeen.zero Sl.nil)) rfl (Enc.len _) (Enc.one _) (cs' := enc (SkeenR.mk Skeen.zero Sl.nil)) (Put.here ((Enc.len _).trans (Enc.len _).symm)) (L' := (.blk b3 (enc a1) 3) :: (.blk b8 (enc Num.zero) 61) :: (.blk b6 (enc (SkeenR.mk Skeen.zero Sl.nil)) 59) :: (.own Sl.nil 77 4 (encs ([] : List Wait))) :: (.blk b1 (enc (SkeenR.mk a0 s_a0_2)) 59) :: L) rfl ?_
  refine Lst.store (i := 1) rfl rfl rfl rfl rfl Try.sizeOf61 (vs := enc Num.zero) rfl (Enc.len _) (Enc.one _) (cs' := enc Num.zero) (Put.here ((Enc.len _).trans (Enc.len _).symm)) (L' := (.blk b3 (enc a1) 3) :: (.blk b8 (enc Num.zero) 61) :: (.blk b6 (enc (SkeenR.mk Skeen.zero Sl.nil)) 59) :: (.own Sl.nil 77 4 (encs ([] : List Wait))) :: (.blk b1 (enc (SkeenR.mk a0 s_a0_2)) 59) :: L) rfl ?_
  refine Lst.r (Ev.assign rfl) ?_
  refine Lst.nil ?_
  refine At.then ?_
  obtain rfl := some_inj H
  refine Cd.ret ?_
  refine At.in_ret ?_
  refine At.then_ret ?_
  refine At.addNil 77 4 ?_
  exact At.ret3 rfl (Res.cellA (i := 3) rfl rfl Try.isAgg59 Try.sizeOf59 (Enc.len _)) (Res.cellA (i := 2) rfl rfl Try.isAgg61 Try.sizeOf61 (Enc.len _)) (Res.tmp rfl) (FLe.refl _) (sk1 (sc1 (sc1 (sc1 (sc1 (sc1 (.refl _))))))) ⟨Sl.nil, rfl, rfl⟩
 replace H := ite_f hb22 H
 refine Cd.condF rfl hb22 ?_
 refine Cd.seq ?_
 refine Cd.as (e' := [(2, pv b1 0), (3, pv b3 0), (4, pv b6 0), (5, pv b8 0)]) (L' := (.blk b3 (enc a1) 3) :: (.blk b8 (enc Num.zero) 61) :: (.blk b6 (enc (SkeenR.mk ({ Skeen.zero with Wait := ([] : List Wait) } : Skeen) Sl.nil)) 59) :: (.own Sl.nil 77 4 (encs ([] : List Wait))) :: (.blk b1 (enc (SkeenR.mk a0 s_a0_2)) 59) :: L) ⟨rfl, rfl, rfl, rfl, trivial⟩ rfl ?_
 refine Cd.region ?_
 refine Lst.r (Ev.fieldAddr (off' := 2) rfl Try.runUnderlying59 rfl Try.sizeOf57 rfl rfl) ?_
 refine Lst.r (Ev.load (i := 4) rfl rfl Try.isAgg57 (v := Sl.v s_a0_2) ((SkeenR.get_Wait (Get.here _)).off (by rfl))) ?_
 refine Lst.r (Ev.lenS (α := Wait) (xs := a0.Wait) (by decide) rfl rfl Try.runUnderlying57 (hs_a0_2.mono (FLe.refl _) (sc4 (sc1 hM)))) ?_
 refine Lst.r (Ev.eql rfl rfl) ?_
 refine Lst.r (Ev.move rfl) ?_
 obtain ⟨o24, H, HKo24⟩ := bind_some H
 refine Lst.join (σ := Bool) 4 (fun y25 => [(2, pv b1 0), (3, pv b3 0), (4, pv b6 0), (5, pv b8 0), (37, .bool y25)]) (fun y25 => (.blk b3 (enc a1) 3) :: (.blk b8 (enc Num.zero) 61) :: (.blk b6 (enc (SkeenR.mk ({ Skeen.zero with Wait := ([] : List Wait) } : Skeen) Sl.nil)) 59) :: (.own Sl.nil 77 4 (encs ([] : List Wait))) :: (.blk b1 (enc (SkeenR.mk a0 s_a0_2)) 59) :: L) (fun _ y25 => y25 = o24) ?_ ?_
 ·rcases Bool.eq_false_or_eq_true ((a0.Wait.length : Int) == (40 : Int)) with hb26 | hb26
  ·replace H := ite_t hb26 H
   refine Lst.skip rfl rfl rfl hb26 rfl (by decide) ?_
   refine Lst.skip rfl rfl rfl hb26 rfl (by decide) ?_
   refine Lst.skip rfl rfl rfl hb26 rfl (by decide) ?_
   refine Lst.r (Ev.pickT rfl hb26 rfl) ?_
   refine Lst.nil ?_
   exact At.meet true (FLe.refl _) ⟨rfl, rfl, rfl, rfl, rfl, trivial⟩ rfl (some_inj H)
  replace H := ite_f hb26 H
  refine Lst.rG hb26 (Ev.fieldAddr (off' := 1) rfl Try.runUnderlying59 rfl Try.sizeOf3 rfl rfl) ?_
  refine Lst.rG hb26 (Ev.load (i := 4) rfl rfl Try.isAgg3 (v := iv a0.Clock) ((SkeenR.get_Clock (Get.here _)).off (by rfl))) ?_
  refine Lst.rG hb26 (Ev.eql rfl rfl) ?_
  refine Lst.r (Ev.pickF rfl hb26 rfl) ?_
  refine Lst.nil ?_
  exact At.meet (a0.Clock == (16777215 : Int)) (FLe.refl _) ⟨rfl, rfl, rfl, rfl, rfl, trivial⟩ rfl (some_inj H)
 rintro F27 y25 hF28 hy
 subst hy
 refine Lst.as (e' := [(2, pv b1 0), (3, pv b3 0), (4, pv b6 0), (5, pv b8 0), (37, .bool y25)]) (L' := (.blk b3 (enc a1) 3) :: (.blk b8 (enc Num.zero) 61) :: (.blk b6 (enc (SkeenR.mk ({ Skeen.zero with Wait := ([] : List Wait) } : Skeen) Sl.nil)) 59) :: (.own Sl.nil 77 4 (encs ([] : List Wait))) :: (.blk b1 (enc (SkeenR.mk a0 s_a0_2)) 59) :: L) ⟨rfl, rfl, rfl, rfl, rfl, trivial⟩ rfl ?_
 replace H := HKo24
 refine Lst.r (Ev.assign rfl) ?_
 refine Lst.nil ?_
 refine At.then ?_
 rcases Bool.eq_false_or_eq_true y25 with hb29 | hb29
 ·replace H := ite_t hb29 H
  refine Cd.condT rfl hb29 ?_
  refine Cd.seq ?_
  refine Cd.region ?_
  refine Lst.r (Ev.build (v := .agg (enc (SkeenR.mk Skeen.zero Sl.nil)).toArray) (pv := []) trivial (fun w => by kernel_rfl)) ?_
  refine Lst.r (Ev.build (v := .agg (enc Num.zero).toArray) (pv := []) trivial (fun w => by kernel_rfl)) ?_
  refine Lst.store (i := 2) rfl rfl rfl rfl rfl Try.sizeOf59 (vs := enc (SkeenR.mk Skeen.zero Sl.nil)) rfl (Enc.len _) (Enc.one _) (cs' := enc (SkeenR.mk Skeen.zero Sl.nil)) (Put.here ((Enc.len _).trans (Enc.len _).symm)) (L' := (.blk b3 (enc a1) 3) :: (.blk b8 (enc Num.zero) 61) :: (.blk b6 (enc (SkeenR.mk Skeen.zero Sl.nil)) 59) :: (.own Sl.nil 77 4 (encs ([] : List Wait))) :: (.blk b1 (enc (SkeenR.mk a0 s_a0_2)) 59) :: L) rfl ?_
  refine Lst.store (i := 1) rfl rfl rfl rfl rfl Try.sizeOf61 (vs := enc Num.zero) rfl (Enc.len _) (Enc.one _) (cs' := enc Num.zero) (Put.here ((Enc.len _).trans (Enc.len _).symm)) (L' := (.blk b3 (enc a1) 3) :: (.blk b8 (enc Num.zero) 61) :: (.blk b6 (enc (SkeenR.mk Skeen.zero Sl.nil)) 59) :: (.own Sl.nil 77 4 (encs ([] : List Wait))) :: (.blk b1 (enc (SkeenR.mk a0 s_a0_2)) 59) :: L) rfl ?_
  refine Lst.r (Ev.assign rfl) ?_
  refine Lst.nil ?_
  refine At.then ?_
  obtain rfl := some_inj H
  refine Cd.ret ?_
  refine At.in_ret ?_
  refine At.then_ret ?_
  refine At.addNil 77 4 ?_
  exact At.ret3 rfl (Res.cellA (i := 3) rfl rfl Try.isAgg59 Try.sizeOf59 (Enc.len _)) (Res.cellA (i := 2) rfl rfl Try.isAgg61 Try.sizeOf61 (Enc.len _)) (Res.tmp rfl) hF28 (sk1 (sc1 (sc1 (sc1 (sc1 (sc1 (.refl _))))))) ⟨Sl.nil, rfl, rfl⟩
 replace H := ite_f hb29 H
 refine Cd.condF rfl hb29 ?_
 refine Cd.skip ?_
 refine At.in_normal ?_
 refine At.then ?_
 refine Cd.seq ?_
 refine Cd.region ?_
 refine Lst.r (Ev.fieldAddr (off' := 1) rfl Try.runUnderlying59 rfl Try.sizeOf3 rfl rfl) ?_
 refine Lst.r (Ev.load (i := 4) rfl rfl Try.isAgg3 (v := iv a0.Clock) ((SkeenR.get_Clock (Get.here _)).off (by rfl))) ?_
 refine Lst.r (Ev.add rfl rfl) ?_
 refine Lst.r (Ev.fieldAddr (off' := 0) rfl Try.runUnderlying59 rfl Try.sizeOf3 rfl rfl) ?_
 refine Lst.r (Ev.load (i := 4) rfl rfl Try.isAgg3 (v := iv a0.Me) ((SkeenR.get_Me (Get.here _)).off (by rfl))) ?_
 refine Lst.r (Ev.build (v := .agg (enc ({ Num.zero with N := w64 (a0.Clock + (1 : Int)), By := a0.Me } : Num)).toArray) (pv := [(0, iv (w64 (a0.Clock + (1 : Int)))), (1, iv a0.Me)]) ⟨rfl, rfl, ⟨rfl, rfl, trivial⟩⟩ (fun w => by kernel_rfl)) ?_
 refine Lst.alloc (cs := enc Num.zero) rfl rfl (by decide) Try.zeroValue61 rfl (fun b31 => ?_)
 refine Lst.store (i := 0) rfl rfl rfl rfl rfl Try.sizeOf61 (vs := enc ({ Num.zero with N := w64 (a0.Clock + (1 : Int)), By := a0.Me } : Num)) rfl (Enc.len _) (Enc.one _) (cs' := enc ({ Num.zero with N := w64 (a0.Clock + (1 : Int)), By := a0.Me } : Num)) (Put.here ((Enc.len _).trans (Enc.len _).symm)) (L' := (.blk b31 (enc ({ Num.zero with N := w64 (a0.Clock + (1 : Int)), By := a0.Me } : Num)) 61) :: (.blk b3 (enc a1) 3) :: (.blk b8 (enc Num.zero) 61) :: (.blk b6 (enc (SkeenR.mk ({ Skeen.zero with Wait := ([] : List Wait) } : Skeen) Sl.nil)) 59) :: (.own Sl.nil 77 4 (encs ([] : List Wait))) :: (.blk b1 (enc (SkeenR.mk a0 s_a0_2)) 59) :: L) rfl ?_
 refine Lst.nil ?_
 refine At.then ?_
 refine Cd.seq ?_
 obtain ⟨r33, h34, H⟩ := bind_some H
 obtain ⟨u41, h42, H⟩ := bind_some H
 obtain ⟨o47, h48, H⟩ := Let_some H
 refine Cd.headMeet (σ := Sl × (List Wait)) 15 (fun (s45, l46) => [(4, pv b6 0), (5, pv b8 0), (59, .agg (enc ({ Num.zero with N := w64 (a0.Clock + (1 : Int)), By := a0.Me } : Num)).toArray)]) (fun (s45, l46) => (.own s45 77 4 (encs l46)) :: (.blk b31 (enc ({ Num.zero with N := w64 (a0.Clock + (1 : Int)), By := a0.Me } : Num)) 61) :: (.blk b3 (enc a1) 3) :: (.blk b8 (enc Num.zero) 61) :: (.blk b6 (enc (SkeenR.mk ({ Skeen.zero with Me := a0.Me, Clock := w64 (a0.Clock + (1 : Int)), Wait := l46 } : Skeen) s45)) 59) :: (.own Sl.nil 77 4 (encs ([] : List Wait))) :: (.blk b1 (enc (SkeenR.mk a0 s_a0_2)) 59) :: L) (fun _ (s45, l46) => l46 = o47) (by kernel_rfl) (by kernel_rfl) (behind_sink (by kernel_rfl) (by kernel_rfl) (by kernel_rfl)) (by kernel_rfl) (fun hsel hlt => ?_) ?_
 ·refine HdJ.keep (fun w => St w0 F27 ((.blk b31 (enc ({ Num.zero with N := w64 (a0.Clock + (1 : Int)), By := a0.Me } : Num)) 61) :: (.blk b3 (enc a1) 3) :: (.blk b8 (enc Num.zero) 61) :: (.own Sl.nil 77 4 (encs ([] : List Wait))) :: (.blk b1 (enc (SkeenR.mk a0 s_a0_2)) 59) :: L) w) (fun w h => trivial) ?_
  refine HdJ.tk hsel hlt 0 (fun w h => h.sublist (sk1 (sk1 (sk1 (sc1 (sk1 (sk1 (.refl _)))))))) rfl (Ev.fieldAddr (off' := 0) rfl Try.runUnderlying59 rfl Try.sizeOf3 rfl rfl) ?_
  refine HdJ.tk hsel hlt 1 (fun w h => h.sublist (sk1 (sk1 (sk1 (sc1 (sk1 (sk1 (.refl _)))))))) rfl (Ev.load (i := 4) rfl rfl Try.isAgg3 (v := iv a0.Me) ((SkeenR.get_Me (Get.here _)).off (by rfl))) ?_
  refine HdJ.tk hsel hlt 2 (fun w h => h.sublist (sk1 (sk1 (sk1 (sc1 (sk1 (sk1 (.refl _)))))))) rfl (Ev.fieldAddr (off' := 0) rfl Try.runUnderlying61 rfl Try.sizeOf3 rfl rfl) ?_
  refine HdJ.tk hsel hlt 3 (fun w h => h.sublist (sk1 (sk1 (sk1 (sc1 (sk1 (sk1 (.refl _)))))))) rfl (Ev.load (i := 0) rfl rfl Try.isAgg3 (v := iv (w64 (a0.Clock + (1 : Int)))) ((Num.get_N (Get.here _)).off (by rfl))) ?_
  refine HdJ.tk hsel hlt 4 (fun w h => h.sublist (sk1 (sk1 (sk1 (sc1 (sk1 (sk1 (.refl _)))))))) rfl (Ev.fieldAddr (off' := 2) rfl Try.runUnderlying59 rfl Try.sizeOf57 rfl rfl) ?_
  refine HdJ.tk hsel hlt 5 (fun w h => h.sublist (sk1 (sk1 (sk1 (sc1 (sk1 (sk1 (.refl _)))))))) rfl (Ev.load (i := 4) rfl rfl Try.isAgg57 (v := Sl.v s_a0_2) ((SkeenR.get_Wait (Get.here _)).off (by rfl))) ?_
  refine HdJ.tk hsel hlt 7 (fun w h => h.sublist (sk1 (sk1 (sk1 (sc1 (sk1 (sk1 (.refl _)))))))) rfl (Ev.load (i := 1) rfl rfl Try.isAgg3 (v := iv a1) (Get.here _)) ?_
  refine HdJ.tk hsel hlt 8 (fun w h => h.sublist (sk1 (sk1 (sk1 (sc1 (sk1 (sk1 (.refl _)))))))) rfl (Ev.loadA (i := 0) rfl rfl Try.isAgg61 Try.sizeOf61 (ch := enc ({ Num.zero with N := w64 (a0.Clock + (1 : Int)), By := a0.Me } : Num)) (Enc.len _) (Get.here _)) ?_
  refine HdJ.tk hsel hlt 9 (fun w h => h.sublist (sk1 (sk1 (sk1 (sc1 (sk1 (sk1 (.refl _)))))))) rfl (Ev.build (v := .agg (enc ({ Wait.zero with Id := a1, Num_ := ({ Num.zero with N := w64 (a0.Clock + (1 : Int)), By := a0.Me } : Num) } : Wait)).toArray) (pv := [(0, iv a1), (1, .agg (enc ({ Num.zero with N := w64 (a0.Clock + (1 : Int)), By := a0.Me } : Num)).toArray)]) ⟨rfl, rfl, ⟨rfl, rfl, trivial⟩⟩ (run_buildStruct (places := #[(0, 1), (1, 2), (3, 1)]) Try.zeroValue77 (zs := enc Wait.zero) rfl Try.runUnderlying77 (fun w => by kernel_rfl) (fill_cons (cs := enc Wait.zero) (cs' := enc ({ Wait.zero with Id := a1 } : Wait)) (vs := [iv a1]) rfl rfl rfl ((Wait.put_Id (p := Wait.zero) (y := a1) (Put.here (vs := [iv a1]) rfl)).off rfl) (fill_cons (cs := enc ({ Wait.zero with Id := a1 } : Wait)) (cs' := enc ({ Wait.zero with Id := a1, Num_ := ({ Num.zero with N := w64 (a0.Clock + (1 : Int)), By := a0.Me } : Num) } : Wait)) (vs := enc ({ Num.zero with N := w64 (a0.Clock + (1 : Int)), By := a0.Me } : Num)) rfl rfl (Enc.len _) ((Wait.put_Num_ (p := ({ Wait.zero with Id := a1 } : Wait)) (y := ({ Num.zero with N := w64 (a0.Clock + (1 : Int)), By := a0.Me } : Num)) (Put.here ((Enc.len _).trans (Enc.len _).symm))).off rfl) fill_nil)))) ?_
  refine HdJ.tk hsel hlt 13 (fun w h => h.sublist (sk1 (sk1 (sk1 (sc1 (sk1 (sk1 (.refl _)))))))) rfl (Ev.loadA (i := 0) rfl rfl Try.isAgg61 Try.sizeOf61 (ch := enc ({ Num.zero with N := w64 (a0.Clock + (1 : Int)), By := a0.Me } : Num)) (Enc.len _) (Get.here _)) ?_
  refine HdJ.step [6, 10] (by kernel_rfl) rfl ?_
  refine HdStep.c (fun inv => ?_) ?_
  ·refine Lst.call rfl rfl (by decide) (vs := [Sl.v s_a0_2]) ⟨rfl, trivial⟩ Try.call78 (slices_Clone_api_Wait_api_Wait_sim h34 w0 _ M _ (sc4 (sc2 hM)) (hs_a0_2.mono hF28 (.refl _))) (fun F50 L' v hF51 hv => ?_)
   obtain ⟨s49, rfl, rfl⟩ := hv
   refine Lst.nil ?_
   refine At.hd inv (fun w h => (h.weaken hF51).sublist (sc1 (sk1 (sk1 (sk1 (sc1 (sk1 (sk1 (.refl _))))))))) ?_
   refine HdJ.step [10] (by kernel_rfl) rfl ?_
   refine HdStep.c (fun inv => ?_) ?_
   ·refine Lst.buildSlice (α := Wait) (xs := ([({ Wait.zero with Id := a1, Num_ := ({ Num.zero with N := w64 (a0.Clock + (1 : Int)), By := a0.Me } : Num) } : Wait)] : List Wait)) (pv := [(0, .agg (enc ({ Wait.zero with Id := a1, Num_ := ({ Num.zero with N := w64 (a0.Clock + (1 : Int)), By := a0.Me } : Num) } : Wait)).toArray)]) rfl rfl (by decide) ⟨rfl, rfl, trivial⟩ (run_buildSlice (α := Wait) (z0 := Wait.zero) (xs := ([({ Wait.zero with Id := a1, Num_ := ({ Num.zero with N := w64 (a0.Clock + (1 : Int)), By := a0.Me } : Num) } : Wait)] : List Wait)) Try.runUnderlying57 Try.sizeOf77 Try.zeroValue77 rfl rfl rfl (by decide) rfl (fill_cons (cs := encs (List.replicate 1 Wait.zero)) (cs' := encs ((List.replicate 1 Wait.zero).set 0 ({ Wait.zero with Id := a1, Num_ := ({ Num.zero with N := w64 (a0.Clock + (1 : Int)), By := a0.Me } : Num) } : Wait))) (vs := enc ({ Wait.zero with Id := a1, Num_ := ({ Num.zero with N := w64 (a0.Clock + (1 : Int)), By := a0.Me } : Num) } : Wait)) rfl rfl (Enc.len _) ((Put.elemN (s := 4) (i := 0) (x := Wait.zero) (y := ({ Wait.zero with Id := a1, Num_ := ({ Num.zero with N := w64 (a0.Clock + (1 : Int)), By := a0.Me } : Num) } : Wait)) rfl rfl (Put.here ((Enc.len _).trans (Enc.len _).symm))).off rfl) fill_nil)) rfl rfl (by decide) (fun s52 _ => ?_)
    refine Lst.nil ?_
    refine At.hd inv (fun w h => (h.weaken hF51).sublist (sc1 (sc1 (sk1 (sk1 (sk1 (sc1 (sk1 (sk1 (.refl _)))))))))) ?_
    refine HdJ.step [11] (by kernel_rfl) rfl ?_
    refine HdStep.c (fun inv => ?_) ?_
    ·refine Lst.append (i := 1) (α := Wait) (xs := r33) (ys := ([({ Wait.zero with Id := a1, Num_ := ({ Num.zero with N := w64 (a0.Clock + (1 : Int)), By := a0.Me } : Num) } : Wait)] : List Wait)) rfl rfl (by decide) rfl rfl Try.runUnderlying57 Try.typeInfo77 rfl rfl rfl rfl rfl rfl (Rd.own (i := 0) rfl rfl rfl) rfl (room_some h42) rfl (fun s53 => ?_)
     refine Lst.its (L' := (.own s52 77 4 (encs ([({ Wait.zero with Id := a1, Num_ := ({ Num.zero with N := w64 (a0.Clock + (1 : Int)), By := a0.Me } : Num) } : Wait)] : List Wait))) :: (.own s53 77 4 (encs (r33 ++ ([({ Wait.zero with Id := a1, Num_ := ({ Num.zero with N := w64 (a0.Clock + (1 : Int)), By := a0.Me } : Num) } : Wait)] : List Wait)))) :: (.blk b31 (enc ({ Num.zero with N := w64 (a0.Clock + (1 : Int)), By := a0.Me } : Num)) 61) :: (.blk b3 (enc a1) 3) :: (.blk b8 (enc Num.zero) 61) :: (.blk b6 (enc (SkeenR.mk ({ Skeen.zero with Wait := ([] : List Wait) } : Skeen) Sl.nil)) 59) :: (.own Sl.nil 77 4 (encs ([] : List Wait))) :: (.blk b1 (enc (SkeenR.mk a0 s_a0_2)) 59) :: L) rfl ?_
     refine Lst.nil ?_
     refine At.hd inv (fun w h => (h.weaken hF51).sublist (sc1 (sc1 (sk1 (sk1 (sk1 (sc1 (sk1 (sk1 (.refl _)))))))))) ?_
     refine HdJ.keep (fun w => St w0 F50 ((.own s52 77 4 (encs ([({ Wait.zero with Id := a1, Num_ := ({ Num.zero with N := w64 (a0.Clock + (1 : Int)), By := a0.Me } : Num) } : Wait)] : List Wait))) :: (.own s53 77 4 (encs (r33 ++ ([({ Wait.zero with Id := a1, Num_ := ({ Num.zero with N := w64 (a0.Clock + (1 : Int)), By := a0.Me } : Num) } : Wait)] : List Wait)))) :: (.blk b31 (enc ({ Num.zero with N := w64 (a0.Clock + (1 : Int)), By := a0.Me } : Num)) 61) :: (.blk b3 (enc a1) 3) :: (.blk b8 (enc Num.zero) 61) :: (.own Sl.nil 77 4 (encs ([] : List Wait))) :: (.blk b1 (enc (SkeenR.mk a0 s_a0_2)) 59) :: L) w) (fun w h => (h.weaken hF51).sublist (sc1 (sc1 (sk1 (sk1 (sk1 (sk1 (sk1 (.refl _))))))))) ?_
     refine HdJ.tk hsel hlt 12 (fun w h => h.sublist (sk1 (sk1 (sk1 (sk1 (sk1 (sc1 (sk1 (sk1 (.refl _)))))))))) rfl (Ev.build (v := .agg (enc (SkeenR.mk ({ Skeen.zero with Me := a0.Me, Clock := w64 (a0.Clock + (1 : Int)), Wait := r33 ++ ([({ Wait.zero with Id := a1, Num_ := ({ Num.zero with N := w64 (a0.Clock + (1 : Int)), By := a0.Me } : Num) } : Wait)] : List Wait) } : Skeen) s53)).toArray) (pv := [(0, iv a0.Me), (1, iv (w64 (a0.Clock + (1 : Int)))), (2, Sl.v s53)]) ⟨rfl, rfl, ⟨rfl, rfl, ⟨rfl, rfl, trivial⟩⟩⟩ (run_buildStruct (places := #[(0, 1), (1, 1), (2, 1)]) Try.zeroValue59 (zs := enc (SkeenR.mk Skeen.zero Sl.nil)) rfl Try.runUnderlying59 (fun w => by kernel_rfl) (fill_cons (cs := enc (SkeenR.mk Skeen.zero Sl.nil)) (cs' := enc (SkeenR.mk ({ Skeen.zero with Me := a0.Me } : Skeen) Sl.nil)) (vs := [iv a0.Me]) rfl rfl rfl ((SkeenR.put_Me (p := (SkeenR.mk Skeen.zero Sl.nil)) (y := a0.Me) (Put.here (vs := [iv a0.Me]) rfl)).off rfl) (fill_cons (cs := enc (SkeenR.mk ({ Skeen.zero with Me := a0.Me } : Skeen) Sl.nil)) (cs' := enc (SkeenR.mk ({ Skeen.zero with Me := a0.Me, Clock := w64 (a0.Clock + (1 : Int)) } : Skeen) Sl.nil)) (vs := [iv (w64 (a0.Clock + (1 : Int)))]) rfl rfl rfl ((SkeenR.put_Clock (p := (SkeenR.mk ({ Skeen.zero with Me := a0.Me } : Skeen) Sl.nil)) (y := (w64 (a0.Clock + (1 : Int)))) (Put.here (vs := [iv (w64 (a0.Clock + (1 : Int)))]) rfl)).off rfl) (fill_cons (cs := enc (SkeenR.mk ({ Skeen.zero with Me := a0.Me, Clock := w64 (a0.Clock + (1 : Int)) } : Skeen) Sl.nil)) (cs' := enc (SkeenR.mk ({ Skeen.zero with Me := a0.Me, Clock := w64 (a0.Clock + (1 : Int)), Wait := r33 ++ ([({ Wait.zero with Id := a1, Num_ := ({ Num.zero with N := w64 (a0.Clock + (1 : Int)), By := a0.Me } : Num) } : Wait)] : List Wait) } : Skeen) s53)) (vs := [Sl.v s53]) rfl rfl rfl ((SkeenR.put_Wait (p := (SkeenR.mk ({ Skeen.zero with Me := a0.Me, Clock := w64 (a0.Clock + (1 : Int)) } : Skeen) Sl.nil)) (y := s53) (Put.here (vs := [Sl.v s53]) rfl)).off rfl) fill_nil))))) ?_
     refine HdJ.step [14] (by kernel_rfl) rfl ?_
     refine HdStep.c (fun inv => ?_) ?_
     ·refine Lst.store (i := 5) rfl rfl rfl rfl rfl Try.sizeOf59 (vs := enc (SkeenR.mk ({ Skeen.zero with Me := a0.Me, Clock := w64 (a0.Clock + (1 : Int)), Wait := r33 ++ ([({ Wait.zero with Id := a1, Num_ := ({ Num.zero with N := w64 (a0.Clock + (1 : Int)), By := a0.Me } : Num) } : Wait)] : List Wait) } : Skeen) s53)) rfl (Enc.len _) (Enc.one _) (cs' := enc (SkeenR.mk ({ Skeen.zero with Me := a0.Me, Clock := w64 (a0.Clock + (1 : Int)), Wait := r33 ++ ([({ Wait.zero with Id := a1, Num_ := ({ Num.zero with N := w64 (a0.Clock + (1 : Int)), By := a0.Me } : Num) } : Wait)] : List Wait) } : Skeen) s53)) (Put.here ((Enc.len _).trans (Enc.len _).symm)) (L' := (.own s52 77 4 (encs ([({ Wait.zero with Id := a1, Num_ := ({ Num.zero with N := w64 (a0.Clock + (1 : Int)), By := a0.Me } : Num) } : Wait)] : List Wait))) :: (.own s53 77 4 (encs (r33 ++ ([({ Wait.zero with Id := a1, Num_ := ({ Num.zero with N := w64 (a0.Clock + (1 : Int)), By := a0.Me } : Num) } : Wait)] : List Wait)))) :: (.blk b31 (enc ({ Num.zero with N := w64 (a0.Clock + (1 : Int)), By := a0.Me } : Num)) 61) :: (.blk b3 (enc a1) 3) :: (.blk b8 (enc Num.zero) 61) :: (.blk b6 (enc (SkeenR.mk ({ Skeen.zero with Me := a0.Me, Clock := w64 (a0.Clock + (1 : Int)), Wait := r33 ++ ([({ Wait.zero with Id := a1, Num_ := ({ Num.zero with N := w64 (a0.Clock + (1 : Int)), By := a0.Me } : Num) } : Wait)] : List Wait) } : Skeen) s53)) 59) :: (.own Sl.nil 77 4 (encs ([] : List Wait))) :: (.blk b1 (enc (SkeenR.mk a0 s_a0_2)) 59) :: L) rfl ?_
      refine Lst.nil ?_
      refine At.hd inv (fun w h => (h.weaken (FLe.refl _)).sublist (sk1 (sk1 (sk1 (sk1 (sk1 (sc1 (sk1 (sk1 (.refl _)))))))))) ?_
      refine HdJ.done (by kernel_rfl) ?_
      refine At.less (L' := (.own s53 77 4 (encs (r33 ++ ([({ Wait.zero with Id := a1, Num_ := ({ Num.zero with N := w64 (a0.Clock + (1 : Int)), By := a0.Me } : Num) } : Wait)] : List Wait)))) :: (.blk b31 (enc ({ Num.zero with N := w64 (a0.Clock + (1 : Int)), By := a0.Me } : Num)) 61) :: (.blk b3 (enc a1) 3) :: (.blk b8 (enc Num.zero) 61) :: (.blk b6 (enc (SkeenR.mk ({ Skeen.zero with Me := a0.Me, Clock := w64 (a0.Clock + (1 : Int)), Wait := r33 ++ ([({ Wait.zero with Id := a1, Num_ := ({ Num.zero with N := w64 (a0.Clock + (1 : Int)), By := a0.Me } : Num) } : Wait)] : List Wait) } : Skeen) s53)) 59) :: (.own Sl.nil 77 4 (encs ([] : List Wait))) :: (.blk b1 (enc (SkeenR.mk a0 s_a0_2)) 59) :: L) (sc1 (sk1 (sk1 (sk1 (sk1 (sk1 (sk1 (sk1 (.refl _))))))))) ?_
      exact At.meetN (s53, r33 ++ ([({ Wait.zero with Id := a1, Num_ := ({ Num.zero with N := w64 (a0.Clock + (1 : Int)), By := a0.Me } : Num) } : Wait)] : List Wait)) hF51 ⟨rfl, rfl, rfl, trivial⟩ rfl h48
     exact trivial
    exact trivial
   exact trivial
  refine HdStep.c (fun inv => ?_) ?_
  ·refine Lst.buildSlice (α := Wait) (xs := ([({ Wait.zero with Id := a1, Num_ := ({ Num.zero with N := w64 (a0.Clock + (1 : Int)), By := a0.Me } : Num) } : Wait)] : List Wait)) (pv := [(0, .agg (enc ({ Wait.zero with Id := a1, Num_ := ({ Num.zero with N := w64 (a0.Clock + (1 : Int)), By := a0.Me } : Num) } : Wait)).toArray)]) rfl rfl (by decide) ⟨rfl, rfl, trivial⟩ (run_buildSlice (α := Wait) (z0 := Wait.zero) (xs := ([({ Wait.zero with Id := a1, Num_ := ({ Num.zero with N := w64 (a0.Clock + (1 : Int)), By := a0.Me } : Num) } : Wait)] : List Wait)) Try.runUnderlying57 Try.sizeOf77 Try.zeroValue77 rfl rfl rfl (by decide) rfl (fill_cons (cs := encs (List.replicate 1 Wait.zero)) (cs' := encs ((List.replicate 1 Wait.zero).set 0 ({ Wait.zero with Id := a1, Num_ := ({ Num.zero with N := w64 (a0.Clock + (1 : Int)), By := a0.Me } : Num) } : Wait))) (vs := enc ({ Wait.zero with Id := a1, Num_ := ({ Num.zero with N := w64 (a0.Clock + (1 : Int)), By := a0.Me } : Num) } : Wait)) rfl rfl (Enc.len _) ((Put.elemN (s := 4) (i := 0) (x := Wait.zero) (y := ({ Wait.zero with Id := a1, Num_ := ({ Num.zero with N := w64 (a0.Clock + (1 : Int)), By := a0.Me } : Num) } : Wait)) rfl rfl (Put.here ((Enc.len _).trans (Enc.len _).symm))).off rfl) fill_nil)) rfl rfl (by decide) (fun s54 _ => ?_)
   refine Lst.nil ?_
   refine At.hd inv (fun w h => (h.weaken (FLe.refl _)).sublist (sc1 (sk1 (sk1 (sk1 (sc1 (sk1 (sk1 (.refl _))))))))) ?_
   refine HdJ.step [6] (by kernel_rfl) rfl ?_
   refine HdStep.c (fun inv => ?_) ?_
   ·refine Lst.call rfl rfl (by decide) (vs := [Sl.v s_a0_2]) ⟨rfl, trivial⟩ Try.call78 (slices_Clone_api_Wait_api_Wait_sim h34 w0 _ M _ (sc4 (sc2 (sc1 hM))) (hs_a0_2.mono hF28 (.refl _))) (fun F56 L' v hF57 hv => ?_)
    obtain ⟨s55, rfl, rfl⟩ := hv
    refine Lst.nil ?_
    refine At.hd inv (fun w h => (h.weaken hF57).sublist (sc1 (sc1 (sk1 (sk1 (sk1 (sc1 (sk1 (sk1 (.refl _)))))))))) ?_
    refine HdJ.step [11] (by kernel_rfl) rfl ?_
    refine HdStep.c (fun inv => ?_) ?_
    ·refine Lst.append (i := 0) (α := Wait) (xs := r33) (ys := ([({ Wait.zero with Id := a1, Num_ := ({ Num.zero with N := w64 (a0.Clock + (1 : Int)), By := a0.Me } : Num) } : Wait)] : List Wait)) rfl rfl (by decide) rfl rfl Try.runUnderlying57 Try.typeInfo77 rfl rfl rfl rfl rfl rfl (Rd.own (i := 1) rfl rfl rfl) rfl (room_some h42) rfl (fun s58 => ?_)
     refine Lst.its (L' := (.own s58 77 4 (encs (r33 ++ ([({ Wait.zero with Id := a1, Num_ := ({ Num.zero with N := w64 (a0.Clock + (1 : Int)), By := a0.Me } : Num) } : Wait)] : List Wait)))) :: (.own s54 77 4 (encs ([({ Wait.zero with Id := a1, Num_ := ({ Num.zero with N := w64 (a0.Clock + (1 : Int)), By := a0.Me } : Num) } : Wait)] : List Wait))) :: (.blk b31 (enc ({ Num.zero with N := w64 (a0.Clock + (1 : Int)), By := a0.Me } : Num)) 61) :: (.blk b3 (enc a1) 3) :: (.blk b8 (enc Num.zero) 61) :: (.blk b6 (enc (SkeenR.mk ({ Skeen.zero with Wait := ([] : List Wait) } : Skeen) Sl.nil)) 59) :: (.own Sl.nil 77 4 (encs ([] : List Wait))) :: (.blk b1 (enc (SkeenR.mk a0 s_a0_2)) 59) :: L) rfl ?_
     refine Lst.nil ?_
     refine At.hd inv (fun w h => (h.weaken hF57).sublist (sc1 (sc1 (sk1 (sk1 (sk1 (sc1 (sk1 (sk1 (.refl _)))))))))) ?_
     refine HdJ.keep (fun w => St w0 F56 ((.own s58 77 4 (encs (r33 ++ ([({ Wait.zero with Id := a1, Num_ := ({ Num.zero with N := w64 (a0.Clock + (1 : Int)), By := a0.Me } : Num) } : Wait)] : List Wait)))) :: (.own s54 77 4 (encs ([({ Wait.zero with Id := a1, Num_ := ({ Num.zero with N := w64 (a0.Clock + (1 : Int)), By := a0.Me } : Num) } : Wait)] : List Wait))) :: (.blk b31 (enc ({ Num.zero with N := w64 (a0.Clock + (1 : Int)), By := a0.Me } : Num)) 61) :: (.blk b3 (enc a1) 3) :: (.blk b8 (enc Num.zero) 61) :: (.own Sl.nil 77 4 (encs ([] : List Wait))) :: (.blk b1 (enc (SkeenR.mk a0 s_a0_2)) 59) :: L) w) (fun w h => (h.weaken hF57).sublist (sc1 (sc1 (sk1 (sk1 (sk1 (sk1 (sk1 (.refl _))))))))) ?_
     refine HdJ.tk hsel hlt 12 (fun w h => h.sublist (sk1 (sk1 (sk1 (sk1 (sk1 (sc1 (sk1 (sk1 (.refl _)))))))))) rfl (Ev.build (v := .agg (enc (SkeenR.mk ({ Skeen.zero with Me := a0.Me, Clock := w64 (a0.Clock + (1 : Int)), Wait := r33 ++ ([({ Wait.zero with Id := a1, Num_ := ({ Num.zero with N := w64 (a0.Clock + (1 : Int)), By := a0.Me } : Num) } : Wait)] : List Wait) } : Skeen) s58)).toArray) (pv := [(0, iv a0.Me), (1, iv (w64 (a0.Clock + (1 : Int)))), (2, Sl.v s58)]) ⟨rfl, rfl, ⟨rfl, rfl, ⟨rfl, rfl, trivial⟩⟩⟩ (run_buildStruct (places := #[(0, 1), (1, 1), (2, 1)]) Try.zeroValue59 (zs := enc (SkeenR.mk Skeen.zero Sl.nil)) rfl Try.runUnderlying59 (fun w => by kernel_rfl) (fill_cons (cs := enc (SkeenR.mk Skeen.zero Sl.nil)) (cs' := enc (SkeenR.mk ({ Skeen.zero with Me := a0.Me } : Skeen) Sl.nil)) (vs := [iv a0.Me]) rfl rfl rfl ((SkeenR.put_Me (p := (SkeenR.mk Skeen.zero Sl.nil)) (y := a0.Me) (Put.here (vs := [iv a0.Me]) rfl)).off rfl) (fill_cons (cs := enc (SkeenR.mk ({ Skeen.zero with Me := a0.Me } : Skeen) Sl.nil)) (cs' := enc (SkeenR.mk ({ Skeen.zero with Me := a0.Me, Clock := w64 (a0.Clock + (1 : Int)) } : Skeen) Sl.nil)) (vs := [iv (w64 (a0.Clock + (1 : Int)))]) rfl rfl rfl ((SkeenR.put_Clock (p := (SkeenR.mk ({ Skeen.zero with Me := a0.Me } : Skeen) Sl.nil)) (y := (w64 (a0.Clock + (1 : Int)))) (Put.here (vs := [iv (w64 (a0.Clock + (1 : Int)))]) rfl)).off rfl) (fill_cons (cs := enc (SkeenR.mk ({ Skeen.zero with Me := a0.Me, Clock := w64 (a0.Clock + (1 : Int)) } : Skeen) Sl.nil)) (cs' := enc (SkeenR.mk ({ Skeen.zero with Me := a0.Me, Clock := w64 (a0.Clock + (1 : Int)), Wait := r33 ++ ([({ Wait.zero with Id := a1, Num_ := ({ Num.zero with N := w64 (a0.Clock + (1 : Int)), By := a0.Me } : Num) } : Wait)] : List Wait) } : Skeen) s58)) (vs := [Sl.v s58]) rfl rfl rfl ((SkeenR.put_Wait (p := (SkeenR.mk ({ Skeen.zero with Me := a0.Me, Clock := w64 (a0.Clock + (1 : Int)) } : Skeen) Sl.nil)) (y := s58) (Put.here (vs := [Sl.v s58]) rfl)).off rfl) fill_nil))))) ?_
     refine HdJ.step [14] (by kernel_rfl) rfl ?_
     refine HdStep.c (fun inv => ?_) ?_
     ·refine Lst.store (i := 5) rfl rfl rfl rfl rfl Try.sizeOf59 (vs := enc (SkeenR.mk ({ Skeen.zero with Me := a0.Me, Clock := w64 (a0.Clock + (1 : Int)), Wait := r33 ++ ([({ Wait.zero with Id := a1, Num_ := ({ Num.zero with N := w64 (a0.Clock + (1 : Int)), By := a0.Me } : Num) } : Wait)] : List Wait) } : Skeen) s58)) rfl (Enc.len _) (Enc.one _) (cs' := enc (SkeenR.mk ({ Skeen.zero with Me := a0.Me, Clock := w64 (a0.Clock + (1 : Int)), Wait := r33 ++ ([({ Wait.zero with Id := a1, Num_ := ({ Num.zero with N := w64 (a0.Clock + (1 : Int)), By := a0.Me } : Num) } : Wait)] : List Wait) } : Skeen) s58)) (Put.here ((Enc.len _).trans (Enc.len _).symm)) (L' := (.own s58 77 4 (encs (r33 ++ ([({ Wait.zero with Id := a1, Num_ := ({ Num.zero with N := w64 (a0.Clock + (1 : Int)), By := a0.Me } : Num) } : Wait)] : List Wait)))) :: (.own s54 77 4 (encs ([({ Wait.zero with Id := a1, Num_ := ({ Num.zero with N := w64 (a0.Clock + (1 : Int)), By := a0.Me } : Num) } : Wait)] : List Wait))) :: (.blk b31 (enc ({ Num.zero with N := w64 (a0.Clock + (1 : Int)), By := a0.Me } : Num)) 61) :: (.blk b3 (enc a1) 3) :: (.blk b8 (enc Num.zero) 61) :: (.blk b6 (enc (SkeenR.mk ({ Skeen.zero with Me := a0.Me, Clock := w64 (a0.Clock + (1 : Int)), Wait := r33 ++ ([({ Wait.zero with Id := a1, Num_ := ({ Num.zero with N := w64 (a0.Clock + (1 : Int)), By := a0.Me } : Num) } : Wait)] : List Wait) } : Skeen) s58)) 59) :: (.own Sl.nil 77 4 (encs ([] : List Wait))) :: (.blk b1 (enc (SkeenR.mk a0 s_a0_2)) 59) :: L) rfl ?_
      refine Lst.nil ?_
      refine At.hd inv (fun w h => (h.weaken (FLe.refl _)).sublist (sk1 (sk1 (sk1 (sk1 (sk1 (sc1 (sk1 (sk1 (.refl _)))))))))) ?_
      refine HdJ.done (by kernel_rfl) ?_
      refine At.less (L' := (.own s58 77 4 (encs (r33 ++ ([({ Wait.zero with Id := a1, Num_ := ({ Num.zero with N := w64 (a0.Clock + (1 : Int)), By := a0.Me } : Num) } : Wait)] : List Wait)))) :: (.blk b31 (enc ({ Num.zero with N := w64 (a0.Clock + (1 : Int)), By := a0.Me } : Num)) 61) :: (.blk b3 (enc a1) 3) :: (.blk b8 (enc Num.zero) 61) :: (.blk b6 (enc (SkeenR.mk ({ Skeen.zero with Me := a0.Me, Clock := w64 (a0.Clock + (1 : Int)), Wait := r33 ++ ([({ Wait.zero with Id := a1, Num_ := ({ Num.zero with N := w64 (a0.Clock + (1 : Int)), By := a0.Me } : Num) } : Wait)] : List Wait) } : Skeen) s58)) 59) :: (.own Sl.nil 77 4 (encs ([] : List Wait))) :: (.blk b1 (enc (SkeenR.mk a0 s_a0_2)) 59) :: L) (sk1 (sc1 (sk1 (sk1 (sk1 (sk1 (sk1 (sk1 (.refl _))))))))) ?_
      exact At.meetN (s58, r33 ++ ([({ Wait.zero with Id := a1, Num_ := ({ Num.zero with N := w64 (a0.Clock + (1 : Int)), By := a0.Me } : Num) } : Wait)] : List Wait)) hF57 ⟨rfl, rfl, rfl, trivial⟩ rfl h48
     exact trivial
    exact trivial
   exact trivial
  exact trivial
 rintro F59 ⟨s45, l46⟩ hF60 hy
 subst hy
 refine Lst.as (e' := [(4, pv b6 0), (5, pv b8 0), (59, .agg (enc ({ Num.zero with N := w64 (a0.Clock + (1 : Int)), By := a0.Me } : Num)).toArray)]) (L' := (.own s45 77 4 (encs l46)) :: (.blk b31 (enc ({ Num.zero with N := w64 (a0.Clock + (1 : Int)), By := a0.Me } : Num)) 61) :: (.blk b3 (enc a1) 3) :: (.blk b8 (enc Num.zero) 61) :: (.blk b6 (enc (SkeenR.mk ({ Skeen.zero with Me := a0.Me, Clock := w64 (a0.Clock + (1 : Int)), Wait := l46 } : Skeen) s45)) 59) :: (.own Sl.nil 77 4 (encs ([] : List Wait))) :: (.blk b1 (enc (SkeenR.mk a0 s_a0_2)) 59) :: L) ⟨rfl, rfl, rfl, trivial⟩ rfl ?_
 refine Lst.store (i := 3) rfl rfl rfl rfl rfl Try.sizeOf61 (vs := enc ({ Num.zero with N := w64 (a0.Clock + (1 : Int)), By := a0.Me } : Num)) rfl (Enc.len _) (Enc.one _) (cs' := enc ({ Num.zero with N := w64 (a0.Clock + (1 : Int)), By := a0.Me } : Num)) (Put.here ((Enc.len _).trans (Enc.len _).symm)) (L' := (.own s45 77 4 (encs l46)) :: (.blk b31 (enc ({ Num.zero with N := w64 (a0.Clock + (1 : Int)), By := a0.Me } : Num)) 61) :: (.blk b3 (enc a1) 3) :: (.blk b8 (enc ({ Num.zero with N := w64 (a0.Clock + (1 : Int)), By := a0.Me } : Num)) 61) :: (.blk b6 (enc (SkeenR.mk ({ Skeen.zero with Me := a0.Me, Clock := w64 (a0.Clock + (1 : Int)), Wait := l46 } : Skeen) s45)) 59) :: (.own Sl.nil 77 4 (encs ([] : List Wait))) :: (.blk b1 (enc (SkeenR.mk a0 s_a0_2)) 59) :: L) rfl ?_
 refine Lst.r (Ev.assign rfl) ?_
 refine Lst.nil ?_
 refine At.then ?_
 obtain rfl := some_inj H
 refine Cd.ret ?_
 exact At.ret3 rfl (Res.cellA (i := 4) rfl rfl Try.isAgg59 Try.sizeOf59 (Enc.len _)) (Res.cellA (i := 3) rfl rfl Try.isAgg61 Try.sizeOf61 (Enc.len _)) (Res.tmp rfl) (FLe.trans hF28 hF60) (sk1 (sc1 (sc1 (sc1 (sc1 (sc1 (sc1 (.refl _)))))))) ⟨s45, rfl, rfl⟩
set_option maxRecDepth 20000 in
theorem skeen_Fix_1_sim {a0 : Wait} {a1 : Int} {b_a1 : Nat} {r : Bool} (H : skeen_Fix_1 a0 a1 = some r) (w0 : World) (F : Frz) (M L : List Item) (hM : M.Sublist L) : Ok Try.prog w0 81 [.agg (enc a0).toArray, pv b_a1 0] F ((.blk b_a1 (enc a1) 3) :: L) (Is (.bool r) ((.blk b_a1 (enc a1) 3) :: L)) := by
 unfold skeen_Fix_1 at H
 refine Ok.enter (m := 2) (n := 13) Try.func81 rfl rfl rfl (by decide) ?_
 refine Cd.env (e' := [(0, .agg (enc a0).toArray), (1, pv b_a1 0)]) rfl ?_
 refine Cd.seq ?_
 refine Cd.region ?_
 refine Lst.box rfl rfl (by decide) rfl (cs := enc a0) rfl (fun b2 => ?_)
 refine Lst.r (Ev.assign rfl) ?_
 refine Lst.nil ?_
 refine At.then ?_
 refine Cd.seq ?_
 refine Cd.region ?_
 refine Lst.r (Ev.fieldAddr (off' := 0) rfl Try.runUnderlying77 rfl Try.sizeOf3 rfl rfl) ?_
 refine Lst.r (Ev.load (i := 0) rfl rfl Try.isAgg3 (v := iv a0.Id) ((Wait.get_Id (Get.here _)).off (by rfl))) ?_
 refine Lst.r (Ev.load (i := 1) rfl rfl Try.isAgg3 (v := iv a1) (Get.here _)) ?_
 refine Lst.r (Ev.eql rfl rfl) ?_
 refine Lst.r (Ev.move rfl) ?_
 obtain ⟨o4, H, HKo4⟩ := bind_some H
 refine Lst.join (σ := Bool) 4 (fun y5 => [(12, .bool y5)]) (fun y5 => (.blk b2 (enc a0) 77) :: (.blk b_a1 (enc a1) 3) :: L) (fun _ y5 => y5 = o4) ?_ ?_
 ·rcases (Bool.eq_false_or_eq_true (a0.Id == a1)).symm with hb6 | hb6
  ·replace H := ite_f hb6 H
   refine Lst.skip rfl rfl rfl hb6 rfl (by decide) ?_
   refine Lst.skip rfl rfl rfl hb6 rfl (by decide) ?_
   refine Lst.skip rfl rfl rfl hb6 rfl (by decide) ?_
   refine Lst.r (Ev.pickF rfl hb6 rfl) ?_
   refine Lst.nil ?_
   exact At.meet false (FLe.refl _) ⟨rfl, trivial⟩ rfl (some_inj H)
  replace H := ite_t hb6 H
  refine Lst.rG hb6 (Ev.fieldAddr (off' := 3) rfl Try.runUnderlying77 rfl Try.sizeOf4 rfl rfl) ?_
  refine Lst.rG hb6 (Ev.load (i := 0) rfl rfl Try.isAgg4 (v := .bool a0.Fixed) ((Wait.get_Fixed (Get.here _)).off (by rfl))) ?_
  refine Lst.rG hb6 (Ev.not rfl) ?_
  refine Lst.r (Ev.pickT rfl hb6 rfl) ?_
  refine Lst.nil ?_
  exact At.meet (!a0.Fixed) (FLe.refl _) ⟨rfl, trivial⟩ rfl (some_inj H)
 rintro F7 y5 hF8 hy
 subst hy
 refine Lst.as (e' := [(12, .bool y5)]) (L' := (.blk b2 (enc a0) 77) :: (.blk b_a1 (enc a1) 3) :: L) ⟨rfl, trivial⟩ rfl ?_
 replace H := HKo4
 refine Lst.r (Ev.assign rfl) ?_
 refine Lst.nil ?_
 refine At.then ?_
 obtain rfl := some_inj H
 refine Cd.ret ?_
 exact At.ret1 rfl (Res.tmp rfl) hF8 (sc1 (sk1 (.refl _))) ⟨rfl, rfl⟩
set_option maxRecDepth 20000 in
theorem slices_IndexFunc_api_Wait_api_Wait_Fix_1_sim {a0 : List Wait} {a1_c0 : Int} {s_a0 : Sl} {b_a1_c0 : Nat} {r : Int} (H : slices_IndexFunc_api_Wait_api_Wait_Fix_1 a0 a1_c0 = some r) (w0 : World) (F : Frz) (M L : List Item) (hM : M.Sublist L) (hs_a0 : Rd w0 F M s_a0 a0) : Ok Try.prog w0 80 [Sl.v s_a0, .func (.func 81) #[] #[pv b_a1_c0 0]] F ((.blk b_a1_c0 (enc a1_c0) 3) :: L) (Is (iv r) ((.blk b_a1_c0 (enc a1_c0) 3) :: L)) := by
 unfold slices_IndexFunc_api_Wait_api_Wait_Fix_1 at H
 refine Ok.enter (m := 2) (n := 19) Try.func80 rfl rfl rfl (by decide) ?_
 refine Cd.env (e' := [(0, Sl.v s_a0), (1, .func (.func 81) #[] #[pv b_a1_c0 0])]) rfl ?_
 refine Cd.seq ?_
 refine Cd.region ?_
 refine Lst.r (Ev.assign rfl) ?_
 refine Lst.nil ?_
 refine At.then ?_
 refine Cd.seq ?_
 refine Cd.seq ?_
 refine Cd.region ?_
 refine Lst.r (Ev.move rfl) ?_
 refine Lst.r (Ev.lenS (α := Wait) (xs := a0) (by decide) rfl rfl Try.runUnderlying57 (hs_a0.mono (FLe.refl _) (sc1 hM))) ?_
 refine Lst.r (Ev.move rfl) ?_
 refine Lst.nil ?_
 refine At.then ?_
 refine Cd.block ?_
 refine Cd.bound (Rd.le (α := Wait) (xs := a0) (by decide) (hs_a0.mono (FLe.refl _) (sc1 hM))) (fun hN13 => ?_)
 obtain ⟨ol2, H, HKl2⟩ := andThen_some H
 refine Cd.loop (σ := Nat × Nat × Unit) (fun (i2, k2, _u) => [(0, Sl.v s_a0), (1, .func (.func 81) #[] #[pv b_a1_c0 0]), (7, iv (a0.length : Int)), (8, iv (i2 : Int))]) (fun (i2, k2, _u) => (.blk b_a1_c0 (enc a1_c0) 3) :: L) (fun _ => (fun (i2, k2, _u) => rangeM (slices_IndexFunc_api_Wait_api_Wait_Fix_1_B0 a0 a1_c0) k2 i2 () = some ol2 ∧ i2 + k2 = a0.length)) (fun (i2, k2, _u) => k2) (0, a0.length, ()) ⟨rfl, rfl, rfl, rfl, trivial⟩ rfl ⟨H, by omega⟩ ?_
 rintro F3 ⟨i2, k2, _u⟩ hF4 ⟨H, hik2⟩
 refine Cd.as (e' := [(0, Sl.v s_a0), (1, .func (.func 81) #[] #[pv b_a1_c0 0]), (7, iv (a0.length : Int)), (8, iv (i2 : Int))]) (L' := (.blk b_a1_c0 (enc a1_c0) 3) :: L) ⟨rfl, rfl, rfl, rfl, trivial⟩ rfl ?_
 rcases k2 with _ | k2
 ·have hc2 : decide ((i2 : Int) < (a0.length : Int)) = false := decide_eq_false (by omega)
  replace H := rangeM_end H
  refine Cd.seq ?_
  refine Cd.region ?_
  refine Lst.r (Ev.lss rfl rfl) ?_
  refine Lst.nil ?_
  refine At.then ?_
  refine Cd.seq ?_
  refine Cd.condF rfl hc2 ?_
  refine Cd.exit ?_
  refine At.then_exit ?_
  refine At.then_exit ?_
  refine At.in_exit ?_
  subst H
  replace H := HKl2
  refine At.then ?_
  refine Cd.seq ?_
  refine Cd.region ?_
  refine Lst.r (Ev.assign rfl) ?_
  refine Lst.nil ?_
  refine At.then ?_
  obtain rfl := some_inj H
  refine Cd.ret ?_
  exact At.ret1 rfl (Res.tmp rfl) hF4 (sk1 (.refl _)) ⟨rfl, rfl⟩
 have hc2 : decide ((i2 : Int) < (a0.length : Int)) = true := decide_eq_true (by omega)
 obtain ⟨c2, H, hgo2, hbrk2, hret2⟩ := rangeM_go H
 unfold slices_IndexFunc_api_Wait_api_Wait_Fix_1_B0 at H
 try dsimp only at H
 refine Cd.seq ?_
 refine Cd.region ?_
 refine Lst.r (Ev.lss rfl rfl) ?_
 refine Lst.nil ?_
 refine At.then ?_
 refine Cd.seq ?_
 refine Cd.condT rfl hc2 ?_
 refine Cd.skip ?_
 refine At.then ?_
 refine Cd.seq ?_
 refine Cd.block ?_
 refine Cd.seq ?_
 refine Cd.region ?_
 refine Lst.r (Ev.move rfl) ?_
 refine Lst.r (Ev.assign rfl) ?_
 refine Lst.nil ?_
 refine At.then ?_
 refine Cd.seq ?_
 refine Cd.region ?_
 refine Lst.r (Ev.move rfl) ?_
 refine Lst.r (Ev.move rfl) ?_
 refine Lst.r (Ev.move rfl) ?_
 obtain ⟨x5, h6, H⟩ := bind_some H
 have g7 := lat_some h6
 refine Lst.r (Ev.indexS (α := Wait) (xs := a0) rfl rfl Try.runUnderlying57 Try.sizeOf77 rfl (by decide) (hs_a0.mono hF4 (sc1 hM)) g7.1 g7.2.1) ?_
 refine Lst.r (Ev.loadSA (α := Wait) rfl (hs_a0.mono hF4 (sc1 hM)) Try.isAgg77 Try.sizeOf77 (ch := enc x5) (Enc.len _) (by decide) ((Get.elemN (s := 4) (x := x5) rfl g7.2.2 (Get.here _)).off (by omega))) ?_
 obtain ⟨r8, h9, H⟩ := bind_some H
 refine Lst.callV1 rfl rfl (by decide) (vs := [.agg (enc x5).toArray]) (cs := [pv b_a1_c0 0]) rfl ⟨rfl, trivial⟩ Try.call81 (skeen_Fix_1_sim h9 w0 _ M _ hM) ?_
 refine Lst.nil ?_
 refine At.then ?_
 rcases Bool.eq_false_or_eq_true r8 with hb12 | hb12
 ·replace H := ite_t hb12 H
  refine Cd.condT rfl hb12 ?_
  refine Cd.seq ?_
  refine Cd.region ?_
  refine Lst.r (Ev.move rfl) ?_
  refine Lst.r (Ev.assign rfl) ?_
  refine Lst.nil ?_
  refine At.then ?_
  have H := hret2 _ (some_inj H).symm
  subst H
  replace H := HKl2
  obtain rfl := some_inj H
  refine Cd.ret ?_
  refine At.in_ret ?_
  refine At.then_ret ?_
  refine At.then_ret ?_
  refine At.in_ret ?_
  refine At.then_ret ?_
  exact At.ret1 rfl (Res.tmp rfl) hF4 (sk1 (.refl _)) ⟨rfl, rfl⟩
 replace H := ite_f hb12 H
 refine Cd.condF rfl hb12 ?_
 refine Cd.skip ?_
 refine At.in_normal ?_
 refine At.then ?_
 refine Cd.region ?_
 refine Lst.r (Ev.incr (by omega) rfl rfl) ?_
 refine Lst.r (Ev.move rfl) ?_
 refine Lst.nil ?_
 exact At.meet (i2 + 1, k2, ()) hF4 ⟨rfl, rfl, rfl, rfl, trivial⟩ rfl ⟨⟨hgo2 _ (some_inj H).symm, by omega⟩, Nat.lt_succ_self _⟩
set_option maxRecDepth 20000 in
theorem skeen_Fix_2_sim {a0 : Wait} {a1 : Int} {a2 : Num} {b_a1 : Nat} {b_a2 : Nat} {r : Bool} (H : skeen_Fix_2 a0 a1 a2 = some r) (w0 : World) (F : Frz) (M L : List Item) (hM : M.Sublist L) : Ok Try.prog w0 83 [.agg (enc a0).toArray, pv b_a1 0, pv b_a2 0] F ((.blk b_a1 (enc a1) 3) :: (.blk b_a2 (enc a2) 61) :: L) (Is (.bool r) ((.blk b_a1 (enc a1) 3) :: (.blk b_a2 (enc a2) 61) :: L)) := by
 unfold skeen_Fix_2 at H
 refine Ok.enter (m := 3) (n := 15) Try.func83 rfl rfl rfl (by decide) ?_
 refine Cd.env (e' := [(0, .agg (enc a0).toArray), (1, pv b_a1 0), (2, pv b_a2 0)]) rfl ?_
 refine Cd.seq ?_
 refine Cd.region ?_
 refine Lst.box rfl rfl (by decide) rfl (cs := enc a0) rfl (fun b3 => ?_)
 refine Lst.r (Ev.assign rfl) ?_
 refine Lst.nil ?_
 refine At.then ?_
 refine Cd.seq ?_
 refine Cd.region ?_
 refine Lst.r (Ev.fieldAddr (off' := 0) rfl Try.runUnderlying77 rfl Try.sizeOf3 rfl rfl) ?_
 refine Lst.r (Ev.load (i := 0) rfl rfl Try.isAgg3 (v := iv a0.Id) ((Wait.get_Id (Get.here _)).off (by rfl))) ?_
 refine Lst.r (Ev.load (i := 1) rfl rfl Try.isAgg3 (v := iv a1) (Get.here _)) ?_
 refine Lst.r (Ev.neq rfl rfl) ?_
 refine Lst.r (Ev.move rfl) ?_
 obtain ⟨o5, H, HKo5⟩ := bind_some H
 refine Lst.join (σ := Bool) 5 (fun y6 => [(14, .bool y6)]) (fun y6 => (.blk b3 (enc a0) 77) :: (.blk b_a1 (enc a1) 3) :: (.blk b_a2 (enc a2) 61) :: L) (fun _ y6 => y6 = o5) ?_ ?_
 ·rcases (Bool.eq_false_or_eq_true (a0.Id != a1)).symm with hb7 | hb7
  ·replace H := ite_f hb7 H
   refine Lst.skip rfl rfl rfl hb7 rfl (by decide) ?_
   refine Lst.skip rfl rfl rfl hb7 rfl (by decide) ?_
   refine Lst.skip rfl rfl rfl hb7 rfl (by decide) ?_
   refine Lst.skip rfl rfl rfl hb7 rfl (by decide) ?_
   refine Lst.r (Ev.pickF rfl hb7 rfl) ?_
   refine Lst.nil ?_
   exact At.meet false (FLe.refl _) ⟨rfl, trivial⟩ rfl (some_inj H)
  replace H := ite_t hb7 H
  refine Lst.rG hb7 (Ev.fieldAddr (off' := 1) rfl Try.runUnderlying77 rfl Try.sizeOf61 rfl rfl) ?_
  refine Lst.rG hb7 (Ev.loadA (i := 0) rfl rfl Try.isAgg61 Try.sizeOf61 (ch := enc a0.Num_) (Enc.len _) ((Wait.get_Num_ (Get.here _)).off (by rfl))) ?_
  refine Lst.rG hb7 (Ev.loadA (i := 2) rfl rfl Try.isAgg61 Try.sizeOf61 (ch := enc a2) (Enc.len _) (Get.here _)) ?_
  refine Lst.rG hb7 (Ev.eqlA rfl rfl (by kernel_rfl) (eq61 _ _)) ?_
  refine Lst.r (Ev.pickT rfl hb7 rfl) ?_
  refine Lst.nil ?_
  exact At.meet (decide (a0.Num_ = a2)) (FLe.refl _) ⟨rfl, trivial⟩ rfl (some_inj H)
 rintro F8 y6 hF9 hy
 subst hy
 refine Lst.as (e' := [(14, .bool y6)]) (L' := (.blk b3 (enc a0) 77) :: (.blk b_a1 (enc a1) 3) :: (.blk b_a2 (enc a2) 61) :: L) ⟨rfl, trivial⟩ rfl ?_
 replace H := HKo5
 refine Lst.r (Ev.assign rfl) ?_
 refine Lst.nil ?_
 refine At.then ?_
 obtain rfl := some_inj H
 refine Cd.ret ?_
 exact At.ret1 rfl (Res.tmp rfl) hF9 (sc1 (sk1 (sk1 (.refl _)))) ⟨rfl, rfl⟩
set_option maxRecDepth 20000 in
theorem slices_IndexFunc_api_Wait_api_Wait_Fix_2_sim {a0 : List Wait} {a1_c0 : Int} {a1_c1 : Num} {s_a0 : Sl} {b_a1_c0 : Nat} {b_a1_c1 : Nat} {r : Int} (H : slices_IndexFunc_api_Wait_api_Wait_Fix_2 a0 a1_c0 a1_c1 = some r) (w0 : World) (F : Frz) (M L : List Item) (hM : M.Sublist L) (hs_a0 : Rd w0 F M s_a0 a0) : Ok Try.prog w0 80 [Sl.v s_a0, .func (.func 83) #[] #[pv b_a1_c0 0, pv b_a1_c1 0]] F ((.blk b_a1_c0 (enc a1_c0) 3) :: (.blk b_a1_c1 (enc a1_c1) 61) :: L) (Is (iv r) ((.blk b_a1_c0 (enc a1_c0) 3) :: (.blk b_a1_c1 (enc a1_c1) 61) :: L)) := by
 unfold slices_IndexFunc_api_Wait_api_Wait_Fix_2 at H
 refine Ok.enter (m := 2) (n := 19) Try.func80 rfl rfl rfl (by decide) ?_
 refine Cd.env (e' := [(0, Sl.v s_a0), (1, .func (.func 83) #[] #[pv b_a1_c0 0, pv b_a1_c1 0])]) rfl ?_
 refine Cd.seq ?_
 refine Cd.region ?_
 refine Lst.r (Ev.assign rfl) ?_
 refine Lst.nil ?_
 refine At.then ?_
 refine Cd.seq ?_
 refine Cd.seq ?_
 refine Cd.region ?_
 refine Lst.r (Ev.move rfl) ?_
 refine Lst.r (Ev.lenS (α := Wait) (xs := a0) (by decide) rfl rfl Try.runUnderlying57 (hs_a0.mono (FLe.refl _) (sc2 hM))) ?_
 refine Lst.r (Ev.move rfl) ?_
 refine Lst.nil ?_
 refine At.then ?_
 refine Cd.block ?_
 refine Cd.bound (Rd.le (α := Wait) (xs := a0) (by decide) (hs_a0.mono (FLe.refl _) (sc2 hM))) (fun hN14 => ?_)
 obtain ⟨ol3, H, HKl3⟩ := andThen_some H
 refine Cd.loop (σ := Nat × Nat × Unit) (fun (i3, k3, _u) => [(0, Sl.v s_a0), (1, .func (.func 83) #[] #[pv b_a1_c0 0, pv b_a1_c1 0]), (7, iv (a0.length : Int)), (8, iv (i3 : Int))]) (fun (i3, k3, _u) => (.blk b_a1_c0 (enc a1_c0) 3) :: (.blk b_a1_c1 (enc a1_c1) 61) :: L) (fun _ => (fun (i3, k3, _u) => rangeM (slices_IndexFunc_api_Wait_api_Wait_Fix_2_B0 a0 a1_c0 a1_c1) k3 i3 () = some ol3 ∧ i3 + k3 = a0.length)) (fun (i3, k3, _u) => k3) (0, a0.length, ()) ⟨rfl, rfl, rfl, rfl, trivial⟩ rfl ⟨H, by omega⟩ ?_
 rintro F4 ⟨i3, k3, _u⟩ hF5 ⟨H, hik3⟩
 refine Cd.as (e' := [(0, Sl.v s_a0), (1, .func (.func 83) #[] #[pv b_a1_c0 0, pv b_a1_c1 0]), (7, iv (a0.length : Int)), (8, iv (i3 : Int))]) (L' := (.blk b_a1_c0 (enc a1_c0) 3) :: (.blk b_a1_c1 (enc a1_c1) 61) :: L) ⟨rfl, rfl, rfl, rfl, trivial⟩ rfl ?_
 rcases k3 with _ | k3
 ·have hc3 : decide ((i3 : Int) < (a0.length : Int)) = false := decide_eq_false (by omega)
  replace H := rangeM_end H
  refine Cd.seq ?_
  refine Cd.region ?_
  refine Lst.r (Ev.lss rfl rfl) ?_
  refine Lst.nil ?_
  refine At.then ?_
  refine Cd.seq ?_
  refine Cd.condF rfl hc3 ?_
  refine Cd.exit ?_
  refine At.then_exit ?_
  refine At.then_exit ?_
  refine At.in_exit ?_
  subst H
  replace H := HKl3
  refine At.then ?_
  refine Cd.seq ?_
  refine Cd.region ?_
  refine Lst.r (Ev.assign rfl) ?_
  refine Lst.nil ?_
  refine At.then ?_
  obtain rfl := some_inj H
  refine Cd.ret ?_
  exact At.ret1 rfl (Res.tmp rfl) hF5 (sk1 (sk1 (.refl _))) ⟨rfl, rfl⟩
 have hc3 : decide ((i3 : Int) < (a0.length : Int)) = true := decide_eq_true (by omega)
 obtain ⟨c3, H, hgo3, hbrk3, hret3⟩ := rangeM_go H
 unfold slices_IndexFunc_api_Wait_api_Wait_Fix_2_B0 at H
 try dsimp only at H
 refine Cd.seq ?_
 refine Cd.region ?_
 refine Lst.r (Ev.lss rfl rfl) ?_
 refine Lst.nil ?_
 refine At.then ?_
 refine Cd.seq ?_
 refine Cd.condT rfl hc3 ?_
 refine Cd.skip ?_
 refine At.then ?_
 refine Cd.seq ?_
 refine Cd.block ?_
 refine Cd.seq ?_
 refine Cd.region ?_
 refine Lst.r (Ev.move rfl) ?_
 refine Lst.r (Ev.assign rfl) ?_
 refine Lst.nil ?_
 refine At.then ?_
 refine Cd.seq ?_
 refine Cd.region ?_
 refine Lst.r (Ev.move rfl) ?_
 refine Lst.r (Ev.move rfl) ?_
 refine Lst.r (Ev.move rfl) ?_
 obtain ⟨x6, h7, H⟩ := bind_some H
 have g8 := lat_some h7
 refine Lst.r (Ev.indexS (α := Wait) (xs := a0) rfl rfl Try.runUnderlying57 Try.sizeOf77 rfl (by decide) (hs_a0.mono hF5 (sc2 hM)) g8.1 g8.2.1) ?_
 refine Lst.r (Ev.loadSA (α := Wait) rfl (hs_a0.mono hF5 (sc2 hM)) Try.isAgg77 Try.sizeOf77 (ch := enc x6) (Enc.len _) (by decide) ((Get.elemN (s := 4) (x := x6) rfl g8.2.2 (Get.here _)).off (by omega))) ?_
 obtain ⟨r9, h10, H⟩ := bind_some H
 refine Lst.callV1 rfl rfl (by decide) (vs := [.agg (enc x6).toArray]) (cs := [pv b_a1_c0 0, pv b_a1_c1 0]) rfl ⟨rfl, trivial⟩ Try.call83 (skeen_Fix_2_sim h10 w0 _ M _ hM) ?_
 refine Lst.nil ?_
 refine At.then ?_
 rcases Bool.eq_false_or_eq_true r9 with hb13 | hb13
 ·replace H := ite_t hb13 H
  refine Cd.condT rfl hb13 ?_
  refine Cd.seq ?_
  refine Cd.region ?_
  refine Lst.r (Ev.move rfl) ?_
  refine Lst.r (Ev.assign rfl) ?_
  refine Lst.nil ?_
  refine At.then ?_
  have H := hret3 _ (some_inj H).symm
  subst H
  replace H := HKl3
  obtain rfl := some_inj H
  refine Cd.ret ?_
  refine At.in_ret ?_
  refine At.then_ret ?_
  refine At.then_ret ?_
  refine At.in_ret ?_
  refine At.then_ret ?_
  exact At.ret1 rfl (Res.tmp rfl) hF5 (sk1 (sk1 (.refl _))) ⟨rfl, rfl⟩
 replace H := ite_f hb13 H
 refine Cd.condF rfl hb13 ?_
 refine Cd.skip ?_
 refine At.in_normal ?_
 refine At.then ?_
 refine Cd.region ?_
 refine Lst.r (Ev.incr (by omega) rfl rfl) ?_
 refine Lst.r (Ev.move rfl) ?_
 refine Lst.nil ?_
 exact At.meet (i3 + 1, k3, ()) hF5 ⟨rfl, rfl, rfl, rfl, trivial⟩ rfl ⟨⟨hgo3 _ (some_inj H).symm, by omega⟩, Nat.lt_succ_self _⟩
set_option maxRecDepth 20000 in
theorem slices_ContainsFunc_api_Wait_api_Wait_Fix_2_sim {a0 : List Wait} {a1_c0 : Int} {a1_c1 : Num} {s_a0 : Sl} {b_a1_c0 : Nat} {b_a1_c1 : Nat} {r : Bool} (H : slices_ContainsFunc_api_Wait_api_Wait_Fix_2 a0 a1_c0 a1_c1 = some r) (w0 : World) (F : Frz) (M L : List Item) (hM : M.Sublist L) (hs_a0 : Rd w0 F M s_a0 a0) : Ok Try.prog w0 40 [Sl.v s_a0, .func (.func 83) #[] #[pv b_a1_c0 0, pv b_a1_c1 0]] F ((.blk b_a1_c0 (enc a1_c0) 3) :: (.blk b_a1_c1 (enc a1_c1) 61) :: L) (Is (.bool r) ((.blk b_a1_c0 (enc a1_c0) 3) :: (.blk b_a1_c1 (enc a1_c1) 61) :: L)) := by
 unfold slices_ContainsFunc_api_Wait_api_Wait_Fix_2 at H
 refine Ok.enter (m := 2) (n := 9) Try.func40 rfl rfl rfl (by decide) ?_
 refine Cd.env (e' := [(0, Sl.v s_a0), (1, .func (.func 83) #[] #[pv b_a1_c0 0, pv b_a1_c1 0])]) rfl ?_
 refine Cd.seq ?_
 refine Cd.region ?_
 refine Lst.r (Ev.assign rfl) ?_
 refine Lst.nil ?_
 refine At.then ?_
 refine Cd.seq ?_
 refine Cd.region ?_
 refine Lst.r (Ev.move rfl) ?_
 refine Lst.r (Ev.move rfl) ?_
 obtain ⟨r3, h4, H⟩ := bind_some H
 refine Lst.call1 rfl rfl (by decide) (vs := [Sl.v s_a0, .func (.func 83) #[] #[pv b_a1_c0 0, pv b_a1_c1 0]]) ⟨rfl, rfl, trivial⟩ Try.call80 (slices_IndexFunc_api_Wait_api_Wait_Fix_2_sim h4 w0 _ M _ hM (hs_a0.mono (FLe.refl _) (.refl _))) ?_
 refine Lst.r (Ev.geq rfl rfl) ?_
 refine Lst.r (Ev.assign rfl) ?_
 refine Lst.nil ?_
 refine At.then ?_
 obtain rfl := some_inj H
 refine Cd.ret ?_
 exact At.ret1 rfl (Res.tmp rfl) (FLe.refl _) (sk1 (sk1 (.refl _))) ⟨rfl, rfl⟩
set_option maxRecDepth 20000 in
theorem math_bits_Len64_sim {a0 : BitVec 64} {r : Int} (H : math_bits_Len64 a0 = some r) (w0 : World) (F : Frz) (M L : List Item) (hM : M.Sublist L) : Ok Try.prog w0 125 [.int .u64 a0.toNat] F (L) (Is (iv r) (L)) := by
 unfold math_bits_Len64 at H
 refine Ok.enter (m := 1) (n := 25) Try.func125 rfl rfl rfl (by decide) ?_
 refine Cd.env (e' := [(0, .int .u64 a0.toNat)]) rfl ?_
 refine Cd.seq ?_
 refine Cd.region ?_
 refine Lst.r (Ev.assign rfl) ?_
 refine Lst.nil ?_
 refine At.then ?_
 obtain ⟨o3, H, HKo3⟩ := bind_some H
 refine Cd.join (σ := (BitVec 64) × Int) (fun (y1, y2) => [(0, .int .u64 y1.toNat), (2, iv y2)]) (fun (y1, y2) => L) (fun _ (y1, y2) => (y1, y2) = o3) ?_ ?_
 ·refine Cd.seq ?_
  refine Cd.region ?_
  refine Lst.r (Ev.move rfl) ?_
  refine Lst.r (Ev.geq rfl rfl) ?_
  refine Lst.nil ?_
  refine At.then ?_
  rcases (Bool.eq_false_or_eq_true (decide ((a0.toNat : Int) ≥ ((4294967296 : BitVec 64).toNat : Int)))).symm with hb4 | hb4
  ·replace H := ite_f hb4 H
   refine Cd.condF rfl hb4 ?_
   refine Cd.skip ?_
   exact At.meet (a0, (0 : Int)) (FLe.refl _) ⟨rfl, rfl, trivial⟩ rfl (some_inj H)
  replace H := ite_t hb4 H
  refine Cd.condT rfl hb4 ?_
  refine Cd.seq ?_
  refine Cd.region ?_
  refine Lst.r (Ev.move rfl) ?_
  refine Lst.r (Ev.shrU64 (i := a0) (m := 32) rfl rfl) ?_
  refine Lst.r (Ev.assign rfl) ?_
  refine Lst.nil ?_
  refine At.then ?_
  refine Cd.region ?_
  refine Lst.r (Ev.assign rfl) ?_
  refine Lst.nil ?_
  exact At.meet (a0 >>> 32, (32 : Int)) (FLe.refl _) ⟨rfl, rfl, trivial⟩ rfl (some_inj H)
 rintro F5 ⟨y1, y2⟩ hF6 hy
 subst hy
 refine Cd.as (e' := [(0, .int .u64 y1.toNat), (2, iv y2)]) (L' := L) ⟨rfl, rfl, trivial⟩ rfl ?_
 replace H := HKo3
 obtain ⟨o9, H, HKo9⟩ := bind_some H
 refine Cd.join (σ := (BitVec 64) × Int) (fun (y7, y8) => [(0, .int .u64 y7.toNat), (2, iv y8)]) (fun (y7, y8) => L) (fun _ (y7, y8) => (y7, y8) = o9) ?_ ?_
 ·refine Cd.seq ?_
  refine Cd.region ?_
  refine Lst.r (Ev.move rfl) ?_
  refine Lst.r (Ev.geq rfl rfl) ?_
  refine Lst.nil ?_
  refine At.then ?_
  rcases (Bool.eq_false_or_eq_true (decide ((y1.toNat : Int) ≥ ((65536 : BitVec 64).toNat : Int)))).symm with hb10 | hb10
  ·replace H := ite_f hb10 H
   refine Cd.condF rfl hb10 ?_
   refine Cd.skip ?_
   exact At.meet (y1, y2) (FLe.refl _) ⟨rfl, rfl, trivial⟩ rfl (some_inj H)
  replace H := ite_t hb10 H
  refine Cd.condT rfl hb10 ?_
  refine Cd.seq ?_
  refine Cd.region ?_
  refine Lst.r (Ev.move rfl) ?_
  refine Lst.r (Ev.shrU64 (i := y1) (m := 16) rfl rfl) ?_
  refine Lst.r (Ev.assign rfl) ?_
  refine Lst.nil ?_
  refine At.then ?_
  refine Cd.region ?_
  refine Lst.r (Ev.move rfl) ?_
  refine Lst.r (Ev.add rfl rfl) ?_
  refine Lst.r (Ev.assign rfl) ?_
  refine Lst.nil ?_
  exact At.meet (y1 >>> 16, w64 (y2 + (16 : Int))) (FLe.refl _) ⟨rfl, rfl, trivial⟩ rfl (some_inj H)
 rintro F11 ⟨y7, y8⟩ hF12 hy
 subst hy
 refine Cd.as (e' := [(0, .int .u64 y7.toNat), (2, iv y8)]) (L' := L) ⟨rfl, rfl, trivial⟩ rfl ?_
 replace H := HKo9
 obtain ⟨o15, H, HKo15⟩ := bind_some H
 refine Cd.join (σ := (BitVec 64) × Int) (fun (y13, y14) => [(0, .int .u64 y13.toNat), (2, iv y14)]) (fun (y13, y14) => L) (fun _ (y13, y14) => (y13, y14) = o15) ?_ ?_
 ·refine Cd.seq ?_
  refine Cd.region ?_
  refine Lst.r (Ev.move rfl) ?_
  refine Lst.r (Ev.geq rfl rfl) ?_
  refine Lst.nil ?_
  refine At.then ?_
  rcases (Bool.eq_false_or_eq_true (decide ((y7.toNat : Int) ≥ ((256 : BitVec 64).toNat : Int)))).symm with hb16 | hb16
  ·replace H := ite_f hb16 H
   refine Cd.condF rfl hb16 ?_
   refine Cd.skip ?_
   exact At.meet (y7, y8) (FLe.refl _) ⟨rfl, rfl, trivial⟩ rfl (some_inj H)
  replace H := ite_t hb16 H
  refine Cd.condT rfl hb16 ?_
  refine Cd.seq ?_
  refine Cd.region ?_
  refine Lst.r (Ev.move rfl) ?_
  refine Lst.r (Ev.shrU64 (i := y7) (m := 8) rfl rfl) ?_
  refine Lst.r (Ev.assign rfl) ?_
  refine Lst.nil ?_
  refine At.then ?_
  refine Cd.region ?_
  refine Lst.r (Ev.move rfl) ?_
  refine Lst.r (Ev.add rfl rfl) ?_
  refine Lst.r (Ev.assign rfl) ?_
  refine Lst.nil ?_
  exact At.meet (y7 >>> 8, w64 (y8 + (8 : Int))) (FLe.refl _) ⟨rfl, rfl, trivial⟩ rfl (some_inj H)
 rintro F17 ⟨y13, y14⟩ hF18 hy
 subst hy
 refine Cd.as (e' := [(0, .int .u64 y13.toNat), (2, iv y14)]) (L' := L) ⟨rfl, rfl, trivial⟩ rfl ?_
 replace H := HKo15
 refine Cd.seq ?_
 refine Cd.region ?_
 refine Lst.r (Ev.move rfl) ?_
 refine Lst.r (Ev.move rfl) ?_
 refine Lst.r (Ev.convTo8 rfl Try.runUnderlying148 Try.runUnderlying5) ?_
 obtain ⟨x19, h20, H⟩ := bind_some H
 refine Lst.r (Ev.indexStr rfl rfl Try.runUnderlying9 h20) ?_
 refine Lst.r (Ev.convIS (j := (x19.toBitVec.toNat : Int)) rfl Try.runUnderlying5 Try.runUnderlying3 (w64_id (by omega) (by omega))) ?_
 refine Lst.r (Ev.add rfl rfl) ?_
 refine Lst.r (Ev.assign rfl) ?_
 refine Lst.nil ?_
 refine At.then ?_
 obtain rfl := some_inj H
 refine Cd.ret ?_
 exact At.ret1 rfl (Res.tmp rfl) (FLe.trans (FLe.trans hF6 hF12) hF18) (.refl _) ⟨rfl, rfl⟩
set_option maxRecDepth 20000 in
theorem math_bits_Len_sim {a0 : BitVec 64} {r : Int} (H : math_bits_Len a0 = some r) (w0 : World) (F : Frz) (M L : List Item) (hM : M.Sublist L) : Ok Try.prog w0 106 [.int .u64 a0.toNat] F (L) (Is (iv r) (L)) := by
 unfold math_bits_Len at H
 refine Ok.enter (m := 1) (n := 8) Try.func106 rfl rfl rfl (by decide) ?_
 refine Cd.env (e' := [(0, .int .u64 a0.toNat)]) rfl ?_
 refine Cd.seq ?_
 refine Cd.region ?_
 refine Lst.r (Ev.assign rfl) ?_
 refine Lst.nil ?_
 refine At.then ?_
 refine Cd.seq ?_
 refine Cd.condF rfl rfl ?_
 refine Cd.skip ?_
 refine At.then ?_
 refine Cd.seq ?_
 refine Cd.region ?_
 refine Lst.r (Ev.move rfl) ?_
 obtain ⟨r1, h2, H⟩ := bind_some H
 refine Lst.call1 rfl rfl (by decide) (vs := [.int .u64 a0.toNat]) ⟨rfl, trivial⟩ Try.call125 (math_bits_Len64_sim h2 w0 _ M _ hM) ?_
 refine Lst.r (Ev.assign rfl) ?_
 refine Lst.nil ?_
 refine At.then ?_
 obtain rfl := some_inj H
 refine Cd.ret ?_
 exact At.ret1 rfl (Res.tmp rfl) (FLe.refl _) (.refl _) ⟨rfl, rfl⟩
set_option maxRecDepth 20000 in
theorem skeen_Fix_3_sim {a0 : Wait} {a1 : Wait} {r : Int} (H : skeen_Fix_3 a0 a1 = some r) (w0 : World) (F : Frz) (M L : List Item) (hM : M.Sublist L) : Ok Try.prog w0 85 [.agg (enc a0).toArray, .agg (enc a1).toArray] F (L) (Is (iv r) (L)) := by
 unfold skeen_Fix_3 at H
 refine Ok.enter (m := 2) (n := 10) Try.func85 rfl rfl rfl (by decide) ?_
 refine Cd.env (e' := [(0, .agg (enc a0).toArray), (1, .agg (enc a1).toArray)]) rfl ?_
 refine Cd.seq ?_
 refine Cd.region ?_
 refine Lst.box rfl rfl (by decide) rfl (cs := enc a0) rfl (fun b1 => ?_)
 refine Lst.box rfl rfl (by decide) rfl (cs := enc a1) rfl (fun b3 => ?_)
 refine Lst.r (Ev.assign rfl) ?_
 refine Lst.nil ?_
 refine At.then ?_
 refine Cd.seq ?_
 refine Cd.region ?_
 refine Lst.r (Ev.fieldAddr (off' := 1) rfl Try.runUnderlying77 rfl Try.sizeOf61 rfl rfl) ?_
 refine Lst.r (Ev.loadA (i := 1) rfl rfl Try.isAgg61 Try.sizeOf61 (ch := enc a0.Num_) (Enc.len _) ((Wait.get_Num_ (Get.here _)).off (by rfl))) ?_
 refine Lst.r (Ev.fieldAddr (off' := 1) rfl Try.runUnderlying77 rfl Try.sizeOf61 rfl rfl) ?_
 refine Lst.r (Ev.loadA (i := 0) rfl rfl Try.isAgg61 Try.sizeOf61 (ch := enc a1.Num_) (Enc.len _) ((Wait.get_Num_ (Get.here _)).off (by rfl))) ?_
 obtain ⟨r5, h6, H⟩ := bind_some H
 refine Lst.call1 rfl rfl (by decide) (vs := [.agg (enc a0.Num_).toArray, .agg (enc a1.Num_).toArray]) ⟨rfl, rfl, trivial⟩ Try.call82 (skeen_compare_sim h6 w0 _ M _ (sc2 hM)) ?_
 refine Lst.r (Ev.assign rfl) ?_
 refine Lst.nil ?_
 refine At.then ?_
 obtain rfl := some_inj H
 refine Cd.ret ?_
 exact At.ret1 rfl (Res.tmp rfl) (FLe.refl _) (sc1 (sc1 (.refl _))) ⟨rfl, rfl⟩
set_option maxRecDepth 20000 in
theorem slices_insertionSortCmpFunc_api_Wait_Fix_3_sim {fu : Nat} {a0 : List Wait} {a1 : Int} {a2 : Int} {s_a0 : Sl} {r : (List Wait)} (H : slices_insertionSortCmpFunc_api_Wait_Fix_3 fu a0 a1 a2 = some r) (w0 : World) (F : Frz) (M L : List Item) (hM : M.Sublist L) : Ok Try.prog w0 126 [Sl.v s_a0, iv a1, iv a2, .func (.func 85) #[] #[]] F ((.own s_a0 77 4 (encs a0)) :: L) (fun _ L' v => v = .tuple #[] ∧ L' = (.own s_a0 77 4 (encs r)) :: L) := by
 unfold slices_insertionSortCmpFunc_api_Wait_Fix_3 at H
 refine Ok.enter (m := 4) (n := 53) Try.func126 rfl rfl rfl (by decide) ?_
 refine Cd.env (e' := [(0, Sl.v s_a0), (1, iv a1), (2, iv a2), (3, .func (.func 85) #[] #[])]) rfl ?_
 refine Cd.seq ?_
 refine Cd.region ?_
 refine Lst.r (Ev.move rfl) ?_
 refine Lst.r (Ev.add rfl rfl) ?_
 refine Lst.r (Ev.assign rfl) ?_
 refine Lst.nil ?_
 refine At.then ?_
 refine Cd.block ?_
 obtain ⟨ol2, H, HKl2⟩ := andThen_some H
 refine Cd.loop (σ := Nat × Int × (List Wait)) (fun (k2, y3, l4) => [(0, Sl.v s_a0), (1, iv a1), (2, iv a2), (3, .func (.func 85) #[] #[]), (8, iv y3)]) (fun (k2, y3, l4) => (.own s_a0 77 4 (encs l4)) :: L) (fun _ => (fun (k2, y3, l4) => whileM (slices_insertionSortCmpFunc_api_Wait_Fix_3_B0 fu a1 a2) k2 (y3, l4) = some ol2)) (fun (k2, y3, l4) => k2) (fu, w64 (a1 + (1 : Int)), a0) ⟨rfl, rfl, rfl, rfl, rfl, trivial⟩ rfl H ?_
 rintro F5 ⟨k2, y3, l4⟩ hF6 H
 refine Cd.as (e' := [(0, Sl.v s_a0), (1, iv a1), (2, iv a2), (3, .func (.func 85) #[] #[]), (8, iv y3)]) (L' := (.own s_a0 77 4 (encs l4)) :: L) ⟨rfl, rfl, rfl, rfl, rfl, trivial⟩ rfl ?_
 rcases k2 with _ | k2
 ·cases H
 obtain ⟨c2, H, hgo2, hbrk2, hret2⟩ := whileM_go H
 unfold slices_insertionSortCmpFunc_api_Wait_Fix_3_B0 at H
 try dsimp only at H
 refine Cd.seq ?_
 refine Cd.seq ?_
 refine Cd.region ?_
 refine Lst.r (Ev.move rfl) ?_
 refine Lst.r (Ev.move rfl) ?_
 refine Lst.r (Ev.lss rfl rfl) ?_
 refine Lst.nil ?_
 refine At.then ?_
 rcases (Bool.eq_false_or_eq_true (decide (y3 < a2))).symm with hb7 | hb7
 ·replace H := ite_f hb7 H
  refine Cd.condF rfl hb7 ?_
  refine Cd.exit ?_
  refine At.then_exit ?_
  refine At.then_exit ?_
  refine At.in_exit ?_
  have H := hbrk2 _ (some_inj H).symm
  subst H
  replace H := HKl2
  obtain rfl := some_inj H
  exact At.ret0 (.inr rfl) rfl hF6 (sk1 (.refl _)) ⟨rfl, rfl⟩
 replace H := ite_t hb7 H
 refine Cd.condT rfl hb7 ?_
 refine Cd.skip ?_
 refine At.then ?_
 refine Cd.seq ?_
 refine Cd.block ?_
 refine Cd.seq ?_
 refine Cd.region ?_
 refine Lst.r (Ev.move rfl) ?_
 refine Lst.r (Ev.assign rfl) ?_
 refine Lst.nil ?_
 refine At.then ?_
 refine Cd.block ?_
 obtain ⟨ol8, H, HKl8⟩ := andThen_some H
 refine Cd.loop (σ := Nat × Int × (List Wait)) (fun (k8, y9, l10) => [(0, Sl.v s_a0), (1, iv a1), (2, iv a2), (3, .func (.func 85) #[] #[]), (8, iv y3), (9, iv y9)]) (fun (k8, y9, l10) => (.own s_a0 77 4 (encs l10)) :: L) (fun _ => (fun (k8, y9, l10) => whileM (slices_insertionSortCmpFunc_api_Wait_Fix_3_B2 a1) k8 (y9, l10) = some ol8)) (fun (k8, y9, l10) => k8) (fu, y3, l4) ⟨rfl, rfl, rfl, rfl, rfl, rfl, trivial⟩ rfl H ?_
 rintro F11 ⟨k8, y9, l10⟩ hF12 H
 refine Cd.as (e' := [(0, Sl.v s_a0), (1, iv a1), (2, iv a2), (3, .func (.func 85) #[] #[]), (8, iv y3), (9, iv y9)]) (L' := (.own s_a0 77 4 (encs l10)) :: L) ⟨rfl, rfl, rfl, rfl, rfl, rfl, trivial⟩ rfl ?_
 rcases k8 with _ | k8
 ·cases H
 obtain ⟨c8, H, hgo8, hbrk8, hret8⟩ := whileM_go H
 unfold slices_insertionSortCmpFunc_api_Wait_Fix_3_B2 at H
 try dsimp only at H
 refine Cd.seq ?_
 refine Cd.seq ?_
 refine Cd.quiet (by kernel_rfl) (by kernel_rfl) ?_
 refine Qt.r (Ev.move rfl) ?_
 refine Qt.r (Ev.move rfl) ?_
 refine Qt.r (Ev.gtr rfl rfl) ?_
 refine Qt.r (Ev.move rfl) ?_
 obtain ⟨o13, H, HKo13⟩ := bind_some H
 refine Qt.join (σ := Bool) 13 (fun y14 => [(0, Sl.v s_a0), (1, iv a1), (2, iv a2), (3, .func (.func 85) #[] #[]), (8, iv y3), (9, iv y9), (34, .bool y14)]) (fun y14 => y14 = o13) ?_ ?_
 ·rcases (Bool.eq_false_or_eq_true (decide (y9 > a1))).symm with hb15 | hb15
  ·replace H := ite_f hb15 H
   refine Qt.skip rfl rfl rfl hb15 rfl (by decide) ?_
   refine Qt.skip rfl rfl rfl hb15 rfl (by decide) ?_
   refine Qt.skip rfl rfl rfl hb15 rfl (by decide) ?_
   refine Qt.skip rfl rfl rfl hb15 rfl (by decide) ?_
   refine Qt.skip rfl rfl rfl hb15 rfl (by decide) ?_
   refine Qt.skip rfl rfl rfl hb15 rfl (by decide) ?_
   refine Qt.skip rfl rfl rfl hb15 rfl (by decide) ?_
   refine Qt.skip rfl rfl rfl hb15 rfl (by decide) ?_
   refine Qt.skip rfl rfl rfl hb15 rfl (by decide) ?_
   refine Qt.skip rfl rfl rfl hb15 rfl (by decide) ?_
   refine Qt.skip rfl rfl rfl hb15 rfl (by decide) ?_
   refine Qt.skip rfl rfl rfl hb15 rfl (by decide) ?_
   refine Qt.r (Ev.pickF rfl hb15 rfl) ?_
   exact Qt.meet false ⟨rfl, rfl, rfl, rfl, rfl, rfl, rfl, trivial⟩ (some_inj H)
  replace H := ite_t hb15 H
  refine Qt.rG hb15 (Ev.move rfl) ?_
  refine Qt.rG hb15 (Ev.move rfl) ?_
  refine Qt.rG hb15 (Ev.move rfl) ?_
  obtain ⟨x16, h17, H⟩ := bind_some H
  have g18 := lat_some h17
  refine Qt.rG hb15 (Ev.indexS (α := Wait) (xs := l10) rfl rfl Try.runUnderlying57 Try.sizeOf77 rfl (by decide) (Rd.own (i := 0) rfl rfl rfl) g18.1 g18.2.1) ?_
  refine Qt.rG hb15 (Ev.loadSA (α := Wait) rfl (Rd.own (i := 0) rfl rfl rfl) Try.isAgg77 Try.sizeOf77 (ch := enc x16) (Enc.len _) (by decide) ((Get.elemN (s := 4) (x := x16) rfl g18.2.2 (Get.here _)).off (by omega))) ?_
  refine Qt.rG hb15 (Ev.move rfl) ?_
  refine Qt.rG hb15 (Ev.move rfl) ?_
  refine Qt.rG hb15 (Ev.sub rfl rfl) ?_
  obtain ⟨x19, h20, H⟩ := bind_some H
  have g21 := lat_some h20
  refine Qt.rG hb15 (Ev.indexS (α := Wait) (xs := l10) rfl rfl Try.runUnderlying57 Try.sizeOf77 rfl (by decide) (Rd.own (i := 0) rfl rfl rfl) g21.1 g21.2.1) ?_
  refine Qt.rG hb15 (Ev.loadSA (α := Wait) rfl (Rd.own (i := 0) rfl rfl rfl) Try.isAgg77 Try.sizeOf77 (ch := enc x19) (Enc.len _) (by decide) ((Get.elemN (s := 4) (x := x19) rfl g21.2.2 (Get.here _)).off (by omega))) ?_
  obtain ⟨r22, h23, H⟩ := bind_some H
  refine Qt.callVG rfl rfl rfl hb15 rfl (by decide) (vs := [.agg (enc x16).toArray, .agg (enc x19).toArray]) (cs := []) rfl ⟨rfl, rfl, trivial⟩ Try.call85 (skeen_Fix_3_sim h23 w0 _ M _ (sc1 hM)) ?_
  refine Qt.rG hb15 (Ev.lss rfl rfl) ?_
  refine Qt.r (Ev.pickT rfl hb15 rfl) ?_
  exact Qt.meet (decide (r22 < (0 : Int))) ⟨rfl, rfl, rfl, rfl, rfl, rfl, rfl, trivial⟩ (some_inj H)
 rintro y14 hy
 subst hy
 refine Qt.as (e' := [(0, Sl.v s_a0), (1, iv a1), (2, iv a2), (3, .func (.func 85) #[] #[]), (8, iv y3), (9, iv y9), (34, .bool y14)]) ⟨rfl, rfl, rfl, rfl, rfl, rfl, rfl, trivial⟩ ?_
 replace H := HKo13
 refine Qt.done ?_
 refine At.then ?_
 rcases (Bool.eq_false_or_eq_true y14).symm with hb26 | hb26
 ·replace H := ite_f hb26 H
  refine Cd.condF rfl hb26 ?_
  refine Cd.exit ?_
  refine At.then_exit ?_
  refine At.then_exit ?_
  refine At.in_exit ?_
  have H := hbrk8 _ (some_inj H).symm
  subst H
  replace H := HKl8
  refine At.in_normal ?_
  refine At.then ?_
  refine Cd.region ?_
  refine Lst.r (Ev.move rfl) ?_
  refine Lst.r (Ev.add rfl rfl) ?_
  refine Lst.r (Ev.assign rfl) ?_
  refine Lst.nil ?_
  exact At.meet (k2, w64 (y3 + (1 : Int)), l10) (FLe.trans hF6 hF12) ⟨rfl, rfl, rfl, rfl, rfl, trivial⟩ rfl ⟨hgo2 _ (some_inj H).symm, Nat.lt_succ_self _⟩
 replace H := ite_t hb26 H
 refine Cd.condT rfl hb26 ?_
 refine Cd.skip ?_
 refine At.then ?_
 refine Cd.seq ?_
 refine Cd.block ?_
 obtain ⟨x27, h28, H⟩ := bind_some H
 obtain ⟨x30, h31, H⟩ := bind_some H
 obtain ⟨x33, h34, H⟩ := bind_some H
 obtain ⟨p36, h37, H⟩ := Let_some H
 obtain ⟨o40, h41, H⟩ := Let_some H
 refine Cd.headMeet (σ := (List Wait)) 16 (fun l39 => [(0, Sl.v s_a0), (1, iv a1), (2, iv a2), (3, .func (.func 85) #[] #[]), (8, iv y3), (9, iv y9), (39, Sl.v s_a0), (41, iv (w64 (y9 - (1 : Int)))), (50, .agg (enc x30).toArray)]) (fun l39 => (.own s_a0 77 4 (encs l39)) :: L) (fun _ l39 => l39 = o40) (by kernel_rfl) (by kernel_rfl) (behind_sink (by kernel_rfl) (by kernel_rfl) (by kernel_rfl)) (by kernel_rfl) (fun hsel hlt => ?_) ?_
 ·refine HdJ.keep (fun w => St w0 F11 (L) w) (fun w h => trivial) ?_
  refine HdJ.tk hsel hlt 0 (fun w h => h.sublist (sc1 (.refl _))) rfl (Ev.move rfl) ?_
  refine HdJ.tk hsel hlt 1 (fun w h => h.sublist (sc1 (.refl _))) rfl (Ev.move rfl) ?_
  refine HdJ.tk hsel hlt 2 (fun w h => h.sublist (sc1 (.refl _))) rfl (Ev.move rfl) ?_
  refine HdJ.tk hsel hlt 3 (fun w h => h.sublist (sc1 (.refl _))) rfl (Ev.move rfl) ?_
  refine HdJ.tk hsel hlt 4 (fun w h => h.sublist (sc1 (.refl _))) rfl (Ev.sub rfl rfl) ?_
  refine HdJ.tk hsel hlt 5 (fun w h => h.sublist (sc1 (.refl _))) rfl (Ev.move rfl) ?_
  refine HdJ.tk hsel hlt 6 (fun w h => h.sublist (sc1 (.refl _))) rfl (Ev.move rfl) ?_
  refine HdJ.tk hsel hlt 7 (fun w h => h.sublist (sc1 (.refl _))) rfl (Ev.sub rfl rfl) ?_
  refine HdJ.tk hsel hlt 10 (fun w h => h.sublist (sc1 (.refl _))) rfl (Ev.move rfl) ?_
  refine HdJ.tk hsel hlt 11 (fun w h => h.sublist (sc1 (.refl _))) rfl (Ev.move rfl) ?_
  refine HdJ.step [8, 12] (by kernel_rfl) rfl ?_
  refine HdStep.c (fun inv => ?_) ?_
  ·have g42 := lat_some h28
   refine Lst.r (Ev.indexS (α := Wait) (xs := l10) rfl rfl Try.runUnderlying57 Try.sizeOf77 rfl (by decide) (Rd.own (i := 0) rfl rfl rfl) g42.1 g42.2.1) ?_
   refine Lst.nil ?_
   refine At.hd inv (fun w h => (h.weaken (FLe.refl _)).sublist (sc1 (.refl _))) ?_
   refine HdJ.step [9, 12] (by kernel_rfl) rfl ?_
   refine HdStep.c (fun inv => ?_) ?_
   ·refine Lst.r (Ev.loadSA (α := Wait) rfl (Rd.own (i := 0) rfl rfl rfl) Try.isAgg77 Try.sizeOf77 (ch := enc x27) (Enc.len _) (by decide) ((Get.elemN (s := 4) (x := x27) rfl g42.2.2 (Get.here _)).off (by omega))) ?_
    refine Lst.nil ?_
    refine At.hd inv (fun w h => (h.weaken (FLe.refl _)).sublist (sc1 (.refl _))) ?_
    refine HdJ.step [12] (by kernel_rfl) rfl ?_
    refine HdStep.c (fun inv => ?_) ?_
    ·have g43 := lat_some h31
     refine Lst.r (Ev.indexS (α := Wait) (xs := l10) rfl rfl Try.runUnderlying57 Try.sizeOf77 rfl (by decide) (Rd.own (i := 0) rfl rfl rfl) g43.1 g43.2.1) ?_
     refine Lst.nil ?_
     refine At.hd inv (fun w h => (h.weaken (FLe.refl _)).sublist (sc1 (.refl _))) ?_
     refine HdJ.step [13] (by kernel_rfl) rfl ?_
     refine HdStep.c (fun inv => ?_) ?_
     ·refine Lst.r (Ev.loadSA (α := Wait) rfl (Rd.own (i := 0) rfl rfl rfl) Try.isAgg77 Try.sizeOf77 (ch := enc x30) (Enc.len _) (by decide) ((Get.elemN (s := 4) (x := x30) rfl g43.2.2 (Get.here _)).off (by omega))) ?_
      refine Lst.nil ?_
      refine At.hd inv (fun w h => (h.weaken (FLe.refl _)).sublist (sc1 (.refl _))) ?_
      refine HdJ.step [14] (by kernel_rfl) rfl ?_
      refine HdStep.c (fun inv => ?_) ?_
      ·have g44 := lat_some h34
       refine Lst.r (Ev.indexS (α := Wait) (xs := l10) rfl rfl Try.runUnderlying57 Try.sizeOf77 rfl (by decide) (Rd.own (i := 0) rfl rfl rfl) g44.1 g44.2.1) ?_
       refine Lst.nil ?_
       refine At.hd inv (fun w h => (h.weaken (FLe.refl _)).sublist (sc1 (.refl _))) ?_
       refine HdJ.step [15] (by kernel_rfl) rfl ?_
       refine HdStep.c (fun inv => ?_) ?_
       ·refine Lst.storeS (i := 0) rfl rfl rfl rfl rfl Try.sizeOf77 (vs := enc x27) rfl (Enc.len _) (by decide) (Enc.one _) (xs' := encs p36) (by rw [← h37]; exact (Put.elemN (s := 4) (x := x33) rfl g44.2.2 (Put.here ((Enc.len _).trans (Enc.len _).symm))).off (by omega)) (L' := (.own s_a0 77 4 (encs p36)) :: L) rfl ?_
        refine Lst.nil ?_
        refine At.hd inv (fun w h => (h.weaken (FLe.refl _)).sublist (sc1 (.refl _))) ?_
        refine HdJ.done (by kernel_rfl) ?_
        exact At.meetN p36 (FLe.refl _) ⟨rfl, rfl, rfl, rfl, rfl, rfl, rfl, rfl, rfl, trivial⟩ rfl h41
       exact trivial
      exact trivial
     exact trivial
    exact trivial
   refine HdStep.c (fun inv => ?_) ?_
   ·have g45 := lat_some h31
    refine Lst.r (Ev.indexS (α := Wait) (xs := l10) rfl rfl Try.runUnderlying57 Try.sizeOf77 rfl (by decide) (Rd.own (i := 0) rfl rfl rfl) g45.1 g45.2.1) ?_
    refine Lst.nil ?_
    refine At.hd inv (fun w h => (h.weaken (FLe.refl _)).sublist (sc1 (.refl _))) ?_
    refine HdJ.step [9, 13] (by kernel_rfl) rfl ?_
    refine HdStep.c (fun inv => ?_) ?_
    ·refine Lst.r (Ev.loadSA (α := Wait) rfl (Rd.own (i := 0) rfl rfl rfl) Try.isAgg77 Try.sizeOf77 (ch := enc x27) (Enc.len _) (by decide) ((Get.elemN (s := 4) (x := x27) rfl g42.2.2 (Get.here _)).off (by omega))) ?_
     refine Lst.nil ?_
     refine At.hd inv (fun w h => (h.weaken (FLe.refl _)).sublist (sc1 (.refl _))) ?_
     refine HdJ.step [13] (by kernel_rfl) rfl ?_
     refine HdStep.c (fun inv => ?_) ?_
     ·refine Lst.r (Ev.loadSA (α := Wait) rfl (Rd.own (i := 0) rfl rfl rfl) Try.isAgg77 Try.sizeOf77 (ch := enc x30) (Enc.len _) (by decide) ((Get.elemN (s := 4) (x := x30) rfl g45.2.2 (Get.here _)).off (by omega))) ?_
      refine Lst.nil ?_
      refine At.hd inv (fun w h => (h.weaken (FLe.refl _)).sublist (sc1 (.refl _))) ?_
      refine HdJ.step [14] (by kernel_rfl) rfl ?_
      refine HdStep.c (fun inv => ?_) ?_
      ·have g46 := lat_some h34
       refine Lst.r (Ev.indexS (α := Wait) (xs := l10) rfl rfl Try.runUnderlying57 Try.sizeOf77 rfl (by decide) (Rd.own (i := 0) rfl rfl rfl) g46.1 g46.2.1) ?_
       refine Lst.nil ?_
       refine At.hd inv (fun w h => (h.weaken (FLe.refl _)).sublist (sc1 (.refl _))) ?_
       refine HdJ.step [15] (by kernel_rfl) rfl ?_
       refine HdStep.c (fun inv => ?_) ?_
       ·refine Lst.storeS (i := 0) rfl rfl rfl rfl rfl Try.sizeOf77 (vs := enc x27) rfl (Enc.len _) (by decide) (Enc.one _) (xs' := encs p36) (by rw [← h37]; exact (Put.elemN (s := 4) (x := x33) rfl g46.2.2 (Put.here ((Enc.len _).trans (Enc.len _).symm))).off (by omega)) (L' := (.own s_a0 77 4 (encs p36)) :: L) rfl ?_
        refine Lst.nil ?_
        refine At.hd inv (fun w h => (h.weaken (FLe.refl _)).sublist (sc1 (.refl _))) ?_
        refine HdJ.done (by kernel_rfl) ?_
        exact At.meetN p36 (FLe.refl _) ⟨rfl, rfl, rfl, rfl, rfl, rfl, rfl, rfl, rfl, trivial⟩ rfl h41
       exact trivial
      exact trivial
     exact trivial
    refine HdStep.c (fun inv => ?_) ?_
    ·refine Lst.r (Ev.loadSA (α := Wait) rfl (Rd.own (i := 0) rfl rfl rfl) Try.isAgg77 Try.sizeOf77 (ch := enc x30) (Enc.len _) (by decide) ((Get.elemN (s := 4) (x := x30) rfl g45.2.2 (Get.here _)).off (by omega))) ?_
     refine Lst.nil ?_
     refine At.hd inv (fun w h => (h.weaken (FLe.refl _)).sublist (sc1 (.refl _))) ?_
     refine HdJ.step [9] (by kernel_rfl) rfl ?_
     refine HdStep.c (fun inv => ?_) ?_
     ·refine Lst.r (Ev.loadSA (α := Wait) rfl (Rd.own (i := 0) rfl rfl rfl) Try.isAgg77 Try.sizeOf77 (ch := enc x27) (Enc.len _) (by decide) ((Get.elemN (s := 4) (x := x27) rfl g42.2.2 (Get.here _)).off (by omega))) ?_
      refine Lst.nil ?_
      refine At.hd inv (fun w h => (h.weaken (FLe.refl _)).sublist (sc1 (.refl _))) ?_
      refine HdJ.step [14] (by kernel_rfl) rfl ?_
      refine HdStep.c (fun inv => ?_) ?_
      ·have g47 := lat_some h34
       refine Lst.r (Ev.indexS (α := Wait) (xs := l10) rfl rfl Try.runUnderlying57 Try.sizeOf77 rfl (by decide) (Rd.own (i := 0) rfl rfl rfl) g47.1 g47.2.1) ?_
       refine Lst.nil ?_
       refine At.hd inv (fun w h => (h.weaken (FLe.refl _)).sublist (sc1 (.refl _))) ?_
       refine HdJ.step [15] (by kernel_rfl) rfl ?_
       refine HdStep.c (fun inv => ?_) ?_
       ·refine Lst.storeS (i := 0) rfl rfl rfl rfl rfl Try.sizeOf77 (vs := enc x27) rfl (Enc.len _) (by decide) (Enc.one _) (xs' := encs p36) (by rw [← h37]; exact (Put.elemN (s := 4) (x := x33) rfl g47.2.2 (Put.here ((Enc.len _).trans (Enc.len _).symm))).off (by omega)) (L' := (.own s_a0 77 4 (encs p36)) :: L) rfl ?_
        refine Lst.nil ?_
        refine At.hd inv (fun w h => (h.weaken (FLe.refl _)).sublist (sc1 (.refl _))) ?_
        refine HdJ.done (by kernel_rfl) ?_
        exact At.meetN p36 (FLe.refl _) ⟨rfl, rfl, rfl, rfl, rfl, rfl, rfl, rfl, rfl, trivial⟩ rfl h41
       exact trivial
      exact trivial
     exact trivial
    exact trivial
   exact trivial
  refine HdStep.c (fun inv => ?_) ?_
  ·have g48 := lat_some h31
   refine Lst.r (Ev.indexS (α := Wait) (xs := l10) rfl rfl Try.runUnderlying57 Try.sizeOf77 rfl (by decide) (Rd.own (i := 0) rfl rfl rfl) g48.1 g48.2.1) ?_
   refine Lst.nil ?_
   refine At.hd inv (fun w h => (h.weaken (FLe.refl _)).sublist (sc1 (.refl _))) ?_
   refine HdJ.step [8, 13] (by kernel_rfl) rfl ?_
   refine HdStep.c (fun inv => ?_) ?_
   ·have g49 := lat_some h28
    refine Lst.r (Ev.indexS (α := Wait) (xs := l10) rfl rfl Try.runUnderlying57 Try.sizeOf77 rfl (by decide) (Rd.own (i := 0) rfl rfl rfl) g49.1 g49.2.1) ?_
    refine Lst.nil ?_
    refine At.hd inv (fun w h => (h.weaken (FLe.refl _)).sublist (sc1 (.refl _))) ?_
    refine HdJ.step [9, 13] (by kernel_rfl) rfl ?_
    refine HdStep.c (fun inv => ?_) ?_
    ·refine Lst.r (Ev.loadSA (α := Wait) rfl (Rd.own (i := 0) rfl rfl rfl) Try.isAgg77 Try.sizeOf77 (ch := enc x27) (Enc.len _) (by decide) ((Get.elemN (s := 4) (x := x27) rfl g49.2.2 (Get.here _)).off (by omega))) ?_
     refine Lst.nil ?_
     refine At.hd inv (fun w h => (h.weaken (FLe.refl _)).sublist (sc1 (.refl _))) ?_
     refine HdJ.step [13] (by kernel_rfl) rfl ?_
     refine HdStep.c (fun inv => ?_) ?_
     ·refine Lst.r (Ev.loadSA (α := Wait) rfl (Rd.own (i := 0) rfl rfl rfl) Try.isAgg77 Try.sizeOf77 (ch := enc x30) (Enc.len _) (by decide) ((Get.elemN (s := 4) (x := x30) rfl g48.2.2 (Get.here _)).off (by omega))) ?_
      refine Lst.nil ?_
      refine At.hd inv (fun w h => (h.weaken (FLe.refl _)).sublist (sc1 (.refl _))) ?_
      refine HdJ.step [14] (by kernel_rfl) rfl ?_
      refine HdStep.c (fun inv => ?_) ?_
      ·have g50 := lat_some h34
       refine Lst.r (Ev.indexS (α := Wait) (xs := l10) rfl rfl Try.runUnderlying57 Try.sizeOf77 rfl (by decide) (Rd.own (i := 0) rfl rfl rfl) g50.1 g50.2.1) ?_
       refine Lst.nil ?_
       refine At.hd inv (fun w h => (h.weaken (FLe.refl _)).sublist (sc1 (.refl _))) ?_
       refine HdJ.step [15] (by kernel_rfl) rfl ?_
       refine HdStep.c (fun inv => ?_) ?_
       ·refine Lst.storeS (i := 0) rfl rfl rfl rfl rfl Try.sizeOf77 (vs := enc x27) rfl (Enc.len _) (by decide) (Enc.one _) (xs' := encs p36) (by rw [← h37]; exact (Put.elemN (s := 4) (x := x33) rfl g50.2.2 (Put.here ((Enc.len _).trans (Enc.len _).symm))).off (by omega)) (L' := (.own s_a0 77 4 (encs p36)) :: L) rfl ?_
        refine Lst.nil ?_
        refine At.hd inv (fun w h => (h.weaken (FLe.refl _)).sublist (sc1 (.refl _))) ?_
        refine HdJ.done (by kernel_rfl) ?_
        exact At.meetN p36 (FLe.refl _) ⟨rfl, rfl, rfl, rfl, rfl, rfl, rfl, rfl, rfl, trivial⟩ rfl h41
       exact trivial
      exact trivial
     exact trivial
    refine HdStep.c (fun inv => ?_) ?_
    ·refine Lst.r (Ev.loadSA (α := Wait) rfl (Rd.own (i := 0) rfl rfl rfl) Try.isAgg77 Try.sizeOf77 (ch := enc x30) (Enc.len _) (by decide) ((Get.elemN (s := 4) (x := x30) rfl g48.2.2 (Get.here _)).off (by omega))) ?_
     refine Lst.nil ?_
     refine At.hd inv (fun w h => (h.weaken (FLe.refl _)).sublist (sc1 (.refl _))) ?_
     refine HdJ.step [9] (by kernel_rfl) rfl ?_
     refine HdStep.c (fun inv => ?_) ?_
     ·refine Lst.r (Ev.loadSA (α := Wait) rfl (Rd.own (i := 0) rfl rfl rfl) Try.isAgg77 Try.sizeOf77 (ch := enc x27) (Enc.len _) (by decide) ((Get.elemN (s := 4) (x := x27) rfl g49.2.2 (Get.here _)).off (by omega))) ?_
      refine Lst.nil ?_
      refine At.hd inv (fun w h => (h.weaken (FLe.refl _)).sublist (sc1 (.refl _))) ?_
      refine HdJ.step [14] (by kernel_rfl) rfl ?_
      refine HdStep.c (fun inv => ?_) ?_
      ·have g51 := lat_some h34
       refine Lst.r (Ev.indexS (α := Wait) (xs := l10) rfl rfl Try.runUnderlying57 Try.sizeOf77 rfl (by decide) (Rd.own (i := 0) rfl rfl rfl) g51.1 g51.2.1) ?_
       refine Lst.nil ?_
       refine At.hd inv (fun w h => (h.weaken (FLe.refl _)).sublist (sc1 (.refl _))) ?_
       refine HdJ.step [15] (by kernel_rfl) rfl ?_
       refine HdStep.c (fun inv => ?_) ?_
       ·refine Lst.storeS (i := 0) rfl rfl rfl rfl rfl Try.sizeOf77 (vs := enc x27) rfl (Enc.len _) (by decide) (Enc.one _) (xs' := encs p36) (by rw [← h37]; exact (Put.elemN (s := 4) (x := x33) rfl g51.2.2 (Put.here ((Enc.len _).trans (Enc.len _).symm))).off (by omega)) (L' := (.own s_a0 77 4 (encs p36)) :: L) rfl ?_
        refine Lst.nil ?_
        refine At.hd inv (fun w h => (h.weaken (FLe.refl _)).sublist (sc1 (.refl _))) ?_
        refine HdJ.done (by kernel_rfl) ?_
        exact At.meetN p36 (FLe.refl _) ⟨rfl, rfl, rfl, rfl, rfl, rfl, rfl, rfl, rfl, trivial⟩ rfl h41
       exact trivial
      exact trivial
     exact trivial
    exact trivial
   refine HdStep.c (fun inv => ?_) ?_
   ·refine Lst.r (Ev.loadSA (α := Wait) rfl (Rd.own (i := 0) rfl rfl rfl) Try.isAgg77 Try.sizeOf77 (ch := enc x30) (Enc.len _) (by decide) ((Get.elemN (s := 4) (x := x30) rfl g48.2.2 (Get.here _)).off (by omega))) ?_
    refine Lst.nil ?_
    refine At.hd inv (fun w h => (h.weaken (FLe.refl _)).sublist (sc1 (.refl _))) ?_
    refine HdJ.step [8] (by kernel_rfl) rfl ?_
    refine HdStep.c (fun inv => ?_) ?_
    ·have g52 := lat_some h28
     refine Lst.r (Ev.indexS (α := Wait) (xs := l10) rfl rfl Try.runUnderlying57 Try.sizeOf77 rfl (by decide) (Rd.own (i := 0) rfl rfl rfl) g52.1 g52.2.1) ?_
     refine Lst.nil ?_
     refine At.hd inv (fun w h => (h.weaken (FLe.refl _)).sublist (sc1 (.refl _))) ?_
     refine HdJ.step [9] (by kernel_rfl) rfl ?_
     refine HdStep.c (fun inv => ?_) ?_
     ·refine Lst.r (Ev.loadSA (α := Wait) rfl (Rd.own (i := 0) rfl rfl rfl) Try.isAgg77 Try.sizeOf77 (ch := enc x27) (Enc.len _) (by decide) ((Get.elemN (s := 4) (x := x27) rfl g52.2.2 (Get.here _)).off (by omega))) ?_
      refine Lst.nil ?_
      refine At.hd inv (fun w h => (h.weaken (FLe.refl _)).sublist (sc1 (.refl _))) ?_
      refine HdJ.step [14] (by kernel_rfl) rfl ?_
      refine HdStep.c (fun inv => ?_) ?_
      ·have g53 := lat_some h34
       refine Lst.r (Ev.indexS (α := Wait) (xs := l10) rfl rfl Try.runUnderlying57 Try.sizeOf77 rfl (by decide) (Rd.own (i := 0) rfl rfl rfl) g53.1 g53.2.1) ?_
       refine Lst.nil ?_
       refine At.hd inv (fun w h => (h.weaken (FLe.refl _)).sublist (sc1 (.refl _))) ?_
       refine HdJ.step [15] (by kernel_rfl) rfl ?_
       refine HdStep.c (fun inv => ?_) ?_
       ·refine Lst.storeS (i := 0) rfl rfl rfl rfl rfl Try.sizeOf77 (vs := enc x27) rfl (Enc.len _) (by decide) (Enc.one _) (xs' := encs p36) (by rw [← h37]; exact (Put.elemN (s := 4) (x := x33) rfl g53.2.2 (Put.here ((Enc.len _).trans (Enc.len _).symm))).off (by omega)) (L' := (.own s_a0 77 4 (encs p36)) :: L) rfl ?_
        refine Lst.nil ?_
        refine At.hd inv (fun w h => (h.weaken (FLe.refl _)).sublist (sc1 (.refl _))) ?_
        refine HdJ.done (by kernel_rfl) ?_
        exact At.meetN p36 (FLe.refl _) ⟨rfl, rfl, rfl, rfl, rfl, rfl, rfl, rfl, rfl, trivial⟩ rfl h41
       exact trivial
      exact trivial
     exact trivial
    exact trivial
   exact trivial
  exact trivial
 rintro F54 l39 hF55 hy
 subst hy
 refine Lst.as (e' := [(0, Sl.v s_a0), (1, iv a1), (2, iv a2), (3, .func (.func 85) #[] #[]), (8, iv y3), (9, iv y9), (39, Sl.v s_a0), (41, iv (w64 (y9 - (1 : Int)))), (50, .agg (enc x30).toArray)]) (L' := (.own s_a0 77 4 (encs l39)) :: L) ⟨rfl, rfl, rfl, rfl, rfl, rfl, rfl, rfl, rfl, trivial⟩ rfl ?_
 obtain ⟨x56, h57, H⟩ := bind_some H
 have g58 := lat_some h57
 refine Lst.r (Ev.indexS (α := Wait) (xs := l39) rfl rfl Try.runUnderlying57 Try.sizeOf77 rfl (by decide) (Rd.own (i := 0) rfl rfl rfl) g58.1 g58.2.1) ?_
 obtain ⟨p59, h60, H⟩ := Let_some H
 refine Lst.storeS (i := 0) rfl rfl rfl rfl rfl Try.sizeOf77 (vs := enc x30) rfl (Enc.len _) (by decide) (Enc.one _) (xs' := encs p59) (by rw [← h60]; exact (Put.elemN (s := 4) (x := x56) rfl g58.2.2 (Put.here ((Enc.len _).trans (Enc.len _).symm))).off (by omega)) (L' := (.own s_a0 77 4 (encs p59)) :: L) rfl ?_
 refine Lst.nil ?_
 refine At.in_normal ?_
 refine At.then ?_
 refine Cd.region ?_
 refine Lst.r (Ev.move rfl) ?_
 refine Lst.r (Ev.sub rfl rfl) ?_
 refine Lst.r (Ev.assign rfl) ?_
 refine Lst.nil ?_
 exact At.meet (k8, w64 (y9 - (1 : Int)), p59) (FLe.trans hF12 hF55) ⟨rfl, rfl, rfl, rfl, rfl, rfl, trivial⟩ rfl ⟨hgo8 _ (some_inj H).symm, Nat.lt_succ_self _⟩
set_option maxRecDepth 20000 in
theorem slices_siftDownCmpFunc_api_Wait_Fix_3_sim {fu : Nat} {a0 : List Wait} {a1 : Int} {a2 : Int} {a3 : Int} {s_a0 : Sl} {r : (List Wait)} (H : slices_siftDownCmpFunc_api_Wait_Fix_3 fu a0 a1 a2 a3 = some r) (w0 : World) (F : Frz) (M L : List Item) (hM : M.Sublist L) : Ok Try.prog w0 148 [Sl.v s_a0, iv a1, iv a2, iv a3, .func (.func 85) #[] #[]] F ((.own s_a0 77 4 (encs a0)) :: L) (fun _ L' v => v = .tuple #[] ∧ L' = (.own s_a0 77 4 (encs r)) :: L) := by
 unfold slices_siftDownCmpFunc_api_Wait_Fix_3 at H
 refine Ok.enter (m := 5) (n := 82) Try.func148 rfl rfl rfl (by decide) ?_
 refine Cd.env (e' := [(0, Sl.v s_a0), (1, iv a1), (2, iv a2), (3, iv a3), (4, .func (.func 85) #[] #[])]) rfl ?_
 refine Cd.seq ?_
 refine Cd.region ?_
 refine Lst.r (Ev.move rfl) ?_
 refine Lst.r (Ev.assign rfl) ?_
 refine Lst.nil ?_
 refine At.then ?_
 refine Cd.block ?_
 obtain ⟨ol2, H, HKl2⟩ := andThen_some H
 refine Cd.loop (σ := Nat × Int × (List Wait)) (fun (k2, y3, l4) => [(0, Sl.v s_a0), (2, iv a2), (3, iv a3), (4, .func (.func 85) #[] #[]), (10, iv y3)]) (fun (k2, y3, l4) => (.own s_a0 77 4 (encs l4)) :: L) (fun _ => (fun (k2, y3, l4) => whileM (slices_siftDownCmpFunc_api_Wait_Fix_3_B0 a2 a3) k2 (y3, l4) = some ol2)) (fun (k2, y3, l4) => k2) (fu, a1, a0) ⟨rfl, rfl, rfl, rfl, rfl, trivial⟩ rfl H ?_
 rintro F5 ⟨k2, y3, l4⟩ hF6 H
 refine Cd.as (e' := [(0, Sl.v s_a0), (2, iv a2), (3, iv a3), (4, .func (.func 85) #[] #[]), (10, iv y3)]) (L' := (.own s_a0 77 4 (encs l4)) :: L) ⟨rfl, rfl, rfl, rfl, rfl, trivial⟩ rfl ?_
 rcases k2 with _ | k2
 ·cases H
 obtain ⟨c2, H, hgo2, hbrk2, hret2⟩ := whileM_go H
 unfold slices_siftDownCmpFunc_api_Wait_Fix_3_B0 at H
 try dsimp only at H
 refine Cd.block ?_
 refine Cd.seq ?_
 refine Cd.region ?_
 refine Lst.r (Ev.move rfl) ?_
 refine Lst.r (Ev.mul rfl rfl) ?_
 refine Lst.r (Ev.add rfl rfl) ?_
 refine Lst.r (Ev.assign rfl) ?_
 refine Lst.nil ?_
 refine At.then ?_
 refine Cd.seq ?_
 refine Cd.seq ?_
 refine Cd.region ?_
 refine Lst.r (Ev.move rfl) ?_
 refine Lst.r (Ev.move rfl) ?_
 refine Lst.r (Ev.geq rfl rfl) ?_
 refine Lst.nil ?_
 refine At.then ?_
 rcases Bool.eq_false_or_eq_true (decide ((w64 ((w64 ((2 : Int) * y3)) + (1 : Int))) ≥ a2)) with hb7 | hb7
 ·replace H := ite_t hb7 H
  refine Cd.condT rfl hb7 ?_
  refine Cd.exit ?_
  refine At.then_exit ?_
  refine At.in_other rfl ?_
  refine At.then_exit ?_
  refine At.in_exit ?_
  have H := hbrk2 _ (some_inj H).symm
  subst H
  replace H := HKl2
  obtain rfl := some_inj H
  exact At.ret0 (.inr rfl) rfl hF6 (sk1 (.refl _)) ⟨rfl, rfl⟩
 replace H := ite_f hb7 H
 refine Cd.condF rfl hb7 ?_
 refine Cd.skip ?_
 refine At.then ?_
 obtain ⟨o9, H, HKo9⟩ := bind_some H
 refine Cd.join (σ := Int) (fun y8 => [(0, Sl.v s_a0), (2, iv a2), (3, iv a3), (4, .func (.func 85) #[] #[]), (10, iv y3), (11, iv y8)]) (fun y8 => (.own s_a0 77 4 (encs l4)) :: L) (fun _ y8 => y8 = o9) ?_ ?_
 ·refine Cd.seq ?_
  refine Cd.quiet (by kernel_rfl) (by kernel_rfl) ?_
  refine Qt.r (Ev.move rfl) ?_
  refine Qt.r (Ev.add rfl rfl) ?_
  refine Qt.r (Ev.move rfl) ?_
  refine Qt.r (Ev.lss rfl rfl) ?_
  refine Qt.r (Ev.move rfl) ?_
  obtain ⟨o10, H, HKo10⟩ := bind_some H
  refine Qt.join (σ := Bool) 17 (fun y11 => [(0, Sl.v s_a0), (2, iv a2), (3, iv a3), (4, .func (.func 85) #[] #[]), (10, iv y3), (11, iv (w64 ((w64 ((2 : Int) * y3)) + (1 : Int)))), (40, .bool y11)]) (fun y11 => y11 = o10) ?_ ?_
  ·rcases (Bool.eq_false_or_eq_true (decide ((w64 ((w64 ((w64 ((2 : Int) * y3)) + (1 : Int))) + (1 : Int))) < a2))).symm with hb12 | hb12
   ·replace H := ite_f hb12 H
    refine Qt.skip rfl rfl rfl hb12 rfl (by decide) ?_
    refine Qt.skip rfl rfl rfl hb12 rfl (by decide) ?_
    refine Qt.skip rfl rfl rfl hb12 rfl (by decide) ?_
    refine Qt.skip rfl rfl rfl hb12 rfl (by decide) ?_
    refine Qt.skip rfl rfl rfl hb12 rfl (by decide) ?_
    refine Qt.skip rfl rfl rfl hb12 rfl (by decide) ?_
    refine Qt.skip rfl rfl rfl hb12 rfl (by decide) ?_
    refine Qt.skip rfl rfl rfl hb12 rfl (by decide) ?_
    refine Qt.skip rfl rfl rfl hb12 rfl (by decide) ?_
    refine Qt.skip rfl rfl rfl hb12 rfl (by decide) ?_
    refine Qt.skip rfl rfl rfl hb12 rfl (by decide) ?_
    refine Qt.skip rfl rfl rfl hb12 rfl (by decide) ?_
    refine Qt.skip rfl rfl rfl hb12 rfl (by decide) ?_
    refine Qt.skip rfl rfl rfl hb12 rfl (by decide) ?_
    refine Qt.skip rfl rfl rfl hb12 rfl (by decide) ?_
    refine Qt.skip rfl rfl rfl hb12 rfl (by decide) ?_
    refine Qt.r (Ev.pickF rfl hb12 rfl) ?_
    exact Qt.meet false ⟨rfl, rfl, rfl, rfl, rfl, rfl, rfl, trivial⟩ (some_inj H)
   replace H := ite_t hb12 H
   refine Qt.rG hb12 (Ev.move rfl) ?_
   refine Qt.rG hb12 (Ev.move rfl) ?_
   refine Qt.rG hb12 (Ev.move rfl) ?_
   refine Qt.rG hb12 (Ev.move rfl) ?_
   refine Qt.rG hb12 (Ev.add rfl rfl) ?_
   obtain ⟨x13, h14, H⟩ := bind_some H
   have g15 := lat_some h14
   refine Qt.rG hb12 (Ev.indexS (α := Wait) (xs := l4) rfl rfl Try.runUnderlying57 Try.sizeOf77 rfl (by decide) (Rd.own (i := 0) rfl rfl rfl) g15.1 g15.2.1) ?_
   refine Qt.rG hb12 (Ev.loadSA (α := Wait) rfl (Rd.own (i := 0) rfl rfl rfl) Try.isAgg77 Try.sizeOf77 (ch := enc x13) (Enc.len _) (by decide) ((Get.elemN (s := 4) (x := x13) rfl g15.2.2 (Get.here _)).off (by omega))) ?_
   refine Qt.rG hb12 (Ev.move rfl) ?_
   refine Qt.rG hb12 (Ev.move rfl) ?_
   refine Qt.rG hb12 (Ev.move rfl) ?_
   refine Qt.rG hb12 (Ev.add rfl rfl) ?_
   refine Qt.rG hb12 (Ev.add rfl rfl) ?_
   obtain ⟨x16, h17, H⟩ := bind_some H
   have g18 := lat_some h17
   refine Qt.rG hb12 (Ev.indexS (α := Wait) (xs := l4) rfl rfl Try.runUnderlying57 Try.sizeOf77 rfl (by decide) (Rd.own (i := 0) rfl rfl rfl) g18.1 g18.2.1) ?_
   refine Qt.rG hb12 (Ev.loadSA (α := Wait) rfl (Rd.own (i := 0) rfl rfl rfl) Try.isAgg77 Try.sizeOf77 (ch := enc x16) (Enc.len _) (by decide) ((Get.elemN (s := 4) (x := x16) rfl g18.2.2 (Get.here _)).off (by omega))) ?_
   obtain ⟨r19, h20, H⟩ := bind_some H
   refine Qt.callVG rfl rfl rfl hb12 rfl (by decide) (vs := [.agg (enc x13).toArray, .agg (enc x16).toArray]) (cs := []) rfl ⟨rfl, rfl, trivial⟩ Try.call85 (skeen_Fix_3_sim h20 w0 _ M _ (sc1 hM)) ?_
   refine Qt.rG hb12 (Ev.lss rfl rfl) ?_
   refine Qt.r (Ev.pickT rfl hb12 rfl) ?_
   exact Qt.meet (decide (r19 < (0 : Int))) ⟨rfl, rfl, rfl, rfl, rfl, rfl, rfl, trivial⟩ (some_inj H)
  rintro y11 hy
  subst hy
  refine Qt.as (e' := [(0, Sl.v s_a0), (2, iv a2), (3, iv a3), (4, .func (.func 85) #[] #[]), (10, iv y3), (11, iv (w64 ((w64 ((2 : Int) * y3)) + (1 : Int)))), (40, .bool y11)]) ⟨rfl, rfl, rfl, rfl, rfl, rfl, rfl, trivial⟩ ?_
  replace H := HKo10
  refine Qt.done ?_
  refine At.then ?_
  rcases (Bool.eq_false_or_eq_true y11).symm with hb23 | hb23
  ·replace H := ite_f hb23 H
   refine Cd.condF rfl hb23 ?_
   refine Cd.skip ?_
   exact At.meet (w64 ((w64 ((2 : Int) * y3)) + (1 : Int))) (FLe.refl _) ⟨rfl, rfl, rfl, rfl, rfl, rfl, trivial⟩ rfl (some_inj H)
  replace H := ite_t hb23 H
  refine Cd.condT rfl hb23 ?_
  refine Cd.region ?_
  refine Lst.r (Ev.move rfl) ?_
  refine Lst.r (Ev.add rfl rfl) ?_
  refine Lst.r (Ev.assign rfl) ?_
  refine Lst.nil ?_
  exact At.meet (w64 ((w64 ((w64 ((2 : Int) * y3)) + (1 : Int))) + (1 : Int))) (FLe.refl _) ⟨rfl, rfl, rfl, rfl, rfl, rfl, trivial⟩ rfl (some_inj H)
 rintro F24 y8 hF25 hy
 subst hy
 refine Cd.as (e' := [(0, Sl.v s_a0), (2, iv a2), (3, iv a3), (4, .func (.func 85) #[] #[]), (10, iv y3), (11, iv y8)]) (L' := (.own s_a0 77 4 (encs l4)) :: L) ⟨rfl, rfl, rfl, rfl, rfl, rfl, trivial⟩ rfl ?_
 replace H := HKo9
 refine Cd.seq ?_
 refine Cd.seq ?_
 refine Cd.quiet (by kernel_rfl) (by kernel_rfl) ?_
 refine Qt.r (Ev.move rfl) ?_
 refine Qt.r (Ev.move rfl) ?_
 refine Qt.r (Ev.move rfl) ?_
 refine Qt.r (Ev.move rfl) ?_
 refine Qt.r (Ev.add rfl rfl) ?_
 obtain ⟨x26, h27, H⟩ := bind_some H
 have g28 := lat_some h27
 refine Qt.r (Ev.indexS (α := Wait) (xs := l4) rfl rfl Try.runUnderlying57 Try.sizeOf77 rfl (by decide) (Rd.own (i := 0) rfl rfl rfl) g28.1 g28.2.1) ?_
 refine Qt.r (Ev.loadSA (α := Wait) rfl (Rd.own (i := 0) rfl rfl rfl) Try.isAgg77 Try.sizeOf77 (ch := enc x26) (Enc.len _) (by decide) ((Get.elemN (s := 4) (x := x26) rfl g28.2.2 (Get.here _)).off (by omega))) ?_
 refine Qt.r (Ev.move rfl) ?_
 refine Qt.r (Ev.move rfl) ?_
 refine Qt.r (Ev.move rfl) ?_
 refine Qt.r (Ev.add rfl rfl) ?_
 obtain ⟨x29, h30, H⟩ := bind_some H
 have g31 := lat_some h30
 refine Qt.r (Ev.indexS (α := Wait) (xs := l4) rfl rfl Try.runUnderlying57 Try.sizeOf77 rfl (by decide) (Rd.own (i := 0) rfl rfl rfl) g31.1 g31.2.1) ?_
 refine Qt.r (Ev.loadSA (α := Wait) rfl (Rd.own (i := 0) rfl rfl rfl) Try.isAgg77 Try.sizeOf77 (ch := enc x29) (Enc.len _) (by decide) ((Get.elemN (s := 4) (x := x29) rfl g31.2.2 (Get.here _)).off (by omega))) ?_
 obtain ⟨r32, h33, H⟩ := bind_some H
 refine Qt.callV rfl rfl (by decide) (vs := [.agg (enc x26).toArray, .agg (enc x29).toArray]) (cs := []) rfl ⟨rfl, rfl, trivial⟩ Try.call85 (skeen_Fix_3_sim h33 w0 _ M _ (sc1 hM)) ?_
 refine Qt.r (Ev.lss rfl rfl) ?_
 refine Qt.r (Ev.not rfl) ?_
 refine Qt.done ?_
 refine At.then ?_
 rcases Bool.eq_false_or_eq_true (!(decide (r32 < (0 : Int)))) with hb36 | hb36
 ·replace H := ite_t hb36 H
  refine Cd.condT rfl hb36 ?_
  have H := hret2 _ (some_inj H).symm
  subst H
  replace H := HKl2
  obtain rfl := some_inj H
  refine Cd.ret ?_
  refine At.then_ret ?_
  refine At.in_ret ?_
  refine At.then_ret ?_
  refine At.in_ret ?_
  exact At.ret0 (.inl rfl) rfl (FLe.trans hF6 hF25) (sk1 (.refl _)) ⟨rfl, rfl⟩
 replace H := ite_f hb36 H
 refine Cd.condF rfl hb36 ?_
 refine Cd.skip ?_
 refine At.then ?_
 refine Cd.seq ?_
 refine Cd.as (e' := [(0, Sl.v s_a0), (2, iv a2), (3, iv a3), (4, .func (.func 85) #[] #[]), (10, iv y3), (11, iv y8)]) (L' := (.own s_a0 77 4 (encs l4)) :: L) ⟨rfl, rfl, rfl, rfl, rfl, rfl, trivial⟩ rfl ?_
 obtain ⟨x37, h38, H⟩ := bind_some H
 obtain ⟨x40, h41, H⟩ := bind_some H
 obtain ⟨x43, h44, H⟩ := bind_some H
 obtain ⟨p46, h47, H⟩ := Let_some H
 obtain ⟨o50, h51, H⟩ := Let_some H
 refine Cd.headMeet (σ := (List Wait)) 22 (fun l49 => [(0, Sl.v s_a0), (2, iv a2), (3, iv a3), (4, .func (.func 85) #[] #[]), (10, iv y3), (11, iv y8), (63, Sl.v s_a0), (66, iv (w64 (a3 + y8))), (78, .agg (enc x40).toArray)]) (fun l49 => (.own s_a0 77 4 (encs l49)) :: L) (fun _ l49 => l49 = o50) (by kernel_rfl) (by kernel_rfl) (behind_sink (by kernel_rfl) (by kernel_rfl) (by kernel_rfl)) (by kernel_rfl) (fun hsel hlt => ?_) ?_
 ·refine HdJ.keep (fun w => St w0 F24 (L) w) (fun w h => trivial) ?_
  refine HdJ.tk hsel hlt 0 (fun w h => h.sublist (sc1 (.refl _))) rfl (Ev.move rfl) ?_
  refine HdJ.tk hsel hlt 1 (fun w h => h.sublist (sc1 (.refl _))) rfl (Ev.move rfl) ?_
  refine HdJ.tk hsel hlt 2 (fun w h => h.sublist (sc1 (.refl _))) rfl (Ev.move rfl) ?_
  refine HdJ.tk hsel hlt 3 (fun w h => h.sublist (sc1 (.refl _))) rfl (Ev.add rfl rfl) ?_
  refine HdJ.tk hsel hlt 4 (fun w h => h.sublist (sc1 (.refl _))) rfl (Ev.move rfl) ?_
  refine HdJ.tk hsel hlt 5 (fun w h => h.sublist (sc1 (.refl _))) rfl (Ev.move rfl) ?_
  refine HdJ.tk hsel hlt 6 (fun w h => h.sublist (sc1 (.refl _))) rfl (Ev.move rfl) ?_
  refine HdJ.tk hsel hlt 7 (fun w h => h.sublist (sc1 (.refl _))) rfl (Ev.add rfl rfl) ?_
  refine HdJ.tk hsel hlt 8 (fun w h => h.sublist (sc1 (.refl _))) rfl (Ev.move rfl) ?_
  refine HdJ.tk hsel hlt 9 (fun w h => h.sublist (sc1 (.refl _))) rfl (Ev.move rfl) ?_
  refine HdJ.tk hsel hlt 10 (fun w h => h.sublist (sc1 (.refl _))) rfl (Ev.move rfl) ?_
  refine HdJ.tk hsel hlt 11 (fun w h => h.sublist (sc1 (.refl _))) rfl (Ev.add rfl rfl) ?_
  refine HdJ.tk hsel hlt 14 (fun w h => h.sublist (sc1 (.refl _))) rfl (Ev.move rfl) ?_
  refine HdJ.tk hsel hlt 15 (fun w h => h.sublist (sc1 (.refl _))) rfl (Ev.move rfl) ?_
  refine HdJ.tk hsel hlt 16 (fun w h => h.sublist (sc1 (.refl _))) rfl (Ev.move rfl) ?_
  refine HdJ.tk hsel hlt 17 (fun w h => h.sublist (sc1 (.refl _))) rfl (Ev.add rfl rfl) ?_
  refine HdJ.step [12, 18] (by kernel_rfl) rfl ?_
  refine HdStep.c (fun inv => ?_) ?_
  ·have g52 := lat_some h38
   refine Lst.r (Ev.indexS (α := Wait) (xs := l4) rfl rfl Try.runUnderlying57 Try.sizeOf77 rfl (by decide) (Rd.own (i := 0) rfl rfl rfl) g52.1 g52.2.1) ?_
   refine Lst.nil ?_
   refine At.hd inv (fun w h => (h.weaken (FLe.refl _)).sublist (sc1 (.refl _))) ?_
   refine HdJ.step [13, 18] (by kernel_rfl) rfl ?_
   refine HdStep.c (fun inv => ?_) ?_
   ·refine Lst.r (Ev.loadSA (α := Wait) rfl (Rd.own (i := 0) rfl rfl rfl) Try.isAgg77 Try.sizeOf77 (ch := enc x37) (Enc.len _) (by decide) ((Get.elemN (s := 4) (x := x37) rfl g52.2.2 (Get.here _)).off (by omega))) ?_
    refine Lst.nil ?_
    refine At.hd inv (fun w h => (h.weaken (FLe.refl _)).sublist (sc1 (.refl _))) ?_
    refine HdJ.step [18] (by kernel_rfl) rfl ?_
    refine HdStep.c (fun inv => ?_) ?_
    ·have g53 := lat_some h41
     refine Lst.r (Ev.indexS (α := Wait) (xs := l4) rfl rfl Try.runUnderlying57 Try.sizeOf77 rfl (by decide) (Rd.own (i := 0) rfl rfl rfl) g53.1 g53.2.1) ?_
     refine Lst.nil ?_
     refine At.hd inv (fun w h => (h.weaken (FLe.refl _)).sublist (sc1 (.refl _))) ?_
     refine HdJ.step [19] (by kernel_rfl) rfl ?_
     refine HdStep.c (fun inv => ?_) ?_
     ·refine Lst.r (Ev.loadSA (α := Wait) rfl (Rd.own (i := 0) rfl rfl rfl) Try.isAgg77 Try.sizeOf77 (ch := enc x40) (Enc.len _) (by decide) ((Get.elemN (s := 4) (x := x40) rfl g53.2.2 (Get.here _)).off (by omega))) ?_
      refine Lst.nil ?_
      refine At.hd inv (fun w h => (h.weaken (FLe.refl _)).sublist (sc1 (.refl _))) ?_
      refine HdJ.step [20] (by kernel_rfl) rfl ?_
      refine HdStep.c (fun inv => ?_) ?_
      ·have g54 := lat_some h44
       refine Lst.r (Ev.indexS (α := Wait) (xs := l4) rfl rfl Try.runUnderlying57 Try.sizeOf77 rfl (by decide) (Rd.own (i := 0) rfl rfl rfl) g54.1 g54.2.1) ?_
       refine Lst.nil ?_
       refine At.hd inv (fun w h => (h.weaken (FLe.refl _)).sublist (sc1 (.refl _))) ?_
       refine HdJ.step [21] (by kernel_rfl) rfl ?_
       refine HdStep.c (fun inv => ?_) ?_
       ·refine Lst.storeS (i := 0) rfl rfl rfl rfl rfl Try.sizeOf77 (vs := enc x37) rfl (Enc.len _) (by decide) (Enc.one _) (xs' := encs p46) (by rw [← h47]; exact (Put.elemN (s := 4) (x := x43) rfl g54.2.2 (Put.here ((Enc.len _).trans (Enc.len _).symm))).off (by omega)) (L' := (.own s_a0 77 4 (encs p46)) :: L) rfl ?_
        refine Lst.nil ?_
        refine At.hd inv (fun w h => (h.weaken (FLe.refl _)).sublist (sc1 (.refl _))) ?_
        refine HdJ.done (by kernel_rfl) ?_
        exact At.meetN p46 (FLe.refl _) ⟨rfl, rfl, rfl, rfl, rfl, rfl, rfl, rfl, rfl, trivial⟩ rfl h51
       exact trivial
      exact trivial
     exact trivial
    exact trivial
   refine HdStep.c (fun inv => ?_) ?_
   ·have g55 := lat_some h41
    refine Lst.r (Ev.indexS (α := Wait) (xs := l4) rfl rfl Try.runUnderlying57 Try.sizeOf77 rfl (by decide) (Rd.own (i := 0) rfl rfl rfl) g55.1 g55.2.1) ?_
    refine Lst.nil ?_
    refine At.hd inv (fun w h => (h.weaken (FLe.refl _)).sublist (sc1 (.refl _))) ?_
    refine HdJ.step [13, 19] (by kernel_rfl) rfl ?_
    refine HdStep.c (fun inv => ?_) ?_
    ·refine Lst.r (Ev.loadSA (α := Wait) rfl (Rd.own (i := 0) rfl rfl rfl) Try.isAgg77 Try.sizeOf77 (ch := enc x37) (Enc.len _) (by decide) ((Get.elemN (s := 4) (x := x37) rfl g52.2.2 (Get.here _)).off (by omega))) ?_
     refine Lst.nil ?_
     refine At.hd inv (fun w h => (h.weaken (FLe.refl _)).sublist (sc1 (.refl _))) ?_
     refine HdJ.step [19] (by kernel_rfl) rfl ?_
     refine HdStep.c (fun inv => ?_) ?_
     ·refine Lst.r (Ev.loadSA (α := Wait) rfl (Rd.own (i := 0) rfl rfl rfl) Try.isAgg77 Try.sizeOf77 (ch := enc x40) (Enc.len _) (by decide) ((Get.elemN (s := 4) (x := x40) rfl g55.2.2 (Get.here _)).off (by omega))) ?_
      refine Lst.nil ?_
      refine At.hd inv (fun w h => (h.weaken (FLe.refl _)).sublist (sc1 (.refl _))) ?_
      refine HdJ.step [20] (by kernel_rfl) rfl ?_
      refine HdStep.c (fun inv => ?_) ?_
      ·have g56 := lat_some h44
       refine Lst.r (Ev.indexS (α := Wait) (xs := l4) rfl rfl Try.runUnderlying57 Try.sizeOf77 rfl (by decide) (Rd.own (i := 0) rfl rfl rfl) g56.1 g56.2.1) ?_
       refine Lst.nil ?_
       refine At.hd inv (fun w h => (h.weaken (FLe.refl _)).sublist (sc1 (.refl _))) ?_
       refine HdJ.step [21] (by kernel_rfl) rfl ?_
       refine HdStep.c (fun inv => ?_) ?_
       ·refine Lst.storeS (i := 0) rfl rfl rfl rfl rfl Try.sizeOf77 (vs := enc x37) rfl (Enc.len _) (by decide) (Enc.one _) (xs' := encs p46) (by rw [← h47]; exact (Put.elemN (s := 4) (x := x43) rfl g56.2.2 (Put.here ((Enc.len _).trans (Enc.len _).symm))).off (by omega)) (L' := (.own s_a0 77 4 (encs p46)) :: L) rfl ?_
        refine Lst.nil ?_
        refine At.hd inv (fun w h => (h.weaken (FLe.refl _)).sublist (sc1 (.refl _))) ?_
        refine HdJ.done (by kernel_rfl) ?_
        exact At.meetN p46 (FLe.refl _) ⟨rfl, rfl, rfl, rfl, rfl, rfl, rfl, rfl, rfl, trivial⟩ rfl h51
       exact trivial
      exact trivial
     exact trivial
    refine HdStep.c (fun inv => ?_) ?_
    ·refine Lst.r (Ev.loadSA (α := Wait) rfl (Rd.own (i := 0) rfl rfl rfl) Try.isAgg77 Try.sizeOf77 (ch := enc x40) (Enc.len _) (by decide) ((Get.elemN (s := 4) (x := x40) rfl g55.2.2 (Get.here _)).off (by omega))) ?_
     refine Lst.nil ?_
     refine At.hd inv (fun w h => (h.weaken (FLe.refl _)).sublist (sc1 (.refl _))) ?_
     refine HdJ.step [13] (by kernel_rfl) rfl ?_
     refine HdStep.c (fun inv => ?_) ?_
     ·refine Lst.r (Ev.loadSA (α := Wait) rfl (Rd.own (i := 0) rfl rfl rfl) Try.isAgg77 Try.sizeOf77 (ch := enc x37) (Enc.len _) (by decide) ((Get.elemN (s := 4) (x := x37) rfl g52.2.2 (Get.here _)).off (by omega))) ?_
      refine Lst.nil ?_
      refine At.hd inv (fun w h => (h.weaken (FLe.refl _)).sublist (sc1 (.refl _))) ?_
      refine HdJ.step [20] (by kernel_rfl) rfl ?_
      refine HdStep.c (fun inv => ?_) ?_
      ·have g57 := lat_some h44
       refine Lst.r (Ev.indexS (α := Wait) (xs := l4) rfl rfl Try.runUnderlying57 Try.sizeOf77 rfl (by decide) (Rd.own (i := 0) rfl rfl rfl) g57.1 g57.2.1) ?_
       refine Lst.nil ?_
       refine At.hd inv (fun w h => (h.weaken (FLe.refl _)).sublist (sc1 (.refl _))) ?_
       refine HdJ.step [21] (by kernel_rfl) rfl ?_
       refine HdStep.c (fun inv => ?_) ?_
       ·refine Lst.storeS (i := 0) rfl rfl rfl rfl rfl Try.sizeOf77 (vs := enc x37) rfl (Enc.len _) (by decide) (Enc.one _) (xs' := encs p46) (by rw [← h47]; exact (Put.elemN (s := 4) (x := x43) rfl g57.2.2 (Put.here ((Enc.len _).trans (Enc.len _).symm))).off (by omega)) (L' := (.own s_a0 77 4 (encs p46)) :: L) rfl ?_
        refine Lst.nil ?_
        refine At.hd inv (fun w h => (h.weaken (FLe.refl _)).sublist (sc1 (.refl _))) ?_
        refine HdJ.done (by kernel_rfl) ?_
        exact At.meetN p46 (FLe.refl _) ⟨rfl, rfl, rfl, rfl, rfl, rfl, rfl, rfl, rfl, trivial⟩ rfl h51
       exact trivial
      exact trivial
     exact trivial
    exact trivial
   exact trivial
  refine HdStep.c (fun inv => ?_) ?_
  ·have g58 := lat_some h41
   refine Lst.r (Ev.indexS (α := Wait) (xs := l4) rfl rfl Try.runUnderlying57 Try.sizeOf77 rfl (by decide) (Rd.own (i := 0) rfl rfl rfl) g58.1 g58.2.1) ?_
   refine Lst.nil ?_
   refine At.hd inv (fun w h => (h.weaken (FLe.refl _)).sublist (sc1 (.refl _))) ?_
   refine HdJ.step [12, 19] (by kernel_rfl) rfl ?_
   refine HdStep.c (fun inv => ?_) ?_
   ·have g59 := lat_some h38
    refine Lst.r (Ev.indexS (α := Wait) (xs := l4) rfl rfl Try.runUnderlying57 Try.sizeOf77 rfl (by decide) (Rd.own (i := 0) rfl rfl rfl) g59.1 g59.2.1) ?_
    refine Lst.nil ?_
    refine At.hd inv (fun w h => (h.weaken (FLe.refl _)).sublist (sc1 (.refl _))) ?_
    refine HdJ.step [13, 19] (by kernel_rfl) rfl ?_
    refine HdStep.c (fun inv => ?_) ?_
    ·refine Lst.r (Ev.loadSA (α := Wait) rfl (Rd.own (i := 0) rfl rfl rfl) Try.isAgg77 Try.sizeOf77 (ch := enc x37) (Enc.len _) (by decide) ((Get.elemN (s := 4) (x := x37) rfl g59.2.2 (Get.here _)).off (by omega))) ?_
     refine Lst.nil ?_
     refine At.hd inv (fun w h => (h.weaken (FLe.refl _)).sublist (sc1 (.refl _))) ?_
     refine HdJ.step [19] (by kernel_rfl) rfl ?_
     refine HdStep.c (fun inv => ?_) ?_
     ·refine Lst.r (Ev.loadSA (α := Wait) rfl (Rd.own (i := 0) rfl rfl rfl) Try.isAgg77 Try.sizeOf77 (ch := enc x40) (Enc.len _) (by decide) ((Get.elemN (s := 4) (x := x40) rfl g58.2.2 (Get.here _)).off (by omega))) ?_
      refine Lst.nil ?_
      refine At.hd inv (fun w h => (h.weaken (FLe.refl _)).sublist (sc1 (.refl _))) ?_
      refine HdJ.step [20] (by kernel_rfl) rfl ?_
      refine HdStep.c (fun inv => ?_) ?_
      ·have g60 := lat_some h44
       refine Lst.r (Ev.indexS (α := Wait) (xs := l4) rfl rfl Try.runUnderlying57 Try.sizeOf77 rfl (by decide) (Rd.own (i := 0) rfl rfl rfl) g60.1 g60.2.1) ?_
       refine Lst.nil ?_
       refine At.hd inv (fun w h => (h.weaken (FLe.refl _)).sublist (sc1 (.refl _))) ?_
       refine HdJ.step [21] (by kernel_rfl) rfl ?_
       refine HdStep.c (fun inv => ?_) ?_
       ·refine Lst.storeS (i := 0) rfl rfl rfl rfl rfl Try.sizeOf77 (vs := enc x37) rfl (Enc.len _) (by decide) (Enc.one _) (xs' := encs p46) (by rw [← h47]; exact (Put.elemN (s := 4) (x := x43) rfl g60.2.2 (Put.here ((Enc.len _).trans (Enc.len _).symm))).off (by omega)) (L' := (.own s_a0 77 4 (encs p46)) :: L) rfl ?_
        refine Lst.nil ?_
        refine At.hd inv (fun w h => (h.weaken (FLe.refl _)).sublist (sc1 (.refl _))) ?_
        refine HdJ.done (by kernel_rfl) ?_
        exact At.meetN p46 (FLe.refl _) ⟨rfl, rfl, rfl, rfl, rfl, rfl, rfl, rfl, rfl, trivial⟩ rfl h51
       exact trivial
      exact trivial
     exact trivial
    refine HdStep.c (fun inv => ?_) ?_
    ·refine Lst.r (Ev.loadSA (α := Wait) rfl (Rd.own (i := 0) rfl rfl rfl) Try.isAgg77 Try.sizeOf77 (ch := enc x40) (Enc.len _) (by decide) ((Get.elemN (s := 4) (x := x40) rfl g58.2.2 (Get.here _)).off (by omega))) ?_
     refine Lst.nil ?_
     refine At.hd inv (fun w h => (h.weaken (FLe.refl _)).sublist (sc1 (.refl _))) ?_
     refine HdJ.step [13] (by kernel_rfl) rfl ?_
     refine HdStep.c (fun inv => ?_) ?_
     ·refine Lst.r (Ev.loadSA (α := Wait) rfl (Rd.own (i := 0) rfl rfl rfl) Try.isAgg77 Try.sizeOf77 (ch := enc x37) (Enc.len _) (by decide) ((Get.elemN (s := 4) (x := x37) rfl g59.2.2 (Get.here _)).off (by omega))) ?_
      refine Lst.nil ?_
      refine At.hd inv (fun w h => (h.weaken (FLe.refl _)).sublist (sc1 (.refl _))) ?_
      refine HdJ.step [20] (by kernel_rfl) rfl ?_
      refine HdStep.c (fun inv => ?_) ?_
      ·have g61 := lat_some h44
       refine Lst.r (Ev.indexS (α := Wait) (xs := l4) rfl rfl Try.runUnderlying57 Try.sizeOf77 rfl (by decide) (Rd.own (i := 0) rfl rfl rfl) g61.1 g61.2.1) ?_
       refine Lst.nil ?_
       refine At.hd inv (fun w h => (h.weaken (FLe.refl _)).sublist (sc1 (.refl _))) ?_
       refine HdJ.step [21] (by kernel_rfl) rfl ?_
       refine HdStep.c (fun inv => ?_) ?_
       ·refine Lst.storeS (i := 0) rfl rfl rfl rfl rfl Try.sizeOf77 (vs := enc x37) rfl (Enc.len _) (by decide) (Enc.one _) (xs' := encs p46) (by rw [← h47]; exact (Put.elemN (s := 4) (x := x43) rfl g61.2.2 (Put.here ((Enc.len _).trans (Enc.len _).symm))).off (by omega)) (L' := (.own s_a0 77 4 (encs p46)) :: L) rfl ?_
        refine Lst.nil ?_
        refine At.hd inv (fun w h => (h.weaken (FLe.refl _)).sublist (sc1 (.refl _))) ?_
        refine HdJ.done (by kernel_rfl) ?_
        exact At.meetN p46 (FLe.refl _) ⟨rfl, rfl, rfl, rfl, rfl, rfl, rfl, rfl, rfl, trivial⟩ rfl h51
       exact trivial
      exact trivial
     exact trivial
    exact trivial
   refine HdStep.c (fun inv => ?_) ?_
   ·refine Lst.r (Ev.loadSA (α := Wait) rfl (Rd.own (i := 0) rfl rfl rfl) Try.isAgg77 Try.sizeOf77 (ch := enc x40) (Enc.len _) (by decide) ((Get.elemN (s := 4) (x := x40) rfl g58.2.2 (Get.here _)).off (by omega))) ?_
    refine Lst.nil ?_
    refine At.hd inv (fun w h => (h.weaken (FLe.refl _)).sublist (sc1 (.refl _))) ?_
    refine HdJ.step [12] (by kernel_rfl) rfl ?_
    refine HdStep.c (fun inv => ?_) ?_
    ·have g62 := lat_some h38
     refine Lst.r (Ev.indexS (α := Wait) (xs := l4) rfl rfl Try.runUnderlying57 Try.sizeOf77 rfl (by decide) (Rd.own (i := 0) rfl rfl rfl) g62.1 g62.2.1) ?_
     refine Lst.nil ?_
     refine At.hd inv (fun w h => (h.weaken (FLe.refl _)).sublist (sc1 (.refl _))) ?_
     refine HdJ.step [13] (by kernel_rfl) rfl ?_
     refine HdStep.c (fun inv => ?_) ?_
     ·refine Lst.r (Ev.loadSA (α := Wait) rfl (Rd.own (i := 0) rfl rfl rfl) Try.isAgg77 Try.sizeOf77 (ch := enc x37) (Enc.len _) (by decide) ((Get.elemN (s := 4) (x := x37) rfl g62.2.2 (Get.here _)).off (by omega))) ?_
      refine Lst.nil ?_
      refine At.hd inv (fun w h => (h.weaken (FLe.refl _)).sublist (sc1 (.refl _))) ?_
      refine HdJ.step [20] (by kernel_rfl) rfl ?_
      refine HdStep.c (fun inv => ?_) ?_
      ·have g63 := lat_some h44
       refine Lst.r (Ev.indexS (α := Wait) (xs := l4) rfl rfl Try.runUnderlying57 Try.sizeOf77 rfl (by decide) (Rd.own (i := 0) rfl rfl rfl) g63.1 g63.2.1) ?_
       refine Lst.nil ?_
       refine At.hd inv (fun w h => (h.weaken (FLe.refl _)).sublist (sc1 (.refl _))) ?_
       refine HdJ.step [21] (by kernel_rfl) rfl ?_
       refine HdStep.c (fun inv => ?_) ?_
       ·refine Lst.storeS (i := 0) rfl rfl rfl rfl rfl Try.sizeOf77 (vs := enc x37) rfl (Enc.len _) (by decide) (Enc.one _) (xs' := encs p46) (by rw [← h47]; exact (Put.elemN (s := 4) (x := x43) rfl g63.2.2 (Put.here ((Enc.len _).trans (Enc.len _).symm))).off (by omega)) (L' := (.own s_a0 77 4 (encs p46)) :: L) rfl ?_
        refine Lst.nil ?_
        refine At.hd inv (fun w h => (h.weaken (FLe.refl _)).sublist (sc1 (.refl _))) ?_
        refine HdJ.done (by kernel_rfl) ?_
        exact At.meetN p46 (FLe.refl _) ⟨rfl, rfl, rfl, rfl, rfl, rfl, rfl, rfl, rfl, trivial⟩ rfl h51
       exact trivial
      exact trivial
     exact trivial
    exact trivial
   exact trivial
  exact trivial
 rintro F64 l49 hF65 hy
 subst hy
 refine Lst.as (e' := [(0, Sl.v s_a0), (2, iv a2), (3, iv a3), (4, .func (.func 85) #[] #[]), (10, iv y3), (11, iv y8), (63, Sl.v s_a0), (66, iv (w64 (a3 + y8))), (78, .agg (enc x40).toArray)]) (L' := (.own s_a0 77 4 (encs l49)) :: L) ⟨rfl, rfl, rfl, rfl, rfl, rfl, rfl, rfl, rfl, trivial⟩ rfl ?_
 obtain ⟨x66, h67, H⟩ := bind_some H
 have g68 := lat_some h67
 refine Lst.r (Ev.indexS (α := Wait) (xs := l49) rfl rfl Try.runUnderlying57 Try.sizeOf77 rfl (by decide) (Rd.own (i := 0) rfl rfl rfl) g68.1 g68.2.1) ?_
 obtain ⟨p69, h70, H⟩ := Let_some H
 refine Lst.storeS (i := 0) rfl rfl rfl rfl rfl Try.sizeOf77 (vs := enc x40) rfl (Enc.len _) (by decide) (Enc.one _) (xs' := encs p69) (by rw [← h70]; exact (Put.elemN (s := 4) (x := x66) rfl g68.2.2 (Put.here ((Enc.len _).trans (Enc.len _).symm))).off (by omega)) (L' := (.own s_a0 77 4 (encs p69)) :: L) rfl ?_
 refine Lst.nil ?_
 refine At.then ?_
 refine Cd.region ?_
 refine Lst.r (Ev.move rfl) ?_
 refine Lst.r (Ev.assign rfl) ?_
 refine Lst.nil ?_
 refine At.in_normal ?_
 exact At.meet (k2, y8, p69) (FLe.trans (FLe.trans hF6 hF25) hF65) ⟨rfl, rfl, rfl, rfl, rfl, trivial⟩ rfl ⟨hgo2 _ (some_inj H).symm, Nat.lt_succ_self _⟩
set_option maxRecDepth 20000 in
theorem slices_heapSortCmpFunc_api_Wait_Fix_3_sim {fu : Nat} {a0 : List Wait} {a1 : Int} {a2 : Int} {s_a0 : Sl} {r : (List Wait)} (H : slices_heapSortCmpFunc_api_Wait_Fix_3 fu a0 a1 a2 = some r) (w0 : World) (F : Frz) (M L : List Item) (hM : M.Sublist L) : Ok Try.prog w0 127 [Sl.v s_a0, iv a1, iv a2, .func (.func 85) #[] #[]] F ((.own s_a0 77 4 (encs a0)) :: L) (fun _ L' v => v = .tuple #[] ∧ L' = (.own s_a0 77 4 (encs r)) :: L) := by
 unfold slices_heapSortCmpFunc_api_Wait_Fix_3 at H
 refine Ok.enter (m := 4) (n := 60) Try.func127 rfl rfl rfl (by decide) ?_
 refine Cd.env (e' := [(0, Sl.v s_a0), (1, iv a1), (2, iv a2), (3, .func (.func 85) #[] #[])]) rfl ?_
 refine Cd.seq ?_
 refine Cd.region ?_
 refine Lst.r (Ev.move rfl) ?_
 refine Lst.r (Ev.assign rfl) ?_
 refine Lst.nil ?_
 refine At.then ?_
 refine Cd.seq ?_
 refine Cd.region ?_
 refine Lst.r (Ev.assign rfl) ?_
 refine Lst.nil ?_
 refine At.then ?_
 refine Cd.seq ?_
 refine Cd.region ?_
 refine Lst.r (Ev.move rfl) ?_
 refine Lst.r (Ev.move rfl) ?_
 refine Lst.r (Ev.sub rfl rfl) ?_
 refine Lst.r (Ev.assign rfl) ?_
 refine Lst.nil ?_
 refine At.then ?_
 refine Cd.seq ?_
 refine Cd.seq ?_
 refine Cd.region ?_
 refine Lst.r (Ev.move rfl) ?_
 refine Lst.r (Ev.sub rfl rfl) ?_
 refine Lst.r (Ev.quo (i := w64 ((w64 (a2 - a1)) - (1 : Int))) (j := (2 : Int)) rfl rfl (by decide)) ?_
 refine Lst.r (Ev.assign rfl) ?_
 refine Lst.nil ?_
 refine At.then ?_
 refine Cd.block ?_
 obtain ⟨ol2, H, HKl2⟩ := andThen_some H
 refine Cd.loop (σ := Nat × Int × (List Wait)) (fun (k2, y3, l4) => [(0, Sl.v s_a0), (3, .func (.func 85) #[] #[]), (8, iv a1), (9, iv (0 : Int)), (10, iv (w64 (a2 - a1))), (11, iv y3)]) (fun (k2, y3, l4) => (.own s_a0 77 4 (encs l4)) :: L) (fun _ => (fun (k2, y3, l4) => whileM (slices_heapSortCmpFunc_api_Wait_Fix_3_B0 fu a1 a2) k2 (y3, l4) = some ol2)) (fun (k2, y3, l4) => k2) (fu, w64 ((w64 ((w64 (a2 - a1)) - (1 : Int))).tdiv (2 : Int)), a0) ⟨rfl, rfl, rfl, rfl, rfl, rfl, trivial⟩ rfl H ?_
 rintro F5 ⟨k2, y3, l4⟩ hF6 H
 refine Cd.as (e' := [(0, Sl.v s_a0), (3, .func (.func 85) #[] #[]), (8, iv a1), (9, iv (0 : Int)), (10, iv (w64 (a2 - a1))), (11, iv y3)]) (L' := (.own s_a0 77 4 (encs l4)) :: L) ⟨rfl, rfl, rfl, rfl, rfl, rfl, trivial⟩ rfl ?_
 rcases k2 with _ | k2
 ·cases H
 obtain ⟨c2, H, hgo2, hbrk2, hret2⟩ := whileM_go H
 unfold slices_heapSortCmpFunc_api_Wait_Fix_3_B0 at H
 try dsimp only at H
 refine Cd.seq ?_
 refine Cd.seq ?_
 refine Cd.region ?_
 refine Lst.r (Ev.move rfl) ?_
 refine Lst.r (Ev.geq rfl rfl) ?_
 refine Lst.nil ?_
 refine At.then ?_
 rcases (Bool.eq_false_or_eq_true (decide (y3 ≥ (0 : Int)))).symm with hb7 | hb7
 ·replace H := ite_f hb7 H
  refine Cd.condF rfl hb7 ?_
  refine Cd.exit ?_
  refine At.then_exit ?_
  refine At.then_exit ?_
  refine At.in_exit ?_
  have H := hbrk2 _ (some_inj H).symm
  subst H
  replace H := HKl2
  refine At.then ?_
  refine Cd.seq ?_
  refine Cd.region ?_
  refine Lst.r (Ev.move rfl) ?_
  refine Lst.r (Ev.sub rfl rfl) ?_
  refine Lst.r (Ev.assign rfl) ?_
  refine Lst.nil ?_
  refine At.then ?_
  refine Cd.block ?_
  obtain ⟨ol8, H, HKl8⟩ := andThen_some H
  refine Cd.loop (σ := Nat × Int × (List Wait)) (fun (k8, y9, l10) => [(0, Sl.v s_a0), (3, .func (.func 85) #[] #[]), (8, iv a1), (9, iv (0 : Int)), (12, iv y9)]) (fun (k8, y9, l10) => (.own s_a0 77 4 (encs l10)) :: L) (fun _ => (fun (k8, y9, l10) => whileM (slices_heapSortCmpFunc_api_Wait_Fix_3_B2 fu a1) k8 (y9, l10) = some ol8)) (fun (k8, y9, l10) => k8) (fu, w64 ((w64 (a2 - a1)) - (1 : Int)), l4) ⟨rfl, rfl, rfl, rfl, rfl, trivial⟩ rfl H ?_
  rintro F11 ⟨k8, y9, l10⟩ hF12 H
  refine Cd.as (e' := [(0, Sl.v s_a0), (3, .func (.func 85) #[] #[]), (8, iv a1), (9, iv (0 : Int)), (12, iv y9)]) (L' := (.own s_a0 77 4 (encs l10)) :: L) ⟨rfl, rfl, rfl, rfl, rfl, trivial⟩ rfl ?_
  rcases k8 with _ | k8
  ·cases H
  obtain ⟨c8, H, hgo8, hbrk8, hret8⟩ := whileM_go H
  unfold slices_heapSortCmpFunc_api_Wait_Fix_3_B2 at H
  try dsimp only at H
  refine Cd.seq ?_
  refine Cd.seq ?_
  refine Cd.region ?_
  refine Lst.r (Ev.move rfl) ?_
  refine Lst.r (Ev.geq rfl rfl) ?_
  refine Lst.nil ?_
  refine At.then ?_
  rcases (Bool.eq_false_or_eq_true (decide (y9 ≥ (0 : Int)))).symm with hb13 | hb13
  ·replace H := ite_f hb13 H
   refine Cd.condF rfl hb13 ?_
   refine Cd.exit ?_
   refine At.then_exit ?_
   refine At.then_exit ?_
   refine At.in_exit ?_
   have H := hbrk8 _ (some_inj H).symm
   subst H
   replace H := HKl8
   obtain rfl := some_inj H
   exact At.ret0 (.inr rfl) rfl (FLe.trans hF6 hF12) (sk1 (.refl _)) ⟨rfl, rfl⟩
  replace H := ite_t hb13 H
  refine Cd.condT rfl hb13 ?_
  refine Cd.skip ?_
  refine At.then ?_
  refine Cd.seq ?_
  refine Cd.block ?_
  refine Cd.seq ?_
  obtain ⟨x14, h15, H⟩ := bind_some H
  obtain ⟨x17, h18, H⟩ := bind_some H
  obtain ⟨x20, h21, H⟩ := bind_some H
  obtain ⟨p23, h24, H⟩ := Let_some H
  obtain ⟨o27, h28, H⟩ := Let_some H
  refine Cd.headMeet (σ := (List Wait)) 18 (fun l26 => [(0, Sl.v s_a0), (3, .func (.func 85) #[] #[]), (8, iv a1), (9, iv (0 : Int)), (12, iv y9), (38, Sl.v s_a0), (41, iv (w64 (a1 + y9))), (51, .agg (enc x17).toArray)]) (fun l26 => (.own s_a0 77 4 (encs l26)) :: L) (fun _ l26 => l26 = o27) (by kernel_rfl) (by kernel_rfl) (behind_sink (by kernel_rfl) (by kernel_rfl) (by kernel_rfl)) (by kernel_rfl) (fun hsel hlt => ?_) ?_
  ·refine HdJ.keep (fun w => St w0 F11 (L) w) (fun w h => trivial) ?_
   refine HdJ.tk hsel hlt 0 (fun w h => h.sublist (sc1 (.refl _))) rfl (Ev.move rfl) ?_
   refine HdJ.tk hsel hlt 1 (fun w h => h.sublist (sc1 (.refl _))) rfl (Ev.move rfl) ?_
   refine HdJ.tk hsel hlt 2 (fun w h => h.sublist (sc1 (.refl _))) rfl (Ev.move rfl) ?_
   refine HdJ.tk hsel hlt 3 (fun w h => h.sublist (sc1 (.refl _))) rfl (Ev.move rfl) ?_
   refine HdJ.tk hsel hlt 4 (fun w h => h.sublist (sc1 (.refl _))) rfl (Ev.move rfl) ?_
   refine HdJ.tk hsel hlt 5 (fun w h => h.sublist (sc1 (.refl _))) rfl (Ev.add rfl rfl) ?_
   refine HdJ.tk hsel hlt 6 (fun w h => h.sublist (sc1 (.refl _))) rfl (Ev.move rfl) ?_
   refine HdJ.tk hsel hlt 7 (fun w h => h.sublist (sc1 (.refl _))) rfl (Ev.move rfl) ?_
   refine HdJ.tk hsel hlt 8 (fun w h => h.sublist (sc1 (.refl _))) rfl (Ev.move rfl) ?_
   refine HdJ.tk hsel hlt 9 (fun w h => h.sublist (sc1 (.refl _))) rfl (Ev.add rfl rfl) ?_
   refine HdJ.tk hsel hlt 12 (fun w h => h.sublist (sc1 (.refl _))) rfl (Ev.move rfl) ?_
   refine HdJ.tk hsel hlt 13 (fun w h => h.sublist (sc1 (.refl _))) rfl (Ev.move rfl) ?_
   refine HdJ.step [10, 14] (by kernel_rfl) rfl ?_
   refine HdStep.c (fun inv => ?_) ?_
   ·have g29 := lat_some h15
    refine Lst.r (Ev.indexS (α := Wait) (xs := l10) rfl rfl Try.runUnderlying57 Try.sizeOf77 rfl (by decide) (Rd.own (i := 0) rfl rfl rfl) g29.1 g29.2.1) ?_
    refine Lst.nil ?_
    refine At.hd inv (fun w h => (h.weaken (FLe.refl _)).sublist (sc1 (.refl _))) ?_
    refine HdJ.step [11, 14] (by kernel_rfl) rfl ?_
    refine HdStep.c (fun inv => ?_) ?_
    ·refine Lst.r (Ev.loadSA (α := Wait) rfl (Rd.own (i := 0) rfl rfl rfl) Try.isAgg77 Try.sizeOf77 (ch := enc x14) (Enc.len _) (by decide) ((Get.elemN (s := 4) (x := x14) rfl g29.2.2 (Get.here _)).off (by omega))) ?_
     refine Lst.nil ?_
     refine At.hd inv (fun w h => (h.weaken (FLe.refl _)).sublist (sc1 (.refl _))) ?_
     refine HdJ.step [14] (by kernel_rfl) rfl ?_
     refine HdStep.c (fun inv => ?_) ?_
     ·have g30 := lat_some h18
      refine Lst.r (Ev.indexS (α := Wait) (xs := l10) rfl rfl Try.runUnderlying57 Try.sizeOf77 rfl (by decide) (Rd.own (i := 0) rfl rfl rfl) g30.1 g30.2.1) ?_
      refine Lst.nil ?_
      refine At.hd inv (fun w h => (h.weaken (FLe.refl _)).sublist (sc1 (.refl _))) ?_
      refine HdJ.step [15] (by kernel_rfl) rfl ?_
      refine HdStep.c (fun inv => ?_) ?_
      ·refine Lst.r (Ev.loadSA (α := Wait) rfl (Rd.own (i := 0) rfl rfl rfl) Try.isAgg77 Try.sizeOf77 (ch := enc x17) (Enc.len _) (by decide) ((Get.elemN (s := 4) (x := x17) rfl g30.2.2 (Get.here _)).off (by omega))) ?_
       refine Lst.nil ?_
       refine At.hd inv (fun w h => (h.weaken (FLe.refl _)).sublist (sc1 (.refl _))) ?_
       refine HdJ.step [16] (by kernel_rfl) rfl ?_
       refine HdStep.c (fun inv => ?_) ?_
       ·have g31 := lat_some h21
        refine Lst.r (Ev.indexS (α := Wait) (xs := l10) rfl rfl Try.runUnderlying57 Try.sizeOf77 rfl (by decide) (Rd.own (i := 0) rfl rfl rfl) g31.1 g31.2.1) ?_
        refine Lst.nil ?_
        refine At.hd inv (fun w h => (h.weaken (FLe.refl _)).sublist (sc1 (.refl _))) ?_
        refine HdJ.step [17] (by kernel_rfl) rfl ?_
        refine HdStep.c (fun inv => ?_) ?_
        ·refine Lst.storeS (i := 0) rfl rfl rfl rfl rfl Try.sizeOf77 (vs := enc x14) rfl (Enc.len _) (by decide) (Enc.one _) (xs' := encs p23) (by rw [← h24]; exact (Put.elemN (s := 4) (x := x20) rfl g31.2.2 (Put.here ((Enc.len _).trans (Enc.len _).symm))).off (by omega)) (L' := (.own s_a0 77 4 (encs p23)) :: L) rfl ?_
         refine Lst.nil ?_
         refine At.hd inv (fun w h => (h.weaken (FLe.refl _)).sublist (sc1 (.refl _))) ?_
         refine HdJ.done (by kernel_rfl) ?_
         exact At.meetN p23 (FLe.refl _) ⟨rfl, rfl, rfl, rfl, rfl, rfl, rfl, rfl, trivial⟩ rfl h28
        exact trivial
       exact trivial
      exact trivial
     exact trivial
    refine HdStep.c (fun inv => ?_) ?_
    ·have g32 := lat_some h18
     refine Lst.r (Ev.indexS (α := Wait) (xs := l10) rfl rfl Try.runUnderlying57 Try.sizeOf77 rfl (by decide) (Rd.own (i := 0) rfl rfl rfl) g32.1 g32.2.1) ?_
     refine Lst.nil ?_
     refine At.hd inv (fun w h => (h.weaken (FLe.refl _)).sublist (sc1 (.refl _))) ?_
     refine HdJ.step [11, 15] (by kernel_rfl) rfl ?_
     refine HdStep.c (fun inv => ?_) ?_
     ·refine Lst.r (Ev.loadSA (α := Wait) rfl (Rd.own (i := 0) rfl rfl rfl) Try.isAgg77 Try.sizeOf77 (ch := enc x14) (Enc.len _) (by decide) ((Get.elemN (s := 4) (x := x14) rfl g29.2.2 (Get.here _)).off (by omega))) ?_
      refine Lst.nil ?_
      refine At.hd inv (fun w h => (h.weaken (FLe.refl _)).sublist (sc1 (.refl _))) ?_
      refine HdJ.step [15] (by kernel_rfl) rfl ?_
      refine HdStep.c (fun inv => ?_) ?_
      ·refine Lst.r (Ev.loadSA (α := Wait) rfl (Rd.own (i := 0) rfl rfl rfl) Try.isAgg77 Try.sizeOf77 (ch := enc x17) (Enc.len _) (by decide) ((Get.elemN (s := 4) (x := x17) rfl g32.2.2 (Get.here _)).off (by omega))) ?_
       refine Lst.nil ?_
       refine At.hd inv (fun w h => (h.weaken (FLe.refl _)).sublist (sc1 (.refl _))) ?_
       refine HdJ.step [16] (by kernel_rfl) rfl ?_
       refine HdStep.c (fun inv => ?_) ?_
       ·have g33 := lat_some h21
        refine Lst.r (Ev.indexS (α := Wait) (xs := l10) rfl rfl Try.runUnderlying57 Try.sizeOf77 rfl (by decide) (Rd.own (i := 0) rfl rfl rfl) g33.1 g33.2.1) ?_
        refine Lst.nil ?_
        refine At.hd inv (fun w h => (h.weaken (FLe.refl _)).sublist (sc1 (.refl _))) ?_
        refine HdJ.step [17] (by kernel_rfl) rfl ?_
        refine HdStep.c (fun inv => ?_) ?_
        ·refine Lst.storeS (i := 0) rfl rfl rfl rfl rfl Try.sizeOf77 (vs := enc x14) rfl (Enc.len _) (by decide) (Enc.one _) (xs' := encs p23) (by rw [← h24]; exact (Put.elemN (s := 4) (x := x20) rfl g33.2.2 (Put.here ((Enc.len _).trans (Enc.len _).symm))).off (by omega)) (L' := (.own s_a0 77 4 (encs p23)) :: L) rfl ?_
         refine Lst.nil ?_
         refine At.hd inv (fun w h => (h.weaken (FLe.refl _)).sublist (sc1 (.refl _))) ?_
         refine HdJ.done (by kernel_rfl) ?_
         exact At.meetN p23 (FLe.refl _) ⟨rfl, rfl, rfl, rfl, rfl, rfl, rfl, rfl, trivial⟩ rfl h28
        exact trivial
       exact trivial
      exact trivial
     refine HdStep.c (fun inv => ?_) ?_
     ·refine Lst.r (Ev.loadSA (α := Wait) rfl (Rd.own (i := 0) rfl rfl rfl) Try.isAgg77 Try.sizeOf77 (ch := enc x17) (Enc.len _) (by decide) ((Get.elemN (s := 4) (x := x17) rfl g32.2.2 (Get.here _)).off (by omega))) ?_
      refine Lst.nil ?_
      refine At.hd inv (fun w h => (h.weaken (FLe.refl _)).sublist (sc1 (.refl _))) ?_
      refine HdJ.step [11] (by kernel_rfl) rfl ?_
      refine HdStep.c (fun inv => ?_) ?_
      ·refine Lst.r (Ev.loadSA (α := Wait) rfl (Rd.own (i := 0) rfl rfl rfl) Try.isAgg77 Try.sizeOf77 (ch := enc x14) (Enc.len _) (by decide) ((Get.elemN (s := 4) (x := x14) rfl g29.2.2 (Get.here _)).off (by omega))) ?_
       refine Lst.nil ?_
       refine At.hd inv (fun w h => (h.weaken (FLe.refl _)).sublist (sc1 (.refl _))) ?_
       refine HdJ.step [16] (by kernel_rfl) rfl ?_
       refine HdStep.c (fun inv => ?_) ?_
       ·have g34 := lat_some h21
        refine Lst.r (Ev.indexS (α := Wait) (xs := l10) rfl rfl Try.runUnderlying57 Try.sizeOf77 rfl (by decide) (Rd.own (i := 0) rfl rfl rfl) g34.1 g34.2.1) ?_
        refine Lst.nil ?_
        refine At.hd inv (fun w h => (h.weaken (FLe.refl _)).sublist (sc1 (.refl _))) ?_
        refine HdJ.step [17] (by kernel_rfl) rfl ?_
        refine HdStep.c (fun inv => ?_) ?_
        ·refine Lst.storeS (i := 0) rfl rfl rfl rfl rfl Try.sizeOf77 (vs := enc x14) rfl (Enc.len _) (by decide) (Enc.one _) (xs' := encs p23) (by rw [← h24]; exact (Put.elemN (s := 4) (x := x20) rfl g34.2.2 (Put.here ((Enc.len _).trans (Enc.len _).symm))).off (by omega)) (L' := (.own s_a0 77 4 (encs p23)) :: L) rfl ?_
         refine Lst.nil ?_
         refine At.hd inv (fun w h => (h.weaken (FLe.refl _)).sublist (sc1 (.refl _))) ?_
         refine HdJ.done (by kernel_rfl) ?_
         exact At.meetN p23 (FLe.refl _) ⟨rfl, rfl, rfl, rfl, rfl, rfl, rfl, rfl, trivial⟩ rfl h28
        exact trivial
       exact trivial
      exact trivial
     exact trivial
    exact trivial
   refine HdStep.c (fun inv => ?_) ?_
   ·have g35 := lat_some h18
    refine Lst.r (Ev.indexS (α := Wait) (xs := l10) rfl rfl Try.runUnderlying57 Try.sizeOf77 rfl (by decide) (Rd.own (i := 0) rfl rfl rfl) g35.1 g35.2.1) ?_
    refine Lst.nil ?_
    refine At.hd inv (fun w h => (h.weaken (FLe.refl _)).sublist (sc1 (.refl _))) ?_
    refine HdJ.step [10, 15] (by kernel_rfl) rfl ?_
    refine HdStep.c (fun inv => ?_) ?_
    ·have g36 := lat_some h15
     refine Lst.r (Ev.indexS (α := Wait) (xs := l10) rfl rfl Try.runUnderlying57 Try.sizeOf77 rfl (by decide) (Rd.own (i := 0) rfl rfl rfl) g36.1 g36.2.1) ?_
     refine Lst.nil ?_
     refine At.hd inv (fun w h => (h.weaken (FLe.refl _)).sublist (sc1 (.refl _))) ?_
     refine HdJ.step [11, 15] (by kernel_rfl) rfl ?_
     refine HdStep.c (fun inv => ?_) ?_
     ·refine Lst.r (Ev.loadSA (α := Wait) rfl (Rd.own (i := 0) rfl rfl rfl) Try.isAgg77 Try.sizeOf77 (ch := enc x14) (Enc.len _) (by decide) ((Get.elemN (s := 4) (x := x14) rfl g36.2.2 (Get.here _)).off (by omega))) ?_
      refine Lst.nil ?_
      refine At.hd inv (fun w h => (h.weaken (FLe.refl _)).sublist (sc1 (.refl _))) ?_
      refine HdJ.step [15] (by kernel_rfl) rfl ?_
      refine HdStep.c (fun inv => ?_) ?_
      ·refine Lst.r (Ev.loadSA (α := Wait) rfl (Rd.own (i := 0) rfl rfl rfl) Try.isAgg77 Try.sizeOf77 (ch := enc x17) (Enc.len _) (by decide) ((Get.elemN (s := 4) (x := x17) rfl g35.2.2 (Get.here _)).off (by omega))) ?_
       refine Lst.nil ?_
       refine At.hd inv (fun w h => (h.weaken (FLe.refl _)).sublist (sc1 (.refl _))) ?_
       refine HdJ.step [16] (by kernel_rfl) rfl ?_
       refine HdStep.c (fun inv => ?_) ?_
       ·have g37 := lat_some h21
        refine Lst.r (Ev.indexS (α := Wait) (xs := l10) rfl rfl Try.runUnderlying57 Try.sizeOf77 rfl (by decide) (Rd.own (i := 0) rfl rfl rfl) g37.1 g37.2.1) ?_
        refine Lst.nil ?_
        refine At.hd inv (fun w h => (h.weaken (FLe.refl _)).sublist (sc1 (.refl _))) ?_
        refine HdJ.step [17] (by kernel_rfl) rfl ?_
        refine HdStep.c (fun inv => ?_) ?_
        ·refine Lst.storeS (i := 0) rfl rfl rfl rfl rfl Try.sizeOf77 (vs := enc x14) rfl (Enc.len _) (by decide) (Enc.one _) (xs' := encs p23) (by rw [← h24]; exact (Put.elemN (s := 4) (x := x20) rfl g37.2.2 (Put.here ((Enc.len _).trans (Enc.len _).symm))).off (by omega)) (L' := (.own s_a0 77 4 (encs p23)) :: L) rfl ?_
         refine Lst.nil ?_
         refine At.hd inv (fun w h => (h.weaken (FLe.refl _)).sublist (sc1 (.refl _))) ?_
         refine HdJ.done (by kernel_rfl) ?_
         exact At.meetN p23 (FLe.refl _) ⟨rfl, rfl, rfl, rfl, rfl, rfl, rfl, rfl, trivial⟩ rfl h28
        exact trivial
       exact trivial
      exact trivial
     refine HdStep.c (fun inv => ?_) ?_
     ·refine Lst.r (Ev.loadSA (α := Wait) rfl (Rd.own (i := 0) rfl rfl rfl) Try.isAgg77 Try.sizeOf77 (ch := enc x17) (Enc.len _) (by decide) ((Get.elemN (s := 4) (x := x17) rfl g35.2.2 (Get.here _)).off (by omega))) ?_
      refine Lst.nil ?_
      refine At.hd inv (fun w h => (h.weaken (FLe.refl _)).sublist (sc1 (.refl _))) ?_
      refine HdJ.step [11] (by kernel_rfl) rfl ?_
      refine HdStep.c (fun inv => ?_) ?_
      ·refine Lst.r (Ev.loadSA (α := Wait) rfl (Rd.own (i := 0) rfl rfl rfl) Try.isAgg77 Try.sizeOf77 (ch := enc x14) (Enc.len _) (by decide) ((Get.elemN (s := 4) (x := x14) rfl g36.2.2 (Get.here _)).off (by omega))) ?_
       refine Lst.nil ?_
       refine At.hd inv (fun w h => (h.weaken (FLe.refl _)).sublist (sc1 (.refl _))) ?_
       refine HdJ.step [16] (by kernel_rfl) rfl ?_
       refine HdStep.c (fun inv => ?_) ?_
       ·have g38 := lat_some h21
        refine Lst.r (Ev.indexS (α := Wait) (xs := l10) rfl rfl Try.runUnderlying57 Try.sizeOf77 rfl (by decide) (Rd.own (i := 0) rfl rfl rfl) g38.1 g38.2.1) ?_
        refine Lst.nil ?_
        refine At.hd inv (fun w h => (h.weaken (FLe.refl _)).sublist (sc1 (.refl _))) ?_
        refine HdJ.step [17] (by kernel_rfl) rfl ?_
        refine HdStep.c (fun inv => ?_) ?_
        ·refine Lst.storeS (i := 0) rfl rfl rfl rfl rfl Try.sizeOf77 (vs := enc x14) rfl (Enc.len _) (by decide) (Enc.one _) (xs' := encs p23) (by rw [← h24]; exact (Put.elemN (s := 4) (x := x20) rfl g38.2.2 (Put.here ((Enc.len _).trans (Enc.len _).symm))).off (by omega)) (L' := (.own s_a0 77 4 (encs p23)) :: L) rfl ?_
         refine Lst.nil ?_
         refine At.hd inv (fun w h => (h.weaken (FLe.refl _)).sublist (sc1 (.refl _))) ?_
         refine HdJ.done (by kernel_rfl) ?_
         exact At.meetN p23 (FLe.refl _) ⟨rfl, rfl, rfl, rfl, rfl, rfl, rfl, rfl, trivial⟩ rfl h28
        exact trivial
       exact trivial
      exact trivial
     exact trivial
    refine HdStep.c (fun inv => ?_) ?_
    ·refine Lst.r (Ev.loadSA (α := Wait) rfl (Rd.own (i := 0) rfl rfl rfl) Try.isAgg77 Try.sizeOf77 (ch := enc x17) (Enc.len _) (by decide) ((Get.elemN (s := 4) (x := x17) rfl g35.2.2 (Get.here _)).off (by omega))) ?_
     refine Lst.nil ?_
     refine At.hd inv (fun w h => (h.weaken (FLe.refl _)).sublist (sc1 (.refl _))) ?_
     refine HdJ.step [10] (by kernel_rfl) rfl ?_
     refine HdStep.c (fun inv => ?_) ?_
     ·have g39 := lat_some h15
      refine Lst.r (Ev.indexS (α := Wait) (xs := l10) rfl rfl Try.runUnderlying57 Try.sizeOf77 rfl (by decide) (Rd.own (i := 0) rfl rfl rfl) g39.1 g39.2.1) ?_
      refine Lst.nil ?_
      refine At.hd inv (fun w h => (h.weaken (FLe.refl _)).sublist (sc1 (.refl _))) ?_
      refine HdJ.step [11] (by kernel_rfl) rfl ?_
      refine HdStep.c (fun inv => ?_) ?_
      ·refine Lst.r (Ev.loadSA (α := Wait) rfl (Rd.own (i := 0) rfl rfl rfl) Try.isAgg77 Try.sizeOf77 (ch := enc x14) (Enc.len _) (by decide) ((Get.elemN (s := 4) (x := x14) rfl g39.2.2 (Get.here _)).off (by omega))) ?_
       refine Lst.nil ?_
       refine At.hd inv (fun w h => (h.weaken (FLe.refl _)).sublist (sc1 (.refl _))) ?_
       refine HdJ.step [16] (by kernel_rfl) rfl ?_
       refine HdStep.c (fun inv => ?_) ?_
       ·have g40 := lat_some h21
        refine Lst.r (Ev.indexS (α := Wait) (xs := l10) rfl rfl Try.runUnderlying57 Try.sizeOf77 rfl (by decide) (Rd.own (i := 0) rfl rfl rfl) g40.1 g40.2.1) ?_
        refine Lst.nil ?_
        refine At.hd inv (fun w h => (h.weaken (FLe.refl _)).sublist (sc1 (.refl _))) ?_
        refine HdJ.step [17] (by kernel_rfl) rfl ?_
        refine HdStep.c (fun inv => ?_) ?_
        ·refine Lst.storeS (i := 0) rfl rfl rfl rfl rfl Try.sizeOf77 (vs := enc x14) rfl (Enc.len _) (by decide) (Enc.one _) (xs' := encs p23) (by rw [← h24]; exact (Put.elemN (s := 4) (x := x20) rfl g40.2.2 (Put.here ((Enc.len _).trans (Enc.len _).symm))).off (by omega)) (L' := (.own s_a0 77 4 (encs p23)) :: L) rfl ?_
         refine Lst.nil ?_
         refine At.hd inv (fun w h => (h.weaken (FLe.refl _)).sublist (sc1 (.refl _))) ?_
         refine HdJ.done (by kernel_rfl) ?_
         exact At.meetN p23 (FLe.refl _) ⟨rfl, rfl, rfl, rfl, rfl, rfl, rfl, rfl, trivial⟩ rfl h28
        exact trivial
       exact trivial
      exact trivial
     exact trivial
    exact trivial
   exact trivial
  rintro F41 l26 hF42 hy
  subst hy
  refine Lst.as (e' := [(0, Sl.v s_a0), (3, .func (.func 85) #[] #[]), (8, iv a1), (9, iv (0 : Int)), (12, iv y9), (38, Sl.v s_a0), (41, iv (w64 (a1 + y9))), (51, .agg (enc x17).toArray)]) (L' := (.own s_a0 77 4 (encs l26)) :: L) ⟨rfl, rfl, rfl, rfl, rfl, rfl, rfl, rfl, trivial⟩ rfl ?_
  obtain ⟨x43, h44, H⟩ := bind_some H
  have g45 := lat_some h44
  refine Lst.r (Ev.indexS (α := Wait) (xs := l26) rfl rfl Try.runUnderlying57 Try.sizeOf77 rfl (by decide) (Rd.own (i := 0) rfl rfl rfl) g45.1 g45.2.1) ?_
  obtain ⟨p46, h47, H⟩ := Let_some H
  refine Lst.storeS (i := 0) rfl rfl rfl rfl rfl Try.sizeOf77 (vs := enc x17) rfl (Enc.len _) (by decide) (Enc.one _) (xs' := encs p46) (by rw [← h47]; exact (Put.elemN (s := 4) (x := x43) rfl g45.2.2 (Put.here ((Enc.len _).trans (Enc.len _).symm))).off (by omega)) (L' := (.own s_a0 77 4 (encs p46)) :: L) rfl ?_
  refine Lst.nil ?_
  refine At.then ?_
  refine Cd.region ?_
  refine Lst.r (Ev.move rfl) ?_
  refine Lst.r (Ev.move rfl) ?_
  refine Lst.r (Ev.move rfl) ?_
  refine Lst.r (Ev.move rfl) ?_
  refine Lst.r (Ev.move rfl) ?_
  obtain ⟨r48, h49, H⟩ := bind_some H
  refine Lst.call rfl rfl (by decide) (vs := [Sl.v s_a0, iv (0 : Int), iv y9, iv a1, .func (.func 85) #[] #[]]) ⟨rfl, rfl, rfl, rfl, rfl, trivial⟩ Try.call148 (slices_siftDownCmpFunc_api_Wait_Fix_3_sim h49 w0 _ M _ hM) (fun F50 L' v hF51 hv => ?_)
  obtain ⟨rfl, rfl⟩ := hv
  refine Lst.nil ?_
  refine At.in_normal ?_
  refine At.then ?_
  refine Cd.region ?_
  refine Lst.r (Ev.move rfl) ?_
  refine Lst.r (Ev.sub rfl rfl) ?_
  refine Lst.r (Ev.assign rfl) ?_
  refine Lst.nil ?_
  exact At.meet (k8, w64 (y9 - (1 : Int)), r48) (FLe.trans (FLe.trans hF12 hF42) hF51) ⟨rfl, rfl, rfl, rfl, rfl, trivial⟩ rfl ⟨hgo8 _ (some_inj H).symm, Nat.lt_succ_self _⟩
 replace H := ite_t hb7 H
 refine Cd.condT rfl hb7 ?_
 refine Cd.skip ?_
 refine At.then ?_
 refine Cd.seq ?_
 refine Cd.block ?_
 refine Cd.region ?_
 refine Lst.r (Ev.move rfl) ?_
 refine Lst.r (Ev.move rfl) ?_
 refine Lst.r (Ev.move rfl) ?_
 refine Lst.r (Ev.move rfl) ?_
 refine Lst.r (Ev.move rfl) ?_
 obtain ⟨r52, h53, H⟩ := bind_some H
 refine Lst.call rfl rfl (by decide) (vs := [Sl.v s_a0, iv y3, iv (w64 (a2 - a1)), iv a1, .func (.func 85) #[] #[]]) ⟨rfl, rfl, rfl, rfl, rfl, trivial⟩ Try.call148 (slices_siftDownCmpFunc_api_Wait_Fix_3_sim h53 w0 _ M _ hM) (fun F54 L' v hF55 hv => ?_)
 obtain ⟨rfl, rfl⟩ := hv
 refine Lst.nil ?_
 refine At.in_normal ?_
 refine At.then ?_
 refine Cd.region ?_
 refine Lst.r (Ev.move rfl) ?_
 refine Lst.r (Ev.sub rfl rfl) ?_
 refine Lst.r (Ev.assign rfl) ?_
 refine Lst.nil ?_
 exact At.meet (k2, w64 (y3 - (1 : Int)), r52) (FLe.trans hF6 hF55) ⟨rfl, rfl, rfl, rfl, rfl, rfl, trivial⟩ rfl ⟨hgo2 _ (some_inj H).symm, Nat.lt_succ_self _⟩
set_option maxRecDepth 20000 in
theorem slices_nextPowerOfTwo_sim {a0 : Int} {r : (BitVec 64)} (H : slices_nextPowerOfTwo a0 = some r) (w0 : World) (F : Frz) (M L : List Item) (hM : M.Sublist L) : Ok Try.prog w0 143 [iv a0] F (L) (Is (.int .u64 r.toNat) (L)) := by
 unfold slices_nextPowerOfTwo at H
 refine Ok.enter (m := 1) (n := 7) Try.func143 rfl rfl rfl (by decide) ?_
 refine Cd.env (e' := [(0, iv a0)]) rfl ?_
 refine Cd.seq ?_
 refine Cd.region ?_
 refine Lst.r (Ev.assign rfl) ?_
 refine Lst.nil ?_
 refine At.then ?_
 refine Cd.seq ?_
 refine Cd.region ?_
 refine Lst.r (Ev.move rfl) ?_
 refine Lst.r (Ev.convTo64 rfl Try.runUnderlying3 Try.runUnderlying131) ?_
 obtain ⟨r1, h2, H⟩ := bind_some H
 refine Lst.call1 rfl rfl (by decide) (vs := [.int .u64 (BitVec.ofInt 64 a0).toNat]) ⟨rfl, trivial⟩ Try.call106 (math_bits_Len_sim h2 w0 _ M _ hM) ?_
 obtain ⟨n5, h6, H⟩ := bind_some H
 refine Lst.r (Ev.shlU64 (i := (1 : BitVec 64)) (m := n5) rfl (congrArg some (congrArg (Value.int .i64) (cnt_some h6)))) ?_
 refine Lst.r (Ev.assign rfl) ?_
 refine Lst.nil ?_
 refine At.then ?_
 obtain rfl := some_inj H
 refine Cd.ret ?_
 exact At.ret1 rfl (Res.tmp rfl) (FLe.refl _) (.refl _) ⟨rfl, rfl⟩
set_option maxRecDepth 20000 in
theorem slices_xorshift_Next_sim {a0 : BitVec 64} {b_a0 : Nat} {r : (BitVec 64) × (BitVec 64)} (H : slices_xorshift_Next a0 = some r) (w0 : World) (F : Frz) (M L : List Item) (hM : M.Sublist L) : Ok Try.prog w0 144 [pv b_a0 0] F ((.blk b_a0 (enc a0) 159) :: L) (fun _ L' v => v = .int .u64 r.2.toNat ∧ L' = (.blk b_a0 (enc r.1) 159) :: L) := by
 unfold slices_xorshift_Next at H
 refine Ok.enter (m := 1) (n := 33) Try.func144 rfl rfl rfl (by decide) ?_
 refine Cd.env (e' := [(0, pv b_a0 0)]) rfl ?_
 refine Cd.seq ?_
 refine Cd.region ?_
 refine Lst.r (Ev.assign rfl) ?_
 refine Lst.nil ?_
 refine At.then ?_
 refine Cd.seq ?_
 refine Cd.tail 9 (by kernel_rfl) (by kernel_rfl) ?_
 refine Qt.r (Ev.move rfl) ?_
 refine Qt.r (Ev.nilCheck rfl) ?_
 refine Qt.r (Ev.load (i := 0) rfl rfl Try.isAgg159 (v := .int .u64 a0.toNat) (Get.here _)) ?_
 refine Qt.r (Ev.move rfl) ?_
 refine Qt.r (Ev.nilCheck rfl) ?_
 refine Qt.r (Ev.load (i := 0) rfl rfl Try.isAgg159 (v := .int .u64 a0.toNat) (Get.here _)) ?_
 refine Qt.r (Ev.shlU64 (i := a0) (m := 13) rfl rfl) ?_
 refine Qt.r (Ev.xorU64 (i := a0) (j := a0 <<< 13) rfl rfl) ?_
 refine Qt.r (Ev.nilCheck rfl) ?_
 refine Qt.tail ?_
 refine Lst.store (i := 0) rfl rfl rfl rfl rfl Try.sizeOf159 (vs := [.int .u64 (a0 ^^^ (a0 <<< 13)).toNat]) rfl rfl rfl (cs' := enc (a0 ^^^ (a0 <<< 13))) (Put.here (vs := [.int .u64 (a0 ^^^ (a0 <<< 13)).toNat]) rfl) (L' := (.blk b_a0 (enc (a0 ^^^ (a0 <<< 13))) 159) :: L) rfl ?_
 refine Lst.nil ?_
 refine At.then ?_
 refine Cd.seq ?_
 refine Cd.tail 9 (by kernel_rfl) (by kernel_rfl) ?_
 refine Qt.r (Ev.move rfl) ?_
 refine Qt.r (Ev.nilCheck rfl) ?_
 refine Qt.r (Ev.load (i := 0) rfl rfl Try.isAgg159 (v := .int .u64 (a0 ^^^ (a0 <<< 13)).toNat) (Get.here _)) ?_
 refine Qt.r (Ev.move rfl) ?_
 refine Qt.r (Ev.nilCheck rfl) ?_
 refine Qt.r (Ev.load (i := 0) rfl rfl Try.isAgg159 (v := .int .u64 (a0 ^^^ (a0 <<< 13)).toNat) (Get.here _)) ?_
 refine Qt.r (Ev.shrU64 (i := a0 ^^^ (a0 <<< 13)) (m := 7) rfl rfl) ?_
 refine Qt.r (Ev.xorU64 (i := a0 ^^^ (a0 <<< 13)) (j := (a0 ^^^ (a0 <<< 13)) >>> 7) rfl rfl) ?_
 refine Qt.r (Ev.nilCheck rfl) ?_
 refine Qt.tail ?_
 refine Lst.store (i := 0) rfl rfl rfl rfl rfl Try.sizeOf159 (vs := [.int .u64 ((a0 ^^^ (a0 <<< 13)) ^^^ ((a0 ^^^ (a0 <<< 13)) >>> 7)).toNat]) rfl rfl rfl (cs' := enc ((a0 ^^^ (a0 <<< 13)) ^^^ ((a0 ^^^ (a0 <<< 13)) >>> 7))) (Put.here (vs := [.int .u64 ((a0 ^^^ (a0 <<< 13)) ^^^ ((a0 ^^^ (a0 <<< 13)) >>> 7)).toNat]) rfl) (L' := (.blk b_a0 (enc ((a0 ^^^ (a0 <<< 13)) ^^^ ((a0 ^^^ (a0 <<< 13)) >>> 7))) 159) :: L) rfl ?_
 refine Lst.nil ?_
 refine At.then ?_
 refine Cd.seq ?_
 refine Cd.as (e' := [(0, pv b_a0 0)]) (L' := (.blk b_a0 (enc ((a0 ^^^ (a0 <<< 13)) ^^^ ((a0 ^^^ (a0 <<< 13)) >>> 7))) 159) :: L) ⟨rfl, trivial⟩ rfl ?_
 refine Cd.tail 9 (by kernel_rfl) (by kernel_rfl) ?_
 refine Qt.r (Ev.move rfl) ?_
 refine Qt.r (Ev.nilCheck rfl) ?_
 refine Qt.r (Ev.load (i := 0) rfl rfl Try.isAgg159 (v := .int .u64 ((a0 ^^^ (a0 <<< 13)) ^^^ ((a0 ^^^ (a0 <<< 13)) >>> 7)).toNat) (Get.here _)) ?_
 refine Qt.r (Ev.move rfl) ?_
 refine Qt.r (Ev.nilCheck rfl) ?_
 refine Qt.r (Ev.load (i := 0) rfl rfl Try.isAgg159 (v := .int .u64 ((a0 ^^^ (a0 <<< 13)) ^^^ ((a0 ^^^ (a0 <<< 13)) >>> 7)).toNat) (Get.here _)) ?_
 refine Qt.r (Ev.shlU64 (i := (a0 ^^^ (a0 <<< 13)) ^^^ ((a0 ^^^ (a0 <<< 13)) >>> 7)) (m := 17) rfl rfl) ?_
 refine Qt.r (Ev.xorU64 (i := (a0 ^^^ (a0 <<< 13)) ^^^ ((a0 ^^^ (a0 <<< 13)) >>> 7)) (j := ((a0 ^^^ (a0 <<< 13)) ^^^ ((a0 ^^^ (a0 <<< 13)) >>> 7)) <<< 17) rfl rfl) ?_
 refine Qt.r (Ev.nilCheck rfl) ?_
 refine Qt.tail ?_
 refine Lst.store (i := 0) rfl rfl rfl rfl rfl Try.sizeOf159 (vs := [.int .u64 (((a0 ^^^ (a0 <<< 13)) ^^^ ((a0 ^^^ (a0 <<< 13)) >>> 7)) ^^^ (((a0 ^^^ (a0 <<< 13)) ^^^ ((a0 ^^^ (a0 <<< 13)) >>> 7)) <<< 17)).toNat]) rfl rfl rfl (cs' := enc (((a0 ^^^ (a0 <<< 13)) ^^^ ((a0 ^^^ (a0 <<< 13)) >>> 7)) ^^^ (((a0 ^^^ (a0 <<< 13)) ^^^ ((a0 ^^^ (a0 <<< 13)) >>> 7)) <<< 17))) (Put.here (vs := [.int .u64 (((a0 ^^^ (a0 <<< 13)) ^^^ ((a0 ^^^ (a0 <<< 13)) >>> 7)) ^^^ (((a0 ^^^ (a0 <<< 13)) ^^^ ((a0 ^^^ (a0 <<< 13)) >>> 7)) <<< 17)).toNat]) rfl) (L' := (.blk b_a0 (enc (((a0 ^^^ (a0 <<< 13)) ^^^ ((a0 ^^^ (a0 <<< 13)) >>> 7)) ^^^ (((a0 ^^^ (a0 <<< 13)) ^^^ ((a0 ^^^ (a0 <<< 13)) >>> 7)) <<< 17))) 159) :: L) rfl ?_
 refine Lst.nil ?_
 refine At.then ?_
 refine Cd.seq ?_
 refine Cd.region ?_
 refine Lst.r (Ev.move rfl) ?_
 refine Lst.r (Ev.nilCheck rfl) ?_
 refine Lst.r (Ev.load (i := 0) rfl rfl Try.isAgg159 (v := .int .u64 (((a0 ^^^ (a0 <<< 13)) ^^^ ((a0 ^^^ (a0 <<< 13)) >>> 7)) ^^^ (((a0 ^^^ (a0 <<< 13)) ^^^ ((a0 ^^^ (a0 <<< 13)) >>> 7)) <<< 17)).toNat) (Get.here _)) ?_
 refine Lst.r (Ev.assign rfl) ?_
 refine Lst.nil ?_
 refine At.then ?_
 obtain rfl := some_inj H
 refine Cd.ret ?_
 exact At.ret1 rfl (Res.tmp rfl) (FLe.refl _) (sk1 (.refl _)) ⟨rfl, rfl⟩
end Go.Proofs.Ytnljiedichjagaa
