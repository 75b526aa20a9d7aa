/-
  The functions compute their specs; printed by a program.
-/
import Derived.Test.YtobikknjaomalaaLtSp
import Derived.Test.YtobikknjaomalaaGoL
import Derived.Test.YtobikknjaomalaaGoK
import Derived.Test.YtobikknjaomalaaGoI
import Derived.Test.YtobikknjaomalaaGoU
import Derived.Test.YtobikknjaomalaaGoM
import Derived.Test.YtobikknjaomalaaGoS
import Derived.Test.YtobikknjaomalaaGoO
import Derived.Test.YtobikknjaomalaaProg
namespace Go.Proofs.Ytobikknjaomalaa
open Go.RowKit Enc
set_option linter.unusedVariables false
set_option linter.unusedSimpArgs false
structure ToR where
  v : To
  h1 : Sl
instance : Enc ToR := ⟨fun p => enc p.v.Next ++ (enc p.h1), 2, fun p => by simp only [List.length_append, Enc.len]; rfl, fun p => by simp only [List.all_append, Enc.one, Bool.and_self]⟩
theorem ToR.get_Next {p : ToR} {k : Nat} {ch : List Value} (h : Get (enc p.v.Next) k ch) : Get (enc p) (0 + k) ch := Get.off (Get.left h) (by omega)
theorem ToR.put_Next {p : ToR} {k : Nat} {vs : List Value} {y : Int} (h : Put (enc p.v.Next) k vs (enc y)) : Put (enc p) (0 + k) vs (enc ({ p with v := { p.v with Next := y } } : ToR)) := Put.off (cs' := enc ({ p with v := { p.v with Next := y } } : ToR)) (Put.left h) (by omega)
theorem ToR.get_Early {p : ToR} {k : Nat} {ch : List Value} (h : Get (enc p.h1) k ch) : Get (enc p) (1 + k) ch := Get.off (Get.right (m := 1) (Enc.len _) h) (by omega)
theorem ToR.put_Early {p : ToR} {k : Nat} {vs : List Value} {y : Sl} {l : List Parcel} (h : Put (enc p.h1) k vs (enc y)) : Put (enc p) (1 + k) vs (enc ({ p with v := { p.v with Early := l }, h1 := y } : ToR)) := Put.off (cs' := enc ({ p with v := { p.v with Early := l }, h1 := y } : ToR)) (Put.right (m := 1) (Enc.len _) h) (by omega)
def ToR.rel (w0 : World) (F : Frz) (L : List Item) (x : ToR) : Prop := Rd w0 F L x.h1 x.v.Early
theorem ToR.mono {w0 : World} {F F' : Frz} {L L' : List Item} {x : ToR} (h : ToR.rel w0 F L x) (hF : FLe F F') (hL : L.Sublist L') : ToR.rel w0 F' L' x :=
  let h1 := h
  h1.mono hF hL
def ToR.row (x : ToR) : LR Parcel := ⟨x.v.Early, x.h1⟩
theorem ToR.rowAll {w0 : World} {F : Frz} {L : List Item} {rs : List ToR} (h : All LR.rel w0 F L (List.map ToR.row rs)) : All ToR.rel w0 F L rs := fun x hx => h (ToR.row x) (List.mem_map_of_mem hx)
theorem All.monoTo {w0 : World} {F F' : Frz} {L L' : List Item} {rs : List ToR} (h : All ToR.rel w0 F L rs) (hF : FLe F F') (hL : L.Sublist L') : All ToR.rel w0 F' L' rs := fun x hx => ToR.mono (h x hx) hF hL
set_option maxRecDepth 20000 in
theorem eq92 (x y : Parcel) : ∀ w, (Op.equal 92 (.agg (enc x).toArray) (.agg (enc y).toArray)).run Try.prog w = .ok (decide (x = y)) w :=
  EqT.top (d := 10000) Try.isAgg92 Try.sizeOf92 rfl rfl (EqT.struct Try.isAgg92 Try.sizeOf92 rfl Try.runUnderlying92 (by kernel_rfl) (fun x y w => by
  refine Eq.trans (eqField (p := x.Seq) (q := y.Seq) rfl (EqT.int Try.isAgg3 Try.runUnderlying3) rfl ((Parcel.get_Seq (Get.here _)).off rfl) ((Parcel.get_Seq (Get.here _)).off rfl) (eqField (p := x.Text) (q := y.Text) rfl (EqT.str Try.isAgg9 Try.runUnderlying9) rfl ((Parcel.get_Text (Get.here _)).off rfl) ((Parcel.get_Text (Get.here _)).off rfl) (by rfl))) ?_
  congr 1
  rw [Bool.eq_iff_iff]; cases x; cases y; simp)) x y
set_option maxRecDepth 20000 in
theorem partref_ToErr_sim {a0 : To} {s_a0_1 : Sl} {r : Int} (H : partref_ToErr a0 = some r) (w0 : World) (F : Frz) (M L : List Item) (hM : M.Sublist L) (hs_a0_1 : Rd w0 F M s_a0_1 a0.Early) : Ok Try.prog w0 52 [.agg (enc (ToR.mk a0 s_a0_1)).toArray] F (L) (Is (iv r) (L)) := by
 unfold partref_ToErr at H
 refine Ok.enter (m := 1) (n := 61) Try.func52 rfl rfl rfl (by decide) ?_
 refine Cd.env (e' := [(0, .agg (enc (ToR.mk a0 s_a0_1)).toArray)]) rfl ?_
 refine sr0 ?_
 refine Lst.box rfl rfl (by decide) rfl (cs := enc (ToR.mk a0 s_a0_1)) rfl (fun b1 => ?_)
 refine Lst.r (Ev.assign rfl) ?_
 refine nt0 ?_
 refine Cd.seq ?_
 refine sr0 ?_
 refine Lst.r (Ev.fieldAddr (off' := 0) rfl Try.runUnderlying90 rfl Try.sizeOf3 rfl rfl) ?_
 refine Lst.r (Ev.load (i := 0) rfl rfl Try.isAgg3 (v := iv a0.Next) ((ToR.get_Next gh0).off (by rfl))) ?_
 refine Lst.r (Ev.lss rfl rfl) ?_
 refine mv0 rfl ?_
 obtain ⟨o3, H, HKo3⟩ := bind_some H
 refine Lst.join (σ := Bool) 4 (fun y4 => [(1, pv b1 0), (12, .bool y4)]) (fun y4 => (.blk b1 (enc (ToR.mk a0 s_a0_1)) 90) :: L) (fun _ y4 => y4 = o3) ?_ ?_
 ·rcases Bool.eq_false_or_eq_true (decide (a0.Next < (0 : Int))) with hb5 | hb5
  ·replace H := ite_t hb5 H
   refine Lst.skip rfl rfl rfl hb5 rfl (by decide) ?_
   refine Lst.skip rfl rfl rfl hb5 rfl (by decide) ?_
   refine Lst.skip rfl rfl rfl hb5 rfl (by decide) ?_
   refine Lst.r (Ev.pickT rfl hb5 rfl) ?_
   refine Lst.nil ?_
   exact At.meet true fl ⟨rfl, rfl, trivial⟩ rfl (some_inj H)
  replace H := ite_f hb5 H
  refine Lst.rG hb5 (Ev.fieldAddr (off' := 0) rfl Try.runUnderlying90 rfl Try.sizeOf3 rfl rfl) ?_
  refine Lst.rG hb5 (Ev.load (i := 0) rfl rfl Try.isAgg3 (v := iv a0.Next) ((ToR.get_Next gh0).off (by rfl))) ?_
  refine Lst.rG hb5 (Ev.gtr rfl rfl) ?_
  refine Lst.r (Ev.pickF rfl hb5 rfl) ?_
  refine Lst.nil ?_
  exact At.meet (decide (a0.Next > (16777215 : Int))) fl ⟨rfl, rfl, trivial⟩ rfl (some_inj H)
 rintro F6 y4 hF7 hy
 subst hy
 refine Lst.as (e' := [(1, pv b1 0), (12, .bool y4)]) (L' := (.blk b1 (enc (ToR.mk a0 s_a0_1)) 90) :: L) ⟨rfl, rfl, trivial⟩ rfl ?_
 replace H := HKo3
 refine nt0 ?_
 rcases Bool.eq_false_or_eq_true y4 with hb8 | hb8
 ·replace H := ite_t hb8 H
  refine Cd.condT rfl hb8 ?_
  refine sr0 ?_
  refine Lst.r (Ev.assign rfl) ?_
  refine nt0 ?_
  obtain rfl := some_inj H
  refine Cd.ret ?_
  refine At.then_ret ?_
  exact At.ret1 rfl (Res.tmp rfl) hF7 (sc1 (.refl _)) ⟨rfl, rfl⟩
 replace H := ite_f hb8 H
 refine Cd.condF rfl hb8 ?_
 refine Cd.skip ?_
 refine At.then ?_
 refine Cd.seq ?_
 refine sr0 ?_
 refine Lst.r (Ev.fieldAddr (off' := 1) rfl Try.runUnderlying90 rfl Try.sizeOf88 rfl rfl) ?_
 refine Lst.r (Ev.load (i := 0) rfl rfl Try.isAgg88 (v := Sl.v s_a0_1) ((ToR.get_Early gh0).off (by rfl))) ?_
 refine Lst.r (Ev.lenS (α := Parcel) (xs := a0.Early) (by decide) rfl rfl Try.runUnderlying88 (hs_a0_1.mono hF7 (sc1 hM))) ?_
 refine Lst.r (Ev.gtr rfl rfl) ?_
 refine nt0 ?_
 rcases Bool.eq_false_or_eq_true (decide ((a0.Early.length : Int) > (16 : Int))) with hb9 | hb9
 ·replace H := ite_t hb9 H
  refine Cd.condT rfl hb9 ?_
  refine sr0 ?_
  refine Lst.r (Ev.assign rfl) ?_
  refine nt0 ?_
  obtain rfl := some_inj H
  refine Cd.ret ?_
  refine At.then_ret ?_
  exact At.ret1 rfl (Res.tmp rfl) hF7 (sc1 (.refl _)) ⟨rfl, rfl⟩
 replace H := ite_f hb9 H
 refine Cd.condF rfl hb9 ?_
 refine Cd.skip ?_
 refine At.then ?_
 refine Cd.seq ?_
 refine sr0 ?_
 refine Lst.r (Ev.fieldAddr (off' := 1) rfl Try.runUnderlying90 rfl Try.sizeOf88 rfl rfl) ?_
 refine Lst.r (Ev.load (i := 0) rfl rfl Try.isAgg88 (v := Sl.v s_a0_1) ((ToR.get_Early gh0).off (by rfl))) ?_
 refine Lst.r (Ev.lenS (α := Parcel) (xs := a0.Early) (by decide) rfl rfl Try.runUnderlying88 (hs_a0_1.mono hF7 (sc1 hM))) ?_
 refine mv0 rfl ?_
 refine nt0 ?_
 refine Cd.block ?_
 refine Cd.bound (Rd.le (α := Parcel) (xs := a0.Early) (by decide) (hs_a0_1.mono hF7 (sc1 hM))) (fun hN34 => ?_)
 obtain ⟨ol10, H, HKl10⟩ := andThen_some H
 refine Cd.loop (σ := Nat × Nat × Unit) (fun (i10, k10, _u) => [(1, pv b1 0), (18, Sl.v s_a0_1), (19, iv (a0.Early.length : Int)), (20, iv (i10 : Int))]) (fun (i10, k10, _u) => (.blk b1 (enc (ToR.mk a0 s_a0_1)) 90) :: L) (fun _ => (fun (i10, k10, _u) => rangeM (partref_ToErr_B0 a0) k10 i10 () = some ol10 ∧ i10 + k10 = a0.Early.length)) (fun (i10, k10, _u) => k10) (0, a0.Early.length, ()) ⟨rfl, rfl, rfl, rfl, trivial⟩ rfl ⟨H, by omega⟩ ?_
 rintro F11 ⟨i10, k10, _u⟩ hF12 ⟨H, hik10⟩
 refine Cd.as (e' := [(1, pv b1 0), (18, Sl.v s_a0_1), (19, iv (a0.Early.length : Int)), (20, iv (i10 : Int))]) (L' := (.blk b1 (enc (ToR.mk a0 s_a0_1)) 90) :: L) ⟨rfl, rfl, rfl, rfl, trivial⟩ rfl ?_
 rcases k10 with _ | k10
 ·have hc10 : decide ((i10 : Int) < (a0.Early.length : Int)) = false := decide_eq_false (by omega)
  replace H := rangeM_end H
  refine sr0 ?_
  refine Lst.r (Ev.lss rfl rfl) ?_
  refine nt0 ?_
  refine Cd.seq ?_
  refine Cd.condF rfl hc10 ?_
  refine Cd.exit ?_
  refine At.then_exit ?_
  refine At.then_exit ?_
  refine At.in_exit ?_
  subst H
  replace H := HKl10
  refine At.then ?_
  refine sr0 ?_
  refine Lst.r (Ev.assign rfl) ?_
  refine nt0 ?_
  obtain rfl := some_inj H
  refine Cd.ret ?_
  exact At.ret1 rfl (Res.tmp rfl) (FLe.trans hF7 hF12) (sc1 (.refl _)) ⟨rfl, rfl⟩
 have hc10 : decide ((i10 : Int) < (a0.Early.length : Int)) = true := decide_eq_true (by omega)
 obtain ⟨c10, H, hgo10, hbrk10, hret10⟩ := rangeM_go H
 unfold partref_ToErr_B0 at H
 try dsimp only at H
 refine sr0 ?_
 refine Lst.r (Ev.lss rfl rfl) ?_
 refine nt0 ?_
 refine Cd.seq ?_
 refine Cd.condT rfl hc10 ?_
 refine Cd.skip ?_
 refine At.then ?_
 refine Cd.seq ?_
 refine Cd.block ?_
 refine sr0 ?_
 refine mv0 rfl ?_
 obtain ⟨x13, h14, H⟩ := bind_some H
 have g15 := lat_some h14
 refine Lst.r (Ev.indexS (α := Parcel) (xs := a0.Early) rfl rfl Try.runUnderlying88 Try.sizeOf92 rfl (by decide) (hs_a0_1.mono (FLe.trans hF7 hF12) (sc1 hM)) g15.1 g15.2.1) ?_
 refine Lst.r (Ev.loadSA (α := Parcel) rfl (hs_a0_1.mono (FLe.trans hF7 hF12) (sc1 hM)) Try.isAgg92 Try.sizeOf92 (ch := enc x13) (Enc.len _) (by decide) ((Get.elemN (s := 2) (x := x13) rfl g15.2.2 gh0).off (by omega))) ?_
 refine Lst.alloc (cs := enc Parcel.zero) rfl rfl (by decide) Try.zeroValue92 rfl (fun b16 => ?_)
 refine Lst.r (Ev.assign rfl) ?_
 refine Lst.store (i := 0) rfl rfl rfl rfl rfl Try.sizeOf92 (vs := enc x13) rfl (Enc.len _) (Enc.one _) (cs' := enc x13) (Put.here ((Enc.len _).trans (Enc.len _).symm)) (L' := (.blk b16 (enc x13) 92) :: (.blk b1 (enc (ToR.mk a0 s_a0_1)) 90) :: L) rfl ?_
 refine nt0 ?_
 refine Cd.seq ?_
 refine Cd.quiet (by kernel_rfl) (by kernel_rfl) ?_
 refine Qt.r (Ev.fieldAddr (off' := 0) rfl Try.runUnderlying92 rfl Try.sizeOf3 rfl rfl) ?_
 refine Qt.r (Ev.load (i := 0) rfl rfl Try.isAgg3 (v := iv x13.Seq) ((Parcel.get_Seq gh0).off (by rfl))) ?_
 refine Qt.r (Ev.fieldAddr (off' := 0) rfl Try.runUnderlying90 rfl Try.sizeOf3 rfl rfl) ?_
 refine Qt.r (Ev.load (i := 1) rfl rfl Try.isAgg3 (v := iv a0.Next) ((ToR.get_Next gh0).off (by rfl))) ?_
 refine Qt.r (Ev.leq rfl rfl) ?_
 refine Qt.r (Ev.move rfl) ?_
 obtain ⟨o18, H, HKo18⟩ := bind_some H
 refine Qt.join (σ := Bool) 7 (fun y19 => [(1, pv b1 0), (3, iv (i10 : Int)), (4, pv b16 0), (18, Sl.v s_a0_1), (19, iv (a0.Early.length : Int)), (20, iv (i10 : Int)), (37, .bool y19)]) (fun y19 => y19 = o18) ?_ ?_
 ·rcases Bool.eq_false_or_eq_true (decide (x13.Seq ≤ a0.Next)) with hb20 | hb20
  ·replace H := ite_t hb20 H
   refine Qt.skip rfl rfl rfl hb20 rfl (by decide) ?_
   refine Qt.skip rfl rfl rfl hb20 rfl (by decide) ?_
   refine Qt.skip rfl rfl rfl hb20 rfl (by decide) ?_
   refine Qt.skip rfl rfl rfl hb20 rfl (by decide) ?_
   refine Qt.skip rfl rfl rfl hb20 rfl (by decide) ?_
   refine Qt.skip rfl rfl rfl hb20 rfl (by decide) ?_
   refine Qt.r (Ev.pickT rfl hb20 rfl) ?_
   exact Qt.meet true ⟨rfl, rfl, rfl, rfl, rfl, rfl, rfl, trivial⟩ (some_inj H)
  replace H := ite_f hb20 H
  refine Qt.rG hb20 (Ev.fieldAddr (off' := 0) rfl Try.runUnderlying92 rfl Try.sizeOf3 rfl rfl) ?_
  refine Qt.rG hb20 (Ev.load (i := 0) rfl rfl Try.isAgg3 (v := iv x13.Seq) ((Parcel.get_Seq gh0).off (by rfl))) ?_
  refine Qt.rG hb20 (Ev.fieldAddr (off' := 0) rfl Try.runUnderlying90 rfl Try.sizeOf3 rfl rfl) ?_
  refine Qt.rG hb20 (Ev.load (i := 1) rfl rfl Try.isAgg3 (v := iv a0.Next) ((ToR.get_Next gh0).off (by rfl))) ?_
  refine Qt.rG hb20 (Ev.add rfl rfl) ?_
  refine Qt.rG hb20 (Ev.gtr rfl rfl) ?_
  refine Qt.r (Ev.pickF rfl hb20 rfl) ?_
  exact Qt.meet (decide (x13.Seq > (w64 (a0.Next + (15 : Int))))) ⟨rfl, rfl, rfl, rfl, rfl, rfl, rfl, trivial⟩ (some_inj H)
 rintro y19 hy
 subst hy
 refine Qt.as (e' := [(1, pv b1 0), (3, iv (i10 : Int)), (4, pv b16 0), (18, Sl.v s_a0_1), (19, iv (a0.Early.length : Int)), (20, iv (i10 : Int)), (37, .bool y19)]) ⟨rfl, rfl, rfl, rfl, rfl, rfl, rfl, trivial⟩ ?_
 replace H := HKo18
 refine Qt.r (Ev.move rfl) ?_
 obtain ⟨o21, H, HKo21⟩ := bind_some H
 refine Qt.join (σ := Bool) 15 (fun y22 => [(1, pv b1 0), (4, pv b16 0), (18, Sl.v s_a0_1), (19, iv (a0.Early.length : Int)), (20, iv (i10 : Int)), (53, .bool y22)]) (fun y22 => y22 = o21) ?_ ?_
 ·rcases Bool.eq_false_or_eq_true y19 with hb23 | hb23
  ·replace H := ite_t hb23 H
   refine Qt.skip rfl rfl rfl hb23 rfl (by decide) ?_
   refine Qt.skip rfl rfl rfl hb23 rfl (by decide) ?_
   refine Qt.skip rfl rfl rfl hb23 rfl (by decide) ?_
   refine Qt.skipU rfl rfl rfl rfl (by decide) ?_
   refine Qt.skipU rfl rfl rfl rfl (by decide) ?_
   refine Qt.skipU rfl rfl rfl rfl (by decide) ?_
   refine Qt.skipU rfl rfl rfl rfl (by decide) ?_
   refine Qt.skipU rfl rfl rfl rfl (by decide) ?_
   refine Qt.skipU rfl rfl rfl rfl (by decide) ?_
   refine Qt.skipU rfl rfl rfl rfl (by decide) ?_
   refine Qt.skipU rfl rfl rfl rfl (by decide) ?_
   refine Qt.skipU rfl rfl rfl rfl (by decide) ?_
   refine Qt.skipU rfl rfl rfl rfl (by decide) ?_
   refine Qt.skip rfl rfl rfl hb23 rfl (by decide) ?_
   refine Qt.r (Ev.pickT rfl hb23 rfl) ?_
   exact Qt.meet true ⟨rfl, rfl, rfl, rfl, rfl, rfl, trivial⟩ (some_inj H)
  replace H := ite_f hb23 H
  refine Qt.rG hb23 (Ev.move rfl) ?_
  refine Qt.rG hb23 (Ev.gtr rfl rfl) ?_
  refine Qt.rG hb23 (Ev.move rfl) ?_
  obtain ⟨o24, H, HKo24⟩ := bind_some H
  refine Qt.join (σ := Bool) 11 (fun y25 => [(1, pv b1 0), (4, pv b16 0), (18, Sl.v s_a0_1), (19, iv (a0.Early.length : Int)), (20, iv (i10 : Int)), (38, .bool y19), (52, .bool y25)]) (fun y25 => y25 = o24) ?_ ?_
  ·rcases (Bool.eq_false_or_eq_true (decide ((i10 : Int) > (0 : Int)))).symm with hb26 | hb26
   ·replace H := ite_f hb26 H
    refine Qt.skip rfl rfl rfl hb26 rfl (by decide) ?_
    refine Qt.skip rfl rfl rfl hb26 rfl (by decide) ?_
    refine Qt.skip rfl rfl rfl hb26 rfl (by decide) ?_
    refine Qt.skip rfl rfl rfl hb26 rfl (by decide) ?_
    refine Qt.skip rfl rfl rfl hb26 rfl (by decide) ?_
    refine Qt.skip rfl rfl rfl hb26 rfl (by decide) ?_
    refine Qt.skip rfl rfl rfl hb26 rfl (by decide) ?_
    refine Qt.skip rfl rfl rfl hb26 rfl (by decide) ?_
    refine Qt.skip rfl rfl rfl hb26 rfl (by decide) ?_
    refine Qt.skip rfl rfl rfl hb26 rfl (by decide) ?_
    refine Qt.rG hb23 (Ev.pickF rfl hb26 rfl) ?_
    exact Qt.meet false ⟨rfl, rfl, rfl, rfl, rfl, rfl, rfl, trivial⟩ (some_inj H)
   replace H := ite_t hb26 H
   refine Qt.rG hb26 (Ev.fieldAddr (off' := 0) rfl Try.runUnderlying92 rfl Try.sizeOf3 rfl rfl) ?_
   refine Qt.rG hb26 (Ev.load (i := 0) rfl rfl Try.isAgg3 (v := iv x13.Seq) ((Parcel.get_Seq gh0).off (by rfl))) ?_
   refine Qt.rG hb26 (Ev.fieldAddr (off' := 1) rfl Try.runUnderlying90 rfl Try.sizeOf88 rfl rfl) ?_
   refine Qt.rG hb26 (Ev.load (i := 1) rfl rfl Try.isAgg88 (v := Sl.v s_a0_1) ((ToR.get_Early gh0).off (by rfl))) ?_
   refine Qt.rG hb26 (Ev.move rfl) ?_
   refine Qt.rG hb26 (Ev.sub rfl rfl) ?_
   obtain ⟨x27, h28, H⟩ := bind_some H
   have g29 := lat_some h28
   refine Qt.rG hb26 (Ev.indexS (α := Parcel) (xs := a0.Early) rfl rfl Try.runUnderlying88 Try.sizeOf92 rfl (by decide) (hs_a0_1.mono (FLe.trans hF7 hF12) (sc2 hM)) g29.1 g29.2.1) ?_
   refine Qt.rG hb26 (Ev.fieldS (α := Parcel) (f' := (w64 ((i10 : Int) - (1 : Int))).toNat * 2 + 0) rfl (hs_a0_1.mono (FLe.trans hF7 hF12) (sc2 hM)) ((Get.elemN (s := 2) (x := x27) rfl g29.2.2 gh0).off (by omega)) rfl Try.runUnderlying92 rfl Try.sizeOf3 rfl rfl rfl) ?_
   refine Qt.rG hb26 (Ev.loadS (α := Parcel) rfl (hs_a0_1.mono (FLe.trans hF7 hF12) (sc2 hM)) Try.isAgg3 (v := iv x27.Seq) ((Get.elemN (s := 2) (x := x27) rfl g29.2.2 (Parcel.get_Seq gh0)).off (by omega))) ?_
   refine Qt.rG hb26 (Ev.leq rfl rfl) ?_
   refine Qt.rG hb23 (Ev.pickT rfl hb26 rfl) ?_
   exact Qt.meet (decide (x13.Seq ≤ x27.Seq)) ⟨rfl, rfl, rfl, rfl, rfl, rfl, rfl, trivial⟩ (some_inj H)
  rintro y25 hy
  subst hy
  refine Qt.as (e' := [(1, pv b1 0), (4, pv b16 0), (18, Sl.v s_a0_1), (19, iv (a0.Early.length : Int)), (20, iv (i10 : Int)), (38, .bool y19), (52, .bool y25)]) ⟨rfl, rfl, rfl, rfl, rfl, rfl, rfl, trivial⟩ ?_
  replace H := HKo24
  refine Qt.r (Ev.pickF rfl hb23 rfl) ?_
  exact Qt.meet y25 ⟨rfl, rfl, rfl, rfl, rfl, rfl, trivial⟩ (some_inj H)
 rintro y22 hy
 subst hy
 refine Qt.as (e' := [(1, pv b1 0), (4, pv b16 0), (18, Sl.v s_a0_1), (19, iv (a0.Early.length : Int)), (20, iv (i10 : Int)), (53, .bool y22)]) ⟨rfl, rfl, rfl, rfl, rfl, rfl, trivial⟩ ?_
 replace H := HKo21
 refine Qt.r (Ev.move rfl) ?_
 obtain ⟨o30, H, HKo30⟩ := bind_some H
 refine Qt.join (σ := Bool) 5 (fun y31 => [(1, pv b1 0), (18, Sl.v s_a0_1), (19, iv (a0.Early.length : Int)), (20, iv (i10 : Int)), (59, .bool y31)]) (fun y31 => y31 = o30) ?_ ?_
 ·rcases Bool.eq_false_or_eq_true y22 with hb32 | hb32
  ·replace H := ite_t hb32 H
   refine Qt.skip rfl rfl rfl hb32 rfl (by decide) ?_
   refine Qt.skip rfl rfl rfl hb32 rfl (by decide) ?_
   refine Qt.skip rfl rfl rfl hb32 rfl (by decide) ?_
   refine Qt.skip rfl rfl rfl hb32 rfl (by decide) ?_
   refine Qt.r (Ev.pickT rfl hb32 rfl) ?_
   exact Qt.meet true ⟨rfl, rfl, rfl, rfl, rfl, trivial⟩ (some_inj H)
  replace H := ite_f hb32 H
  refine Qt.rG hb32 (Ev.fieldAddr (off' := 1) rfl Try.runUnderlying92 rfl Try.sizeOf9 rfl rfl) ?_
  refine Qt.rG hb32 (Ev.load (i := 0) rfl rfl Try.isAgg9 (v := Str.v x13.Text) ((Parcel.get_Text gh0).off (by rfl))) ?_
  refine Qt.rG hb32 (Ev.lenStr rfl rfl Try.runUnderlying9) ?_
  refine Qt.rG hb32 (Ev.gtr rfl rfl) ?_
  refine Qt.r (Ev.pickF rfl hb32 rfl) ?_
  exact Qt.meet (decide ((x13.Text.length : Int) > (200 : Int))) ⟨rfl, rfl, rfl, rfl, rfl, trivial⟩ (some_inj H)
 rintro y31 hy
 subst hy
 refine Qt.as (e' := [(1, pv b1 0), (18, Sl.v s_a0_1), (19, iv (a0.Early.length : Int)), (20, iv (i10 : Int)), (59, .bool y31)]) ⟨rfl, rfl, rfl, rfl, rfl, trivial⟩ ?_
 replace H := HKo30
 refine Qt.done ?_
 refine At.then ?_
 rcases Bool.eq_false_or_eq_true y31 with hb33 | hb33
 ·replace H := ite_t hb33 H
  refine Cd.condT rfl hb33 ?_
  refine sr0 ?_
  refine Lst.r (Ev.assign rfl) ?_
  refine nt0 ?_
  have H := hret10 _ (some_inj H).symm
  subst H
  replace H := HKl10
  obtain rfl := some_inj H
  refine Cd.ret ?_
  refine At.in_ret ?_
  refine At.then_ret ?_
  refine At.then_ret ?_
  refine At.in_ret ?_
  refine At.then_ret ?_
  exact At.ret1 rfl (Res.tmp rfl) (FLe.trans hF7 hF12) (sc1 (sc1 (.refl _))) ⟨rfl, rfl⟩
 replace H := ite_f hb33 H
 refine Cd.condF rfl hb33 ?_
 refine Cd.skip ?_
 refine At.in_normal ?_
 refine At.then ?_
 refine Cd.region ?_
 refine Lst.r (Ev.incr (by omega) rfl rfl) ?_
 refine mv0 rfl ?_
 refine Lst.nil ?_
 refine At.less (L' := (.blk b1 (enc (ToR.mk a0 s_a0_1)) 90) :: L) (sc1 (sk1 (.refl _))) ?_
 exact At.meet (i10 + 1, k10, ()) hF12 ⟨rfl, rfl, rfl, rfl, trivial⟩ rfl ⟨⟨hgo10 _ (some_inj H).symm, by omega⟩, Nat.lt_succ_self _⟩
set_option maxRecDepth 20000 in
theorem lane_in_sim {a0 : Int} {a1 : Int} {a2 : Int} {r : Bool} (H : lane_in a0 a1 a2 = some r) (w0 : World) (F : Frz) (M L : List Item) (hM : M.Sublist L) : Ok Try.prog w0 138 [iv a0, iv a1, iv a2] F (L) (Is (.bool r) (L)) := by
 unfold lane_in at H
 refine Ok.enter (m := 3) (n := 15) Try.func138 rfl rfl rfl (by decide) ?_
 refine Cd.env (e' := [(0, iv a0), (1, iv a1), (2, iv a2)]) rfl ?_
 refine sr0 ?_
 refine Lst.r (Ev.assign rfl) ?_
 refine nsr ?_
 refine mv0 rfl ?_
 refine mv0 rfl ?_
 refine Lst.r (Ev.geq rfl rfl) ?_
 refine mv0 rfl ?_
 obtain ⟨o1, H, HKo1⟩ := bind_some H
 refine Lst.join (σ := Bool) 4 (fun y2 => [(14, .bool y2)]) (fun y2 => L) (fun _ y2 => y2 = o1) ?_ ?_
 ·rcases (Bool.eq_false_or_eq_true (decide (a0 ≥ a1))).symm with hb3 | hb3
  ·replace H := ite_f hb3 H
   refine Lst.skip rfl rfl rfl hb3 rfl (by decide) ?_
   refine Lst.skip rfl rfl rfl hb3 rfl (by decide) ?_
   refine Lst.skip rfl rfl rfl hb3 rfl (by decide) ?_
   refine Lst.r (Ev.pickF rfl hb3 rfl) ?_
   refine Lst.nil ?_
   exact At.meet false fl ⟨rfl, trivial⟩ rfl (some_inj H)
  replace H := ite_t hb3 H
  refine Lst.rG hb3 (Ev.move rfl) ?_
  refine Lst.rG hb3 (Ev.move rfl) ?_
  refine Lst.rG hb3 (Ev.leq rfl rfl) ?_
  refine Lst.r (Ev.pickT rfl hb3 rfl) ?_
  refine Lst.nil ?_
  exact At.meet (decide (a0 ≤ a2)) fl ⟨rfl, trivial⟩ rfl (some_inj H)
 rintro F4 y2 hF5 hy
 subst hy
 refine Lst.as (e' := [(14, .bool y2)]) (L' := L) ⟨rfl, trivial⟩ rfl ?_
 replace H := HKo1
 refine Lst.r (Ev.assign rfl) ?_
 refine nt0 ?_
 obtain rfl := some_inj H
 refine Cd.ret ?_
 exact At.ret1 rfl (Res.tmp rfl) hF5 (.refl _) ⟨rfl, rfl⟩
set_option maxRecDepth 20000 in
theorem lane_long_sim {a0 : Str} {r : Bool} (H : lane_long a0 = some r) (w0 : World) (F : Frz) (M L : List Item) (hM : M.Sublist L) : Ok Try.prog w0 139 [Str.v a0] F (L) (Is (.bool r) (L)) := by
 unfold lane_long at H
 refine Ok.enter (m := 1) (n := 6) Try.func139 rfl rfl rfl (by decide) ?_
 refine Cd.env (e' := [(0, Str.v a0)]) rfl ?_
 refine sr0 ?_
 refine Lst.r (Ev.assign rfl) ?_
 refine nsr ?_
 refine mv0 rfl ?_
 refine Lst.r (Ev.lenStr rfl rfl Try.runUnderlying9) ?_
 refine Lst.r (Ev.gtr rfl rfl) ?_
 refine Lst.r (Ev.assign rfl) ?_
 refine nt0 ?_
 obtain rfl := some_inj H
 refine Cd.ret ?_
 exact At.ret1 rfl (Res.tmp rfl) fl (.refl _) ⟨rfl, rfl⟩
set_option maxRecDepth 20000 in
theorem lane_CheckTo_sim {a0 : To} {s_a0_1 : Sl} {r : Int} (H : lane_CheckTo a0 = some r) (w0 : World) (F : Frz) (M L : List Item) (hM : M.Sublist L) (hs_a0_1 : Rd w0 F M s_a0_1 a0.Early) : Ok Try.prog w0 54 [.agg (enc (ToR.mk a0 s_a0_1)).toArray] F (L) (Is (iv r) (L)) := by
 unfold lane_CheckTo at H
 refine Ok.enter (m := 1) (n := 45) Try.func54 rfl rfl rfl (by decide) ?_
 refine Cd.env (e' := [(0, .agg (enc (ToR.mk a0 s_a0_1)).toArray)]) rfl ?_
 refine sr0 ?_
 refine Lst.box rfl rfl (by decide) rfl (cs := enc (ToR.mk a0 s_a0_1)) rfl (fun b1 => ?_)
 refine Lst.r (Ev.assign rfl) ?_
 refine nt0 ?_
 refine Cd.seq ?_
 refine Cd.block ?_
 refine sr0 ?_
 refine Lst.r (Ev.fieldAddr (off' := 0) rfl Try.runUnderlying90 rfl Try.sizeOf3 rfl rfl) ?_
 refine Lst.r (Ev.load (i := 0) rfl rfl Try.isAgg3 (v := iv a0.Next) ((ToR.get_Next gh0).off (by rfl))) ?_
 obtain ⟨r3, h4, H⟩ := bind_some H
 refine Lst.call1 rfl rfl (by decide) (vs := [iv a0.Next, iv (0 : Int), iv (16777215 : Int)]) ⟨rfl, rfl, rfl, trivial⟩ Try.call138 (lane_in_sim h4 w0 _ M _ (sc1 hM)) ?_
 refine Lst.r (Ev.not rfl) ?_
 refine Lst.r (Ev.assign rfl) ?_
 refine nt0 ?_
 rcases Bool.eq_false_or_eq_true (!r3) with hb7 | hb7
 ·replace H := ite_t hb7 H
  refine Cd.condT rfl hb7 ?_
  refine sr0 ?_
  refine Lst.r (Ev.assign rfl) ?_
  refine nt0 ?_
  obtain rfl := some_inj H
  refine Cd.ret ?_
  refine At.in_ret ?_
  refine At.then_ret ?_
  exact At.ret1 rfl (Res.tmp rfl) fl (sc1 (.refl _)) ⟨rfl, rfl⟩
 replace H := ite_f hb7 H
 refine Cd.condF rfl hb7 ?_
 refine sr0 ?_
 refine Lst.r (Ev.fieldAddr (off' := 1) rfl Try.runUnderlying90 rfl Try.sizeOf88 rfl rfl) ?_
 refine Lst.r (Ev.load (i := 0) rfl rfl Try.isAgg88 (v := Sl.v s_a0_1) ((ToR.get_Early gh0).off (by rfl))) ?_
 refine Lst.r (Ev.lenS (α := Parcel) (xs := a0.Early) (by decide) rfl rfl Try.runUnderlying88 (hs_a0_1.mono fl (sc1 hM))) ?_
 refine Lst.r (Ev.gtr rfl rfl) ?_
 refine Lst.r (Ev.assign rfl) ?_
 refine nt0 ?_
 rcases Bool.eq_false_or_eq_true (decide ((a0.Early.length : Int) > (16 : Int))) with hb8 | hb8
 ·replace H := ite_t hb8 H
  refine Cd.condT rfl hb8 ?_
  refine sr0 ?_
  refine Lst.r (Ev.assign rfl) ?_
  refine nt0 ?_
  obtain rfl := some_inj H
  refine Cd.ret ?_
  refine At.in_ret ?_
  refine At.then_ret ?_
  exact At.ret1 rfl (Res.tmp rfl) fl (sc1 (.refl _)) ⟨rfl, rfl⟩
 replace H := ite_f hb8 H
 refine Cd.condF rfl hb8 ?_
 refine Cd.skip ?_
 refine At.in_normal ?_
 refine At.then ?_
 refine sr0 ?_
 refine Lst.r (Ev.fieldAddr (off' := 0) rfl Try.runUnderlying90 rfl Try.sizeOf3 rfl rfl) ?_
 refine Lst.r (Ev.load (i := 0) rfl rfl Try.isAgg3 (v := iv a0.Next) ((ToR.get_Next gh0).off (by rfl))) ?_
 refine Lst.r (Ev.assign rfl) ?_
 refine nt0 ?_
 refine Cd.seq ?_
 refine sr0 ?_
 refine Lst.r (Ev.fieldAddr (off' := 1) rfl Try.runUnderlying90 rfl Try.sizeOf88 rfl rfl) ?_
 refine Lst.r (Ev.load (i := 0) rfl rfl Try.isAgg88 (v := Sl.v s_a0_1) ((ToR.get_Early gh0).off (by rfl))) ?_
 refine Lst.r (Ev.lenS (α := Parcel) (xs := a0.Early) (by decide) rfl rfl Try.runUnderlying88 (hs_a0_1.mono fl (sc1 hM))) ?_
 refine mv0 rfl ?_
 refine nt0 ?_
 refine Cd.block ?_
 refine Cd.bound (Rd.le (α := Parcel) (xs := a0.Early) (by decide) (hs_a0_1.mono fl (sc1 hM))) (fun hN33 => ?_)
 obtain ⟨ol9, H, HKl9⟩ := andThen_some H
 refine Cd.loop (σ := Nat × Nat × Int) (fun (i9, k9, y10) => [(1, pv b1 0), (3, iv y10), (19, Sl.v s_a0_1), (20, iv (a0.Early.length : Int)), (21, iv (i9 : Int))]) (fun (i9, k9, y10) => (.blk b1 (enc (ToR.mk a0 s_a0_1)) 90) :: L) (fun _ => (fun (i9, k9, y10) => rangeM (lane_CheckTo_B1 a0) k9 i9 y10 = some ol9 ∧ i9 + k9 = a0.Early.length)) (fun (i9, k9, y10) => k9) (0, a0.Early.length, a0.Next) ⟨rfl, rfl, rfl, rfl, rfl, trivial⟩ rfl ⟨H, by omega⟩ ?_
 rintro F11 ⟨i9, k9, y10⟩ hF12 ⟨H, hik9⟩
 refine Cd.as (e' := [(1, pv b1 0), (3, iv y10), (19, Sl.v s_a0_1), (20, iv (a0.Early.length : Int)), (21, iv (i9 : Int))]) (L' := (.blk b1 (enc (ToR.mk a0 s_a0_1)) 90) :: L) ⟨rfl, rfl, rfl, rfl, rfl, trivial⟩ rfl ?_
 rcases k9 with _ | k9
 ·have hc9 : decide ((i9 : Int) < (a0.Early.length : Int)) = false := decide_eq_false (by omega)
  replace H := rangeM_end H
  refine sr0 ?_
  refine Lst.r (Ev.lss rfl rfl) ?_
  refine nt0 ?_
  refine Cd.seq ?_
  refine Cd.condF rfl hc9 ?_
  refine Cd.exit ?_
  refine At.then_exit ?_
  refine At.then_exit ?_
  refine At.in_exit ?_
  subst H
  replace H := HKl9
  refine At.then ?_
  refine sr0 ?_
  refine Lst.r (Ev.assign rfl) ?_
  refine nt0 ?_
  obtain rfl := some_inj H
  refine Cd.ret ?_
  exact At.ret1 rfl (Res.tmp rfl) hF12 (sc1 (.refl _)) ⟨rfl, rfl⟩
 have hc9 : decide ((i9 : Int) < (a0.Early.length : Int)) = true := decide_eq_true (by omega)
 obtain ⟨c9, H, hgo9, hbrk9, hret9⟩ := rangeM_go H
 unfold lane_CheckTo_B1 at H
 try dsimp only at H
 refine sr0 ?_
 refine Lst.r (Ev.lss rfl rfl) ?_
 refine nt0 ?_
 refine Cd.seq ?_
 refine Cd.condT rfl hc9 ?_
 refine Cd.skip ?_
 refine At.then ?_
 refine Cd.seq ?_
 refine Cd.block ?_
 refine sr0 ?_
 obtain ⟨x13, h14, H⟩ := bind_some H
 have g15 := lat_some h14
 refine Lst.r (Ev.indexS (α := Parcel) (xs := a0.Early) rfl rfl Try.runUnderlying88 Try.sizeOf92 rfl (by decide) (hs_a0_1.mono hF12 (sc1 hM)) g15.1 g15.2.1) ?_
 refine Lst.r (Ev.loadSA (α := Parcel) rfl (hs_a0_1.mono hF12 (sc1 hM)) Try.isAgg92 Try.sizeOf92 (ch := enc x13) (Enc.len _) (by decide) ((Get.elemN (s := 2) (x := x13) rfl g15.2.2 gh0).off (by omega))) ?_
 refine Lst.alloc (cs := enc Parcel.zero) rfl rfl (by decide) Try.zeroValue92 rfl (fun b16 => ?_)
 refine Lst.store (i := 0) rfl rfl rfl rfl rfl Try.sizeOf92 (vs := enc x13) rfl (Enc.len _) (Enc.one _) (cs' := enc x13) (Put.here ((Enc.len _).trans (Enc.len _).symm)) (L' := (.blk b16 (enc x13) 92) :: (.blk b1 (enc (ToR.mk a0 s_a0_1)) 90) :: L) rfl ?_
 refine nt0 ?_
 refine Cd.seq ?_
 refine sr0 ?_
 refine Lst.r (Ev.fieldAddr (off' := 0) rfl Try.runUnderlying92 rfl Try.sizeOf3 rfl rfl) ?_
 refine Lst.r (Ev.load (i := 0) rfl rfl Try.isAgg3 (v := iv x13.Seq) ((Parcel.get_Seq gh0).off (by rfl))) ?_
 refine mv0 rfl ?_
 refine Lst.r (Ev.leq rfl rfl) ?_
 refine mv0 rfl ?_
 obtain ⟨o18, H, HKo18⟩ := bind_some H
 refine Lst.join (σ := Bool) 7 (fun y19 => [(1, pv b1 0), (3, iv y10), (5, pv b16 0), (19, Sl.v s_a0_1), (20, iv (a0.Early.length : Int)), (21, iv (i9 : Int)), (36, .bool y19)]) (fun y19 => (.blk b16 (enc x13) 92) :: (.blk b1 (enc (ToR.mk a0 s_a0_1)) 90) :: L) (fun _ y19 => y19 = o18) ?_ ?_
 ·rcases Bool.eq_false_or_eq_true (decide (x13.Seq ≤ y10)) with hb20 | hb20
  ·replace H := ite_t hb20 H
   refine Lst.skip rfl rfl rfl hb20 rfl (by decide) ?_
   refine Lst.skip rfl rfl rfl hb20 rfl (by decide) ?_
   refine Lst.skip rfl rfl rfl hb20 rfl (by decide) ?_
   refine Lst.skip rfl rfl rfl hb20 rfl (by decide) ?_
   refine Lst.skip rfl rfl rfl hb20 rfl (by decide) ?_
   refine Lst.skip rfl rfl rfl hb20 rfl (by decide) ?_
   refine Lst.r (Ev.pickT rfl hb20 rfl) ?_
   refine Lst.nil ?_
   exact At.meet true fl ⟨rfl, rfl, rfl, rfl, rfl, rfl, rfl, trivial⟩ rfl (some_inj H)
  replace H := ite_f hb20 H
  refine Lst.rG hb20 (Ev.fieldAddr (off' := 0) rfl Try.runUnderlying92 rfl Try.sizeOf3 rfl rfl) ?_
  refine Lst.rG hb20 (Ev.load (i := 0) rfl rfl Try.isAgg3 (v := iv x13.Seq) ((Parcel.get_Seq gh0).off (by rfl))) ?_
  refine Lst.rG hb20 (Ev.fieldAddr (off' := 0) rfl Try.runUnderlying90 rfl Try.sizeOf3 rfl rfl) ?_
  refine Lst.rG hb20 (Ev.load (i := 1) rfl rfl Try.isAgg3 (v := iv a0.Next) ((ToR.get_Next gh0).off (by rfl))) ?_
  refine Lst.rG hb20 (Ev.add rfl rfl) ?_
  refine Lst.rG hb20 (Ev.geq rfl rfl) ?_
  refine Lst.r (Ev.pickF rfl hb20 rfl) ?_
  refine Lst.nil ?_
  exact At.meet (decide (x13.Seq ≥ (w64 (a0.Next + (16 : Int))))) fl ⟨rfl, rfl, rfl, rfl, rfl, rfl, rfl, trivial⟩ rfl (some_inj H)
 rintro F21 y19 hF22 hy
 subst hy
 refine Lst.as (e' := [(1, pv b1 0), (3, iv y10), (5, pv b16 0), (19, Sl.v s_a0_1), (20, iv (a0.Early.length : Int)), (21, iv (i9 : Int)), (36, .bool y19)]) (L' := (.blk b16 (enc x13) 92) :: (.blk b1 (enc (ToR.mk a0 s_a0_1)) 90) :: L) ⟨rfl, rfl, rfl, rfl, rfl, rfl, rfl, trivial⟩ rfl ?_
 replace H := HKo18
 refine mv0 rfl ?_
 obtain ⟨o23, H, HKo23⟩ := bind_some H
 refine Lst.join (σ := Bool) 4 (fun y24 => [(1, pv b1 0), (3, iv y10), (5, pv b16 0), (19, Sl.v s_a0_1), (20, iv (a0.Early.length : Int)), (21, iv (i9 : Int)), (41, .bool y24)]) (fun y24 => (.blk b16 (enc x13) 92) :: (.blk b1 (enc (ToR.mk a0 s_a0_1)) 90) :: L) (fun _ y24 => y24 = o23) ?_ ?_
 ·rcases Bool.eq_false_or_eq_true y19 with hb25 | hb25
  ·replace H := ite_t hb25 H
   refine Lst.skip rfl rfl rfl hb25 rfl (by decide) ?_
   refine Lst.skip rfl rfl rfl hb25 rfl (by decide) ?_
   refine Lst.skip rfl rfl rfl hb25 rfl (by decide) ?_
   refine Lst.r (Ev.pickT rfl hb25 rfl) ?_
   refine Lst.nil ?_
   exact At.meet true fl ⟨rfl, rfl, rfl, rfl, rfl, rfl, rfl, trivial⟩ rfl (some_inj H)
  replace H := ite_f hb25 H
  refine Lst.rG hb25 (Ev.fieldAddr (off' := 1) rfl Try.runUnderlying92 rfl Try.sizeOf9 rfl rfl) ?_
  refine Lst.rG hb25 (Ev.load (i := 0) rfl rfl Try.isAgg9 (v := Str.v x13.Text) ((Parcel.get_Text gh0).off (by rfl))) ?_
  obtain ⟨r26, h27, H⟩ := bind_some H
  refine Lst.call1G rfl rfl rfl hb25 rfl (by decide) (vs := [Str.v x13.Text]) ⟨rfl, trivial⟩ Try.call139 (lane_long_sim h27 w0 _ M _ (sc2 hM)) ?_
  refine Lst.r (Ev.pickF rfl hb25 rfl) ?_
  refine Lst.nil ?_
  exact At.meet r26 fl ⟨rfl, rfl, rfl, rfl, rfl, rfl, rfl, trivial⟩ rfl (some_inj H)
 rintro F30 y24 hF31 hy
 subst hy
 refine Lst.as (e' := [(1, pv b1 0), (3, iv y10), (5, pv b16 0), (19, Sl.v s_a0_1), (20, iv (a0.Early.length : Int)), (21, iv (i9 : Int)), (41, .bool y24)]) (L' := (.blk b16 (enc x13) 92) :: (.blk b1 (enc (ToR.mk a0 s_a0_1)) 90) :: L) ⟨rfl, rfl, rfl, rfl, rfl, rfl, rfl, trivial⟩ rfl ?_
 replace H := HKo23
 refine nt0 ?_
 rcases Bool.eq_false_or_eq_true y24 with hb32 | hb32
 ·replace H := ite_t hb32 H
  refine Cd.condT rfl hb32 ?_
  refine sr0 ?_
  refine Lst.r (Ev.assign rfl) ?_
  refine nt0 ?_
  have H := hret9 _ (some_inj H).symm
  subst H
  replace H := HKl9
  obtain rfl := some_inj H
  refine Cd.ret ?_
  refine At.then_ret ?_
  refine At.in_ret ?_
  refine At.then_ret ?_
  refine At.then_ret ?_
  refine At.in_ret ?_
  refine At.then_ret ?_
  exact At.ret1 rfl (Res.tmp rfl) (FLe.trans (FLe.trans hF12 hF22) hF31) (sc1 (sc1 (.refl _))) ⟨rfl, rfl⟩
 replace H := ite_f hb32 H
 refine Cd.condF rfl hb32 ?_
 refine Cd.skip ?_
 refine At.then ?_
 refine Cd.region ?_
 refine Lst.r (Ev.fieldAddr (off' := 0) rfl Try.runUnderlying92 rfl Try.sizeOf3 rfl rfl) ?_
 refine Lst.r (Ev.load (i := 0) rfl rfl Try.isAgg3 (v := iv x13.Seq) ((Parcel.get_Seq gh0).off (by rfl))) ?_
 refine Lst.r (Ev.assign rfl) ?_
 refine Lst.nil ?_
 refine At.in_normal ?_
 refine At.then ?_
 refine Cd.region ?_
 refine Lst.r (Ev.incr (by omega) rfl rfl) ?_
 refine mv0 rfl ?_
 refine Lst.nil ?_
 refine At.less (L' := (.blk b1 (enc (ToR.mk a0 s_a0_1)) 90) :: L) (sc1 (sk1 (.refl _))) ?_
 exact At.meet (i9 + 1, k9, x13.Seq) (FLe.trans (FLe.trans hF12 hF22) hF31) ⟨rfl, rfl, rfl, rfl, rfl, trivial⟩ rfl ⟨⟨hgo9 _ (some_inj H).symm, by omega⟩, Nat.lt_succ_self _⟩
set_option maxRecDepth 20000 in
theorem slices_Clone_api_Parcel_api_Parcel_sim {a0 : List Parcel} {s_a0 : Sl} {r : (List Parcel)} (H : slices_Clone_api_Parcel_api_Parcel a0 = some r) (w0 : World) (F : Frz) (M L : List Item) (hM : M.Sublist L) (hs_a0 : Rd w0 F M s_a0 a0) : Ok Try.prog w0 140 [Sl.v s_a0] F (L) (fun _ L' v => ∃ (s1 : Sl), v = Sl.v s1 ∧ L' = (.own s1 92 2 (encs r)) :: L) := by
 unfold slices_Clone_api_Parcel_api_Parcel at H
 refine Ok.enter (m := 1) (n := 8) Try.func140 rfl rfl rfl (by decide) ?_
 refine Cd.env (e' := [(0, Sl.v s_a0)]) rfl ?_
 refine sr0 ?_
 refine Lst.addNil 92 2 ?_
 refine Lst.r (Ev.assign rfl) ?_
 refine nt0 ?_
 refine Cd.seq ?_
 refine sr0 ?_
 refine mv0 rfl ?_
 refine Lst.r (Ev.eqlNil rfl Try.runUnderlying88) ?_
 refine nt0 ?_
 rcases Bool.eq_false_or_eq_true ((Sl.a s_a0).isNone) with hb2 | hb2
 ·refine Cd.bound (Rd.isNil (α := Parcel) (by decide) (hs_a0.mono fl (sc1 hM)) hb2) (fun hx9 => ?_)
  rw [clone_nil hx9] at H
  refine Cd.condT rfl hb2 ?_
  refine sr0 ?_
  refine Lst.addNil 92 2 ?_
  refine Lst.r (Ev.assign rfl) ?_
  refine nt0 ?_
  obtain rfl := some_inj H
  refine Cd.ret ?_
  refine At.then_ret ?_
  exact At.ret1 rfl (Res.tmp rfl) fl (sk1 (sc1 (.refl _))) ⟨Sl.nil, rfl, rfl⟩
 refine Cd.condF rfl hb2 ?_
 refine Cd.skip ?_
 refine At.then ?_
 refine sr0 ?_
 refine Lst.buildSlice0 rfl rfl (by decide) Try.runUnderlying88 Try.sizeOf92 (fun s3 => ?_)
 refine Lst.its (L' := (.own s3 92 2 (encs ([] : List Parcel))) :: (.own Sl.nil 92 2 (encs ([] : List Parcel))) :: L) rfl ?_
 refine mv0 rfl ?_
 obtain ⟨u5, h6, H⟩ := bind_some H
 refine Lst.append (i := 0) (α := Parcel) (xs := ([] : List Parcel)) (ys := a0) rfl rfl (by decide) rfl rfl Try.runUnderlying88 Try.typeInfo92 rfl rfl rfl rfl rfl rfl (hs_a0.mono fl (sc2 hM)) rfl (room_some h6) rfl (fun s7 => ?_)
 refine Lst.its (L' := (.own s7 92 2 (encs (([] : List Parcel) ++ a0))) :: (.own Sl.nil 92 2 (encs ([] : List Parcel))) :: L) rfl ?_
 refine Lst.r (Ev.assign rfl) ?_
 refine nt0 ?_
 obtain rfl := some_inj H
 refine Cd.ret ?_
 exact At.ret1 rfl (Res.tmp rfl) fl (sk1 (sc1 (.refl _))) ⟨s7, rfl, rfl⟩
set_option maxRecDepth 20000 in
theorem lane_Take_1_sim {a0 : Parcel} {a1 : Int} {r : Int} (H : lane_Take_1 a0 a1 = some r) (w0 : World) (F : Frz) (M L : List Item) (hM : M.Sublist L) : Ok Try.prog w0 142 [.agg (enc a0).toArray, iv a1] F (L) (Is (iv r) (L)) := by
 unfold lane_Take_1 at H
 refine Ok.enter (m := 2) (n := 9) Try.func142 rfl rfl rfl (by decide) ?_
 refine Cd.env (e' := [(0, .agg (enc a0).toArray), (1, iv a1)]) rfl ?_
 refine sr0 ?_
 refine Lst.box rfl rfl (by decide) rfl (cs := enc a0) rfl (fun b1 => ?_)
 refine Lst.r (Ev.assign rfl) ?_
 refine nsr ?_
 refine Lst.r (Ev.fieldAddr (off' := 0) rfl Try.runUnderlying92 rfl Try.sizeOf3 rfl rfl) ?_
 refine Lst.r (Ev.load (i := 0) rfl rfl Try.isAgg3 (v := iv a0.Seq) ((Parcel.get_Seq gh0).off (by rfl))) ?_
 refine mv0 rfl ?_
 refine Lst.r (Ev.sub rfl rfl) ?_
 refine Lst.r (Ev.assign rfl) ?_
 refine nt0 ?_
 obtain rfl := some_inj H
 refine Cd.ret ?_
 exact At.ret1 rfl (Res.tmp rfl) fl (sc1 (.refl _)) ⟨rfl, rfl⟩
set_option maxRecDepth 20000 in
theorem slices_BinarySearchFunc_api_Parcel_api_Parcel_int_Take_1_sim {fu : Nat} {a0 : List Parcel} {a1 : Int} {s_a0 : Sl} {r : Int × Bool} (H : slices_BinarySearchFunc_api_Parcel_api_Parcel_int_Take_1 fu a0 a1 = some r) (w0 : World) (F : Frz) (M L : List Item) (hM : M.Sublist L) (hs_a0 : Rd w0 F M s_a0 a0) : Ok Try.prog w0 141 [Sl.v s_a0, iv a1, .func (.func 142) #[] #[]] F (L) (Is (.tuple #[iv r.1, .bool r.2]) (L)) := by
 unfold slices_BinarySearchFunc_api_Parcel_api_Parcel_int_Take_1 at H
 refine Ok.enter (m := 3) (n := 49) Try.func141 rfl rfl rfl (by decide) ?_
 refine Cd.env (e' := [(0, Sl.v s_a0), (1, iv a1), (2, .func (.func 142) #[] #[])]) rfl ?_
 refine sr0 ?_
 refine Lst.r (Ev.assign rfl) ?_
 refine Lst.r (Ev.assign rfl) ?_
 refine nsr ?_
 refine mv0 rfl ?_
 refine Lst.r (Ev.lenS (α := Parcel) (xs := a0) (by decide) rfl rfl Try.runUnderlying88 (hs_a0.mono fl hM)) ?_
 refine Lst.r (Ev.assign rfl) ?_
 refine nsr ?_
 refine mv0 rfl ?_
 refine Lst.r (Ev.assign rfl) ?_
 refine Lst.r (Ev.assign rfl) ?_
 refine nt0 ?_
 refine Cd.seq ?_
 refine Cd.block ?_
 obtain ⟨ol1, H, HKl1⟩ := andThen_some H
 refine Cd.loop (σ := Nat × Int × Int) (fun (k1, y2, y3) => [(0, Sl.v s_a0), (1, iv a1), (2, .func (.func 142) #[] #[]), (8, iv (a0.length : Int)), (9, iv y2), (10, iv y3)]) (fun (k1, y2, y3) => L) (fun _ => (fun (k1, y2, y3) => whileM (slices_BinarySearchFunc_api_Parcel_api_Parcel_int_Take_1_B0 a0 a1) k1 (y2, y3) = some ol1)) (fun (k1, y2, y3) => k1) (fu, (0 : Int), (a0.length : Int)) ⟨rfl, rfl, rfl, rfl, rfl, rfl, trivial⟩ rfl H ?_
 rintro F4 ⟨k1, y2, y3⟩ hF5 H
 refine Cd.as (e' := [(0, Sl.v s_a0), (1, iv a1), (2, .func (.func 142) #[] #[]), (8, iv (a0.length : Int)), (9, iv y2), (10, iv y3)]) (L' := L) ⟨rfl, rfl, rfl, rfl, rfl, rfl, trivial⟩ rfl ?_
 rcases k1 with _ | k1
 ·cases H
 obtain ⟨c1, H, hgo1, hbrk1, hret1⟩ := whileM_go H
 unfold slices_BinarySearchFunc_api_Parcel_api_Parcel_int_Take_1_B0 at H
 try dsimp only at H
 refine Cd.seq ?_
 refine sr0 ?_
 refine mv0 rfl ?_
 refine mv0 rfl ?_
 refine Lst.r (Ev.lss rfl rfl) ?_
 refine nt0 ?_
 rcases (Bool.eq_false_or_eq_true (decide (y2 < y3))).symm with hb6 | hb6
 ·replace H := ite_f hb6 H
  refine Cd.condF rfl hb6 ?_
  refine Cd.exit ?_
  refine At.then_exit ?_
  refine At.then_exit ?_
  refine At.in_exit ?_
  have H := hbrk1 _ (some_inj H).symm
  subst H
  replace H := HKl1
  refine At.then ?_
  refine sr0 ?_
  refine mv0 rfl ?_
  refine mv0 rfl ?_
  refine mv0 rfl ?_
  refine Lst.r (Ev.lss rfl rfl) ?_
  refine mv0 rfl ?_
  obtain ⟨o7, H, HKo7⟩ := bind_some H
  refine Lst.join (σ := Bool) 9 (fun y8 => [(35, iv y2), (48, .bool y8)]) (fun y8 => L) (fun _ y8 => y8 = o7) ?_ ?_
  ·rcases (Bool.eq_false_or_eq_true (decide (y2 < (a0.length : Int)))).symm with hb9 | hb9
   ·replace H := ite_f hb9 H
    refine Lst.skip rfl rfl rfl hb9 rfl (by decide) ?_
    refine Lst.skip rfl rfl rfl hb9 rfl (by decide) ?_
    refine Lst.skip rfl rfl rfl hb9 rfl (by decide) ?_
    refine Lst.skip rfl rfl rfl hb9 rfl (by decide) ?_
    refine Lst.skip rfl rfl rfl hb9 rfl (by decide) ?_
    refine Lst.skip rfl rfl rfl hb9 rfl (by decide) ?_
    refine Lst.skip rfl rfl rfl hb9 rfl (by decide) ?_
    refine Lst.skip rfl rfl rfl hb9 rfl (by decide) ?_
    refine Lst.r (Ev.pickF rfl hb9 rfl) ?_
    refine Lst.nil ?_
    exact At.meet false fl ⟨rfl, rfl, trivial⟩ rfl (some_inj H)
   replace H := ite_t hb9 H
   refine Lst.rG hb9 (Ev.move rfl) ?_
   refine Lst.rG hb9 (Ev.move rfl) ?_
   refine Lst.rG hb9 (Ev.move rfl) ?_
   obtain ⟨x10, h11, H⟩ := bind_some H
   have g12 := lat_some h11
   refine Lst.rG hb9 (Ev.indexS (α := Parcel) (xs := a0) rfl rfl Try.runUnderlying88 Try.sizeOf92 rfl (by decide) (hs_a0.mono hF5 hM) g12.1 g12.2.1) ?_
   refine Lst.rG hb9 (Ev.loadSA (α := Parcel) rfl (hs_a0.mono hF5 hM) Try.isAgg92 Try.sizeOf92 (ch := enc x10) (Enc.len _) (by decide) ((Get.elemN (s := 2) (x := x10) rfl g12.2.2 gh0).off (by omega))) ?_
   refine Lst.rG hb9 (Ev.move rfl) ?_
   obtain ⟨r13, h14, H⟩ := bind_some H
   refine Lst.callV1G rfl rfl rfl hb9 rfl (by decide) (vs := [.agg (enc x10).toArray, iv a1]) (cs := []) rfl ⟨rfl, rfl, trivial⟩ Try.call142 (lane_Take_1_sim h14 w0 _ M _ hM) ?_
   refine Lst.rG hb9 (Ev.eql rfl rfl) ?_
   refine Lst.r (Ev.pickT rfl hb9 rfl) ?_
   refine Lst.nil ?_
   exact At.meet (r13 == (0 : Int)) fl ⟨rfl, rfl, trivial⟩ rfl (some_inj H)
  rintro F17 y8 hF18 hy
  subst hy
  refine Lst.as (e' := [(35, iv y2), (48, .bool y8)]) (L' := L) ⟨rfl, rfl, trivial⟩ rfl ?_
  replace H := HKo7
  refine Lst.r (Ev.assign rfl) ?_
  refine Lst.r (Ev.assign rfl) ?_
  refine nt0 ?_
  obtain rfl := some_inj H
  refine Cd.ret ?_
  exact At.ret2 rfl (Res.tmp rfl) (Res.tmp rfl) (FLe.trans hF5 hF18) (.refl _) ⟨rfl, rfl⟩
 replace H := ite_t hb6 H
 refine Cd.condT rfl hb6 ?_
 refine Cd.skip ?_
 refine At.then ?_
 refine Cd.block ?_
 refine sr0 ?_
 refine mv0 rfl ?_
 refine mv0 rfl ?_
 refine Lst.r (Ev.add rfl rfl) ?_
 refine Lst.r (Ev.convTo64 rfl Try.runUnderlying3 Try.runUnderlying142) ?_
 refine Lst.r (Ev.shrU64 (i := BitVec.ofInt 64 (w64 (y2 + y3))) (m := 1) rfl rfl) ?_
 refine Lst.r (Ev.conv64 rfl Try.runUnderlying142 Try.runUnderlying3) ?_
 refine Lst.r (Ev.assign rfl) ?_
 refine nsr ?_
 refine mv0 rfl ?_
 refine mv0 rfl ?_
 refine mv0 rfl ?_
 obtain ⟨x19, h20, H⟩ := bind_some H
 have g21 := lat_some h20
 refine Lst.r (Ev.indexS (α := Parcel) (xs := a0) rfl rfl Try.runUnderlying88 Try.sizeOf92 rfl (by decide) (hs_a0.mono hF5 hM) g21.1 g21.2.1) ?_
 refine Lst.r (Ev.loadSA (α := Parcel) rfl (hs_a0.mono hF5 hM) Try.isAgg92 Try.sizeOf92 (ch := enc x19) (Enc.len _) (by decide) ((Get.elemN (s := 2) (x := x19) rfl g21.2.2 gh0).off (by omega))) ?_
 refine mv0 rfl ?_
 obtain ⟨r22, h23, H⟩ := bind_some H
 refine Lst.callV1 rfl rfl (by decide) (vs := [.agg (enc x19).toArray, iv a1]) (cs := []) rfl ⟨rfl, rfl, trivial⟩ Try.call142 (lane_Take_1_sim h23 w0 _ M _ hM) ?_
 refine Lst.r (Ev.lss rfl rfl) ?_
 refine nt0 ?_
 rcases (Bool.eq_false_or_eq_true (decide (r22 < (0 : Int)))).symm with hb26 | hb26
 ·replace H := ite_f hb26 H
  refine Cd.condF rfl hb26 ?_
  refine Cd.as (e' := [(0, Sl.v s_a0), (1, iv a1), (2, .func (.func 142) #[] #[]), (8, iv (a0.length : Int)), (9, iv y2), (11, iv (w64 (((BitVec.ofInt 64 (w64 (y2 + y3))) >>> 1).toNat : Int)))]) (L' := L) ⟨rfl, rfl, rfl, rfl, rfl, rfl, trivial⟩ rfl ?_
  refine Cd.region ?_
  refine mv0 rfl ?_
  refine Lst.r (Ev.assign rfl) ?_
  refine Lst.nil ?_
  refine At.in_normal ?_
  exact At.meet (k1, y2, w64 (((BitVec.ofInt 64 (w64 (y2 + y3))) >>> 1).toNat : Int)) hF5 ⟨rfl, rfl, rfl, rfl, rfl, rfl, trivial⟩ rfl ⟨hgo1 _ (some_inj H).symm, Nat.lt_succ_self _⟩
 replace H := ite_t hb26 H
 refine Cd.condT rfl hb26 ?_
 refine Cd.as (e' := [(0, Sl.v s_a0), (1, iv a1), (2, .func (.func 142) #[] #[]), (8, iv (a0.length : Int)), (10, iv y3), (11, iv (w64 (((BitVec.ofInt 64 (w64 (y2 + y3))) >>> 1).toNat : Int)))]) (L' := L) ⟨rfl, rfl, rfl, rfl, rfl, rfl, trivial⟩ rfl ?_
 refine Cd.region ?_
 refine mv0 rfl ?_
 refine Lst.r (Ev.add rfl rfl) ?_
 refine Lst.r (Ev.assign rfl) ?_
 refine Lst.nil ?_
 refine At.in_normal ?_
 exact At.meet (k1, w64 ((w64 (((BitVec.ofInt 64 (w64 (y2 + y3))) >>> 1).toNat : Int)) + (1 : Int)), y3) hF5 ⟨rfl, rfl, rfl, rfl, rfl, rfl, trivial⟩ rfl ⟨hgo1 _ (some_inj H).symm, Nat.lt_succ_self _⟩
set_option maxRecDepth 20000 in
theorem slices_Insert_api_Parcel_api_Parcel_sim {a0 : List Parcel} {a1 : Int} {a2 : List Parcel} {s0 s2 : Sl} {r : List Parcel} (H : slices_Insert_api_Parcel_api_Parcel a0 a1 a2 = some r) (w0 : World) (F : Frz) (M L : List Item) (hM : M.Sublist L) : Ok Try.prog w0 143 [Sl.v s0, iv a1, Sl.v s2] F ((.own s0 92 2 (encs a0)) :: (.own s2 92 2 (encs a2)) :: L) (fun _ L' v => ∃ (s1 : Sl), v = Sl.v s1 ∧ L' = (.own s1 92 2 (encs r)) :: L) := by
 unfold slices_Insert_api_Parcel_api_Parcel at H
 obtain ⟨m1, h1, H⟩ := bind_some H
 obtain ⟨u1, h2, H⟩ := bind_some H
 replace H := some_inj H
 have g := (cutL_some h1).1
 have hro := room_some h2
 obtain ⟨i, rfl⟩ := Int.eq_ofNat_of_zero_le g.1
 have hi : i ≤ a0.length := by omega
 rw [Int.toNat_natCast] at H
 refine Ok.enter (m := 3) (n := 95) Try.func143 rfl rfl rfl (by decide) ?_
 refine Cd.env (e' := [(0, Sl.v s0), (1, iv (i : Int)), (2, Sl.v s2)]) rfl ?_
 refine Cd.seq ?_
 refine Cd.region ?_
 refine Lst.capOwn (α := Parcel) (i := 0) (xs := a0) rfl rfl rfl (by decide) (fun hl0 hc0 => ?_)
 refine Lst.capOwn (α := Parcel) (i := 1) (xs := a2) rfl rfl rfl (by decide) (fun hl2 hc2 => ?_)
 refine Lst.r (Ev.assign rfl) ?_
 refine Lst.nil ?_
 refine At.then ?_
 refine Cd.seq ?_
 refine Cd.region ?_
 refine Lst.r (Ev.move rfl) ?_
 refine Lst.r (Ev.move rfl) ?_
 refine Lst.r (Ev.cut (α := Parcel) (xs := a0) (i := (i : Int)) (j := (a0.length : Int)) rfl rfl rfl Try.runUnderlying88 Try.sizeOf92 rfl (by decide) (Rd.own (i := 0) rfl rfl rfl) g.1 g.2.1 g.2.2) ?_
 refine Lst.nil ?_
 refine At.then ?_
 refine Cd.seq ?_
 refine Cd.region ?_
 refine Lst.r (Ev.move rfl) ?_
 refine Lst.r (Ev.lenS (α := Parcel) (xs := a2) (by decide) rfl rfl Try.runUnderlying88 (Rd.own (i := 1) rfl rfl rfl)) ?_
 refine Lst.r (Ev.assign rfl) ?_
 refine Lst.nil ?_
 refine At.then ?_
 refine Cd.seq ?_
 refine Cd.seq ?_
 refine Cd.region ?_
 refine Lst.r (Ev.move rfl) ?_
 refine Lst.r (Ev.eql rfl rfl) ?_
 refine Lst.nil ?_
 refine At.then ?_
 rcases Bool.eq_false_or_eq_true ((a2.length : Int) == (0 : Int)) with hb | hb
 ·refine Cd.condT rfl hb ?_
  refine Cd.seq ?_
  refine Cd.region ?_
  refine Lst.r (Ev.move rfl) ?_
  refine Lst.r (Ev.assign rfl) ?_
  refine Lst.nil ?_
  refine At.then ?_
  refine Cd.ret ?_
  repeat refine At.then_ret ?_
  have e0 : r = a0 := by
    have : a2 = [] := List.length_eq_zero_iff.1 (by simpa using hb)
    rw [← H, this]; simp
  exact At.ret1 (L' := (.own s0 92 2 (encs a0)) :: L) rfl (Res.tmp rfl) (FLe.refl _) (sk1 (sc1 (.refl _))) ⟨s0, rfl, by rw [e0]⟩
 refine Cd.condF rfl hb ?_
 refine Cd.skip ?_
 refine At.then ?_
 have hm : 0 < a2.length := Nat.pos_of_ne_zero fun h => by rw [h] at hb; cases hb
 refine Cd.seq ?_
 refine Cd.region ?_
 refine Lst.r (Ev.move rfl) ?_
 refine Lst.r (Ev.lenS (α := Parcel) (xs := a0) (by decide) rfl rfl Try.runUnderlying88 (Rd.own (i := 0) rfl rfl rfl)) ?_
 refine Lst.r (Ev.assign rfl) ?_
 refine Lst.nil ?_
 refine At.then ?_
 refine Cd.seq ?_
 refine Cd.seq ?_
 refine Cd.region ?_
 refine Lst.r (Ev.move rfl) ?_
 refine Lst.r (Ev.move rfl) ?_
 refine Lst.r (Ev.eql rfl rfl) ?_
 refine Lst.nil ?_
 refine At.then ?_
 rcases Bool.eq_false_or_eq_true ((i : Int) == (a0.length : Int)) with hb2 | hb2
 ·refine Cd.condT rfl hb2 ?_
  refine Cd.seq ?_
  refine Cd.region ?_
  refine Lst.r (Ev.move rfl) ?_
  refine Lst.r (Ev.move rfl) ?_
  refine Lst.append (i := 0) (α := Parcel) (xs := a0) (ys := a2) rfl rfl (by decide) rfl rfl Try.runUnderlying88 Try.typeInfo92 rfl rfl rfl rfl rfl rfl (Rd.own (i := 1) rfl rfl rfl) rfl hro rfl (fun s' => ?_)
  refine Lst.its (L' := (.own s' 92 2 (encs (a0 ++ a2))) :: (.own s2 92 2 (encs a2)) :: L) rfl ?_
  refine Lst.r (Ev.assign rfl) ?_
  refine Lst.nil ?_
  refine At.then ?_
  refine Cd.ret ?_
  repeat refine At.then_ret ?_
  have e0 : r = a0 ++ a2 := by
    have : i = a0.length := by have := beq_iff_eq.1 hb2; omega
    rw [← H, this]; simp
  exact At.ret1 (L' := (.own s' 92 2 (encs (a0 ++ a2))) :: L) rfl (Res.tmp rfl) (FLe.refl _) (sk1 (sc1 (.refl _))) ⟨s', rfl, by rw [e0]⟩
 refine Cd.condF rfl hb2 ?_
 refine Cd.skip ?_
 refine At.then ?_
 have hin : i < a0.length := by
   have : i ≠ a0.length := fun h => by rw [h] at hb2; simp at hb2
   omega
 refine Cd.seq ?_
 refine Cd.seq ?_
 refine Cd.region ?_
 refine Lst.r (Ev.move rfl) ?_
 refine Lst.r (Ev.move rfl) ?_
 refine Lst.r (Ev.add rfl rfl) ?_
 refine Lst.r (Ev.move rfl) ?_
 refine Lst.r (Ev.capS rfl rfl Try.runUnderlying88) ?_
 refine Lst.r (Ev.gtr rfl rfl) ?_
 refine Lst.nil ?_
 refine At.then ?_
 have ws : w64 ((a0.length : Int) + (a2.length : Int)) = ((a0.length + a2.length : Nat) : Int) := by rw [w64_id (by omega) (by omega)]; rfl
 have wim : w64 ((i : Int) + (a2.length : Int)) = ((i + a2.length : Nat) : Int) := by rw [w64_id (by omega) (by omega)]; rfl
 rcases Bool.eq_false_or_eq_true (decide (w64 ((a0.length : Int) + (a2.length : Int)) > (s0.cap : Int))) with hb3 | hb3
 ·refine Cd.condT rfl hb3 ?_
  have hgr : s0.cap < a0.length + a2.length := by rw [ws] at hb3; have := of_decide_eq_true hb3; omega
  have wk : w64 (w64 ((a0.length : Int) + (a2.length : Int)) - (i : Int)) = ((a0.length + a2.length - i : Nat) : Int) := by rw [ws, w64_id (by omega) (by omega)]; omega
  refine Cd.seq ?_
  refine Cd.region ?_
  refine Lst.r (Ev.move rfl) ?_
  refine Lst.r (Ev.move rfl) ?_
  refine Lst.r (Ev.cut (α := Parcel) (xs := a0) (i := 0) (j := (i : Int)) rfl rfl rfl Try.runUnderlying88 Try.sizeOf92 rfl (by decide) (Rd.own (i := 0) rfl rfl rfl) (by omega) (by omega) (by omega)) ?_
  refine Lst.r (Ev.move rfl) ?_
  refine Lst.r (Ev.move rfl) ?_
  refine Lst.r (Ev.add rfl rfl) ?_
  refine Lst.r (Ev.move rfl) ?_
  refine Lst.r (Ev.sub rfl rfl) ?_
  refine Lst.appendGrow (α := Parcel) (j := 0) (i := i) (k := a0.length + a2.length - i) (xs := a0) Parcel.zero rfl rfl (by decide) rfl (congrArg some (congrArg (Value.int .i64) wk)) Try.runUnderlying88 Try.runUnderlying3 Try.typeInfo92 rfl rfl rfl rfl rfl (by omega) rfl rfl rfl hi (by omega) (fun s' => ?_)
  have hfin := insert_grow (ys := a2) (z := Parcel.zero) hi
  have hX1l : (a0.take i ++ List.replicate (a0.length + a2.length - i) Parcel.zero).length = a0.length + a2.length := by simp; omega
  generalize hX1 : a0.take i ++ List.replicate (a0.length + a2.length - i) Parcel.zero = X1 at hfin hX1l ⊢
  refine Lst.r (Ev.assign rfl) ?_
  refine Lst.nil ?_
  refine At.then ?_
  refine Cd.seq ?_
  refine Cd.region ?_
  refine Lst.r (Ev.move rfl) ?_
  refine Lst.r (Ev.move rfl) ?_
  refine Lst.r (Ev.cut (α := Parcel) (xs := X1) (i := (i : Int)) (j := (X1.length : Int)) rfl rfl rfl Try.runUnderlying88 Try.sizeOf92 rfl (by decide) (Rd.own (i := 0) rfl rfl rfl) (by omega) (by omega) (by omega)) ?_
  refine Lst.r (Ev.move rfl) ?_
  refine Lst.copy (i := 0) (α := Parcel) (lo := i) (hi := X1.length) (xs := X1) (ys := a2) rfl rfl (by decide) rfl rfl Try.runUnderlying88 Try.sizeOf92 rfl (by decide) rfl rfl (Rd.own (i := 2) rfl rfl rfl) (by omega) (by omega) ?_
  have hX2l := copyL_length (xs := X1) (ys := a2) (lo := i) (hi := X1.length) (by omega) (Nat.le_refl _)
  generalize hX2 : copyL X1 i X1.length a2 = X2 at hfin hX2l ⊢
  refine Lst.its (L' := (.own s' 92 2 (encs X2)) :: (.own s0 92 2 (encs a0)) :: (.own s2 92 2 (encs a2)) :: L) rfl ?_
  refine Lst.nil ?_
  refine At.then ?_
  refine Cd.seq ?_
  refine Cd.tail 8 (by kernel_rfl) (by kernel_rfl) ?_
  refine Qt.r (Ev.move rfl) ?_
  refine Qt.r (Ev.move rfl) ?_
  refine Qt.r (Ev.move rfl) ?_
  refine Qt.r (Ev.add rfl rfl) ?_
  refine Qt.r (Ev.cut (α := Parcel) (xs := X2) (i := (w64 ((i : Int) + (a2.length : Int)))) (j := (X2.length : Int)) rfl rfl rfl Try.runUnderlying88 Try.sizeOf92 rfl (by decide) (Rd.own (i := 0) rfl rfl rfl) (by rw [wim]; omega) (by rw [wim]; omega) (by omega)) ?_
  refine Qt.r (Ev.move rfl) ?_
  refine Qt.r (Ev.move rfl) ?_
  refine Qt.r (Ev.cut (α := Parcel) (xs := a0) (i := (i : Int)) (j := (a0.length : Int)) rfl rfl rfl Try.runUnderlying88 Try.sizeOf92 rfl (by decide) (Rd.own (i := 1) rfl rfl rfl) (by omega) (by omega) (by omega)) ?_
  refine Qt.tail ?_
  have hlo : (w64 ((i : Int) + (a2.length : Int))).toNat = i + a2.length := by rw [wim]; rfl
  refine Lst.copy (i := 0) (α := Parcel) (lo := (w64 ((i : Int) + (a2.length : Int))).toNat) (hi := X2.length) (xs := X2) (ys := a0.drop i) rfl rfl (by decide) rfl rfl Try.runUnderlying88 Try.sizeOf92 rfl (by decide) rfl rfl (Rd.cutEnd (by decide) (Rd.own (i := 1) rfl rfl rfl) hi) (by omega) (by omega) ?_
  refine Lst.its (L' := (.own s' 92 2 (encs (copyL X2 (i + a2.length) X2.length (a0.drop i)))) :: (.own s0 92 2 (encs a0)) :: (.own s2 92 2 (encs a2)) :: L) (by rw [hlo]; rfl) ?_
  refine Lst.nil ?_
  refine At.then ?_
  refine Cd.seq ?_
  refine Cd.region ?_
  refine Lst.r (Ev.move rfl) ?_
  refine Lst.r (Ev.assign rfl) ?_
  refine Lst.nil ?_
  refine At.then ?_
  refine Cd.ret ?_
  repeat refine At.then_ret ?_
  have e0 : r = copyL X2 (i + a2.length) X2.length (a0.drop i) := by rw [hfin, ← H]
  exact At.ret1 (L' := (.own s' 92 2 (encs (copyL X2 (i + a2.length) X2.length (a0.drop i)))) :: L) rfl (Res.tmp rfl) (FLe.refl _) (sk1 (sc1 (sc1 (.refl _)))) ⟨s', rfl, by rw [e0]⟩
 refine Cd.condF rfl hb3 ?_
 refine Cd.skip ?_
 refine At.then ?_
 have hcap : a0.length + a2.length ≤ s0.cap := by rw [ws] at hb3; have := of_decide_eq_false hb3; omega
 refine Cd.seq ?_
 refine Cd.region ?_
 refine Lst.r (Ev.move rfl) ?_
 refine Lst.r (Ev.move rfl) ?_
 refine Lst.r (Ev.move rfl) ?_
 refine Lst.r (Ev.add rfl rfl) ?_
 refine Lst.r (Ev.cutTo rfl rfl ws Try.runUnderlying88 Try.sizeOf92 hcap) ?_
 refine Lst.extend (α := Parcel) (j := 0) (q := a2.length) (xs := a0) rfl rfl rfl (by decide) hcap (by omega) (fun js hjs => ?_)
 refine Lst.r (Ev.assign rfl) ?_
 refine Lst.nil ?_
 refine At.then ?_
 obtain ⟨s1, hs1⟩ : ∃ s1 : Sl, s1 = ⟨s0.a, a0.length + a2.length, s0.cap⟩ := ⟨_, rfl⟩
 rw [← hs1]
 have hl1 : s1.len = a0.length + a2.length := by rw [hs1]
 refine Cd.as (e' := [(0, Sl.v s1), (1, iv (i : Int)), (2, Sl.v s2), (7, iv (a2.length : Int)), (8, iv (a0.length : Int))]) (L' := (.own s1 92 2 (encs a0 ++ js)) :: (.own s2 92 2 (encs a2)) :: L) ⟨rfl, rfl, rfl, rfl, rfl, trivial⟩ rfl ?_
 refine Cd.seq ?_
 refine Cd.seq ?_
 refine Cd.region ?_
 refine Lst.r (Ev.move rfl) ?_
 refine Lst.r (Ev.move rfl) ?_
 refine Lst.r (Ev.move rfl) ?_
 refine Lst.r (Ev.move rfl) ?_
 refine Lst.r (Ev.add rfl rfl) ?_
 refine Lst.r (Ev.cutFrom rfl rfl wim Try.runUnderlying88 Try.sizeOf92 (by omega)) ?_
 refine Lst.overlapsNo (t := 88) (r := 4) (i := 0) (j := 1) rfl rfl (by decide) rfl rfl (by kernel_rfl) Try.sizeOf92 Try.func181 (by kernel_rfl) (by kernel_rfl) (by kernel_rfl) (by kernel_rfl) rfl rfl (by decide) (by omega) (by omega) (by decide) ?_
 refine Lst.r (Ev.not rfl) ?_
 refine Lst.nil ?_
 refine At.then ?_
 refine Cd.condT rfl rfl ?_
 have hdrop : (encs a0 ++ js).drop (i * 2) = encs (a0.drop i) ++ js := by
   rw [List.drop_append_of_le_length (by rw [encs_len]; exact Nat.mul_le_mul_right _ hi), show i * 2 = i * sz Parcel from rfl, ← encs_drop]
 refine Cd.seq ?_
 refine Cd.tail 8 (by kernel_rfl) (by kernel_rfl) ?_
 refine Qt.r (Ev.move rfl) ?_
 refine Qt.r (Ev.move rfl) ?_
 refine Qt.r (Ev.move rfl) ?_
 refine Qt.r (Ev.add rfl rfl) ?_
 refine Qt.r (Ev.cutFrom rfl rfl wim Try.runUnderlying88 Try.sizeOf92 (by omega)) ?_
 refine Qt.r (Ev.move rfl) ?_
 refine Qt.r (Ev.move rfl) ?_
 refine Qt.r (Ev.cutFrom (q := i) rfl rfl rfl Try.runUnderlying88 Try.sizeOf92 (by omega)) ?_
 refine Qt.tail ?_
 refine Lst.copyRaw (α := Parcel) (i := 0) (lo := i + a2.length) (hi := s1.len) (ys := a0.drop i) rfl rfl (by decide) rfl rfl Try.runUnderlying88 Try.sizeOf92 rfl (by decide) rfl (raw_from (i := 0) (rest := js) rfl (by omega) hdrop rfl) (by have : (s1.cut i s1.len 2).len = s1.len - i := rfl; rw [this, List.length_drop]; omega) (by omega) (Nat.le_refl _) ?_
 refine Lst.nil ?_
 refine At.then ?_
 refine Cd.seq ?_
 refine Cd.region ?_
 refine Lst.r (Ev.move rfl) ?_
 refine Lst.r (Ev.move rfl) ?_
 refine Lst.r (Ev.cutFrom (q := i) rfl rfl rfl Try.runUnderlying88 Try.sizeOf92 (by omega)) ?_
 refine Lst.r (Ev.move rfl) ?_
 refine Lst.copyRaw (α := Parcel) (i := 0) (lo := i) (hi := s1.len) (ys := a2) rfl rfl (by decide) rfl rfl Try.runUnderlying88 Try.sizeOf92 rfl (by decide) rfl (rd_raw (Rd.own (i := 1) rfl rfl rfl) rfl) (by omega) (by omega) (Nat.le_refl _) ?_
 have hcells : ((encs a0 ++ js).take ((i + a2.length) * 2) ++ (encs (a0.drop i) ++ (encs a0 ++ js).drop ((i + a2.length + (a0.drop i).length) * 2))).take (i * 2) ++ (encs a2 ++ ((encs a0 ++ js).take ((i + a2.length) * 2) ++ (encs (a0.drop i) ++ (encs a0 ++ js).drop ((i + a2.length + (a0.drop i).length) * 2))).drop ((i + a2.length) * 2)) = encs r := by
  have eA : encs a0 = encs (a0.take i) ++ encs (a0.drop i) := by rw [← encs_append, List.take_append_drop]
  have lA : (encs (a0.take i)).length = i * 2 := by rw [encs_len, List.length_take, Nat.min_eq_left hi]; rfl
  have lV : (encs a2).length = a2.length * 2 := encs_len _
  have lB : (encs (a0.drop i)).length = (a0.drop i).length * 2 := encs_len _
  have := insert_cells (V := encs a2) (J := js) (A := encs (a0.take i)) (B := encs (a0.drop i)) (by rw [lV, hjs])
  rw [lA, lV, lB, ← eA, ← Nat.add_mul, ← Nat.add_mul] at this
  rw [← H, encs_append, encs_append]; exact this
 refine Lst.its (L' := (.own s1 92 2 (encs r)) :: (.own s2 92 2 (encs a2)) :: L) (congrArg (fun c => Item.own s1 92 2 c :: (.own s2 92 2 (encs a2)) :: L) hcells) ?_
 refine Lst.nil ?_
 refine At.then ?_
 refine Cd.seq ?_
 refine Cd.region ?_
 refine Lst.r (Ev.move rfl) ?_
 refine Lst.r (Ev.assign rfl) ?_
 refine Lst.nil ?_
 refine At.then ?_
 refine Cd.ret ?_
 repeat refine At.then_ret ?_
 exact At.ret1 (L' := (.own s1 92 2 (encs r)) :: L) rfl (Res.tmp rfl) (FLe.refl _) (sk1 (sc1 (.refl _))) ⟨s1, rfl, rfl⟩
set_option maxRecDepth 20000 in
theorem lane_Take_sim {fu : Nat} {a0 : To} {a1 : Parcel} {s_a0_1 : Sl} {r : To × (List Str) × Int} (H : lane_Take fu a0 a1 = some r) (w0 : World) (F : Frz) (M L : List Item) (hM : M.Sublist L) (hs_a0_1 : Rd w0 F M s_a0_1 a0.Early) : Ok Try.prog w0 53 [.agg (enc (ToR.mk a0 s_a0_1)).toArray, .agg (enc a1).toArray] F (L) (fun _ L' v => ∃ (s1 : Sl) (s3 : Sl), v = .tuple #[.agg (enc (ToR.mk r.1 s1)).toArray, Sl.v s3, iv r.2.2] ∧ L' = (.own s1 92 2 (encs r.1.Early)) :: (.own s3 9 1 (encs r.2.1)) :: L) := by
 unfold lane_Take at H
 refine Ok.enter (m := 2) (n := 116) Try.func53 rfl rfl rfl (by decide) ?_
 refine Cd.env (e' := [(0, .agg (enc (ToR.mk a0 s_a0_1)).toArray), (1, .agg (enc a1).toArray)]) rfl ?_
 refine sr0 ?_
 refine Lst.box rfl rfl (by decide) rfl (cs := enc (ToR.mk a0 s_a0_1)) rfl (fun b1 => ?_)
 refine Lst.box rfl rfl (by decide) rfl (cs := enc a1) rfl (fun b3 => ?_)
 refine Lst.addNil 92 2 ?_
 refine Lst.alloc (cs := enc (ToR.mk ({ To.zero with Early := ([] : List Parcel) } : To) Sl.nil)) rfl rfl (by decide) Try.zeroValue90 rfl (fun b6 => ?_)
 refine Lst.addNil 9 1 ?_
 refine Lst.r (Ev.assign rfl) ?_
 refine Lst.r (Ev.assign rfl) ?_
 refine nt0 ?_
 refine Cd.seq ?_
 refine sr0 ?_
 refine Lst.r (Ev.loadA (i := 4) rfl rfl Try.isAgg90 Try.sizeOf90 (ch := enc (ToR.mk a0 s_a0_1)) (Enc.len _) gh0) ?_
 obtain ⟨r9, h10, H⟩ := bind_some H
 refine Lst.call1 rfl rfl (by decide) (vs := [.agg (enc (ToR.mk a0 s_a0_1)).toArray]) ⟨rfl, trivial⟩ Try.call54 (lane_CheckTo_sim h10 w0 _ M _ (sc4 (sc1 hM)) (hs_a0_1.mono fl (.refl _))) ?_
 refine Lst.r (Ev.assign rfl) ?_
 refine nsr ?_
 refine mv0 rfl ?_
 refine Lst.r (Ev.neq rfl rfl) ?_
 refine nt0 ?_
 rcases Bool.eq_false_or_eq_true (r9 != (0 : Int)) with hb13 | hb13
 ·replace H := ite_t hb13 H
  refine Cd.condT rfl hb13 ?_
  refine sr0 ?_
  refine Lst.r (Ev.build (v := .agg (enc (ToR.mk To.zero Sl.nil)).toArray) (pv := []) trivial (fun w => by kernel_rfl)) ?_
  refine mv0 rfl ?_
  refine Lst.store (i := 1) rfl rfl rfl rfl rfl Try.sizeOf90 (vs := enc (ToR.mk To.zero Sl.nil)) rfl (Enc.len _) (Enc.one _) (cs' := enc (ToR.mk To.zero Sl.nil)) (Put.here ((Enc.len _).trans (Enc.len _).symm)) (L' := (.own Sl.nil 9 1 (encs ([] : List Str))) :: (.blk b6 (enc (ToR.mk To.zero Sl.nil)) 90) :: (.own Sl.nil 92 2 (encs ([] : List Parcel))) :: (.blk b3 (enc a1) 92) :: (.blk b1 (enc (ToR.mk a0 s_a0_1)) 90) :: L) rfl ?_
  refine Lst.addNil 9 1 ?_
  refine Lst.r (Ev.assign rfl) ?_
  refine Lst.r (Ev.assign rfl) ?_
  refine nt0 ?_
  obtain rfl := some_inj H
  refine Cd.ret ?_
  refine At.then_ret ?_
  refine At.addNil 92 2 ?_
  exact At.ret3 rfl (Res.cellA (i := 3) rfl rfl Try.isAgg90 Try.sizeOf90 (Enc.len _)) (Res.tmp rfl) (Res.tmp rfl) fl (sk1 (sk1 (sc1 (sc1 (sc1 (sc1 (sc1 (.refl _)))))))) ⟨Sl.nil, Sl.nil, rfl, rfl⟩
 replace H := ite_f hb13 H
 refine Cd.condF rfl hb13 ?_
 refine Cd.skip ?_
 refine At.then ?_
 refine Cd.seq ?_
 refine Cd.block ?_
 refine sr0 ?_
 refine Lst.r (Ev.fieldAddr (off' := 0) rfl Try.runUnderlying92 rfl Try.sizeOf3 rfl rfl) ?_
 refine Lst.r (Ev.load (i := 3) rfl rfl Try.isAgg3 (v := iv a1.Seq) ((Parcel.get_Seq gh0).off (by rfl))) ?_
 obtain ⟨r16, h17, H⟩ := bind_some H
 refine Lst.call1 rfl rfl (by decide) (vs := [iv a1.Seq, iv (0 : Int), iv (16777214 : Int)]) ⟨rfl, rfl, rfl, trivial⟩ Try.call138 (lane_in_sim h17 w0 _ M _ (sc4 (sc1 hM))) ?_
 refine Lst.r (Ev.not rfl) ?_
 refine Lst.r (Ev.assign rfl) ?_
 refine nt0 ?_
 rcases Bool.eq_false_or_eq_true (!r16) with hb20 | hb20
 ·replace H := ite_t hb20 H
  refine Cd.condT rfl hb20 ?_
  refine Cd.seq ?_
  refine Cd.as (e' := [(4, pv b6 0)]) (L' := (.own Sl.nil 9 1 (encs ([] : List Str))) :: (.blk b6 (enc (ToR.mk ({ To.zero with Early := ([] : List Parcel) } : To) Sl.nil)) 90) :: (.own Sl.nil 92 2 (encs ([] : List Parcel))) :: (.blk b3 (enc a1) 92) :: (.blk b1 (enc (ToR.mk a0 s_a0_1)) 90) :: L) ⟨rfl, trivial⟩ rfl ?_
  refine Cd.region ?_
  refine Lst.r (Ev.build (v := .agg (enc (ToR.mk To.zero Sl.nil)).toArray) (pv := []) trivial (fun w => by kernel_rfl)) ?_
  refine Lst.store (i := 1) rfl rfl rfl rfl rfl Try.sizeOf90 (vs := enc (ToR.mk To.zero Sl.nil)) rfl (Enc.len _) (Enc.one _) (cs' := enc (ToR.mk To.zero Sl.nil)) (Put.here ((Enc.len _).trans (Enc.len _).symm)) (L' := (.own Sl.nil 9 1 (encs ([] : List Str))) :: (.blk b6 (enc (ToR.mk To.zero Sl.nil)) 90) :: (.own Sl.nil 92 2 (encs ([] : List Parcel))) :: (.blk b3 (enc a1) 92) :: (.blk b1 (enc (ToR.mk a0 s_a0_1)) 90) :: L) rfl ?_
  refine Lst.addNil 9 1 ?_
  refine Lst.r (Ev.assign rfl) ?_
  refine Lst.r (Ev.assign rfl) ?_
  refine nt0 ?_
  obtain rfl := some_inj H
  refine Cd.ret ?_
  refine At.in_ret ?_
  refine At.then_ret ?_
  refine At.addNil 92 2 ?_
  exact At.ret3 rfl (Res.cellA (i := 3) rfl rfl Try.isAgg90 Try.sizeOf90 (Enc.len _)) (Res.tmp rfl) (Res.tmp rfl) fl (sk1 (sk1 (sc1 (sc1 (sc1 (sc1 (sc1 (.refl _)))))))) ⟨Sl.nil, Sl.nil, rfl, rfl⟩
 replace H := ite_f hb20 H
 refine Cd.condF rfl hb20 ?_
 refine sr0 ?_
 refine Lst.r (Ev.fieldAddr (off' := 1) rfl Try.runUnderlying92 rfl Try.sizeOf9 rfl rfl) ?_
 refine Lst.r (Ev.load (i := 3) rfl rfl Try.isAgg9 (v := Str.v a1.Text) ((Parcel.get_Text gh0).off (by rfl))) ?_
 obtain ⟨r23, h24, H⟩ := bind_some H
 refine Lst.call1 rfl rfl (by decide) (vs := [Str.v a1.Text]) ⟨rfl, trivial⟩ Try.call139 (lane_long_sim h24 w0 _ M _ (sc4 (sc1 hM))) ?_
 refine Lst.r (Ev.assign rfl) ?_
 refine nt0 ?_
 rcases Bool.eq_false_or_eq_true r23 with hb27 | hb27
 ·replace H := ite_t hb27 H
  refine Cd.condT rfl hb27 ?_
  refine Cd.seq ?_
  refine Cd.as (e' := [(4, pv b6 0)]) (L' := (.own Sl.nil 9 1 (encs ([] : List Str))) :: (.blk b6 (enc (ToR.mk ({ To.zero with Early := ([] : List Parcel) } : To) Sl.nil)) 90) :: (.own Sl.nil 92 2 (encs ([] : List Parcel))) :: (.blk b3 (enc a1) 92) :: (.blk b1 (enc (ToR.mk a0 s_a0_1)) 90) :: L) ⟨rfl, trivial⟩ rfl ?_
  refine Cd.region ?_
  refine Lst.r (Ev.build (v := .agg (enc (ToR.mk To.zero Sl.nil)).toArray) (pv := []) trivial (fun w => by kernel_rfl)) ?_
  refine Lst.store (i := 1) rfl rfl rfl rfl rfl Try.sizeOf90 (vs := enc (ToR.mk To.zero Sl.nil)) rfl (Enc.len _) (Enc.one _) (cs' := enc (ToR.mk To.zero Sl.nil)) (Put.here ((Enc.len _).trans (Enc.len _).symm)) (L' := (.own Sl.nil 9 1 (encs ([] : List Str))) :: (.blk b6 (enc (ToR.mk To.zero Sl.nil)) 90) :: (.own Sl.nil 92 2 (encs ([] : List Parcel))) :: (.blk b3 (enc a1) 92) :: (.blk b1 (enc (ToR.mk a0 s_a0_1)) 90) :: L) rfl ?_
  refine Lst.addNil 9 1 ?_
  refine Lst.r (Ev.assign rfl) ?_
  refine Lst.r (Ev.assign rfl) ?_
  refine nt0 ?_
  obtain rfl := some_inj H
  refine Cd.ret ?_
  refine At.in_ret ?_
  refine At.then_ret ?_
  refine At.addNil 92 2 ?_
  exact At.ret3 rfl (Res.cellA (i := 3) rfl rfl Try.isAgg90 Try.sizeOf90 (Enc.len _)) (Res.tmp rfl) (Res.tmp rfl) fl (sk1 (sk1 (sc1 (sc1 (sc1 (sc1 (sc1 (.refl _)))))))) ⟨Sl.nil, Sl.nil, rfl, rfl⟩
 replace H := ite_f hb27 H
 refine Cd.condF rfl hb27 ?_
 refine Cd.skip ?_
 refine At.in_normal ?_
 refine At.then ?_
 refine Cd.seq ?_
 refine Cd.as (e' := [(2, pv b1 0), (3, pv b3 0), (4, pv b6 0)]) (L' := (.own Sl.nil 9 1 (encs ([] : List Str))) :: (.blk b6 (enc (ToR.mk ({ To.zero with Early := ([] : List Parcel) } : To) Sl.nil)) 90) :: (.own Sl.nil 92 2 (encs ([] : List Parcel))) :: (.blk b3 (enc a1) 92) :: (.blk b1 (enc (ToR.mk a0 s_a0_1)) 90) :: L) ⟨rfl, rfl, rfl, trivial⟩ rfl ?_
 obtain ⟨r30, h31, H⟩ := bind_some H
 obtain ⟨o45, h46, H⟩ := Let_some H
 refine Cd.headMeet (σ := Nat × Sl × (List Parcel) × Sl × (List Parcel)) 7 (fun (b40, s41, l42, s43, l44) => [(2, pv b1 0), (3, pv b3 0), (4, pv b6 0), (8, pv b40 0), (34, .agg (enc (ToR.mk ({ To.zero with Next := a0.Next, Early := l44 } : To) s43)).toArray)]) (fun (b40, s41, l42, s43, l44) => (.blk b40 (enc (ToR.mk ({ To.zero with Early := l42 } : To) s41)) 90) :: (.own s41 92 2 (encs l42)) :: (.own s43 92 2 (encs l44)) :: (.own Sl.nil 9 1 (encs ([] : List Str))) :: (.blk b6 (enc (ToR.mk ({ To.zero with Early := ([] : List Parcel) } : To) Sl.nil)) 90) :: (.own Sl.nil 92 2 (encs ([] : List Parcel))) :: (.blk b3 (enc a1) 92) :: (.blk b1 (enc (ToR.mk a0 s_a0_1)) 90) :: L) (fun _ (b40, s41, l42, s43, l44) => (l42, l44) = o45) (by kernel_rfl) (by kernel_rfl) (behind_sink (by kernel_rfl) (by kernel_rfl) (by kernel_rfl)) (by kernel_rfl) (fun hsel hlt => ?_) ?_
 ·refine HdJ.keep (fun w => St w0 F ((.own Sl.nil 9 1 (encs ([] : List Str))) :: (.blk b6 (enc (ToR.mk ({ To.zero with Early := ([] : List Parcel) } : To) Sl.nil)) 90) :: (.own Sl.nil 92 2 (encs ([] : List Parcel))) :: (.blk b3 (enc a1) 92) :: (.blk b1 (enc (ToR.mk a0 s_a0_1)) 90) :: L) w) (fun w h => trivial) ?_
  refine HdJ.ts hsel hlt 0 (sk1 (sk1 (sk1 (sk1 (sk1 (.refl _)))))) rfl (Ev.fieldAddr (off' := 0) rfl Try.runUnderlying90 rfl Try.sizeOf3 rfl rfl) ?_
  refine HdJ.ts hsel hlt 1 (sk1 (sk1 (sk1 (sk1 (sk1 (.refl _)))))) rfl (Ev.load (i := 4) rfl rfl Try.isAgg3 (v := iv a0.Next) ((ToR.get_Next gh0).off (by rfl))) ?_
  refine HdJ.ts hsel hlt 2 (sk1 (sk1 (sk1 (sk1 (sk1 (.refl _)))))) rfl (Ev.fieldAddr (off' := 1) rfl Try.runUnderlying90 rfl Try.sizeOf88 rfl rfl) ?_
  refine HdJ.ts hsel hlt 3 (sk1 (sk1 (sk1 (sk1 (sk1 (.refl _)))))) rfl (Ev.load (i := 4) rfl rfl Try.isAgg88 (v := Sl.v s_a0_1) ((ToR.get_Early gh0).off (by rfl))) ?_
  refine HdJ.step [4, 6] (by kernel_rfl) rfl ?_
  refine HdStep.c (fun inv => ?_) ?_
  ·refine Lst.call rfl rfl (by decide) (vs := [Sl.v s_a0_1]) ⟨rfl, trivial⟩ Try.call140 (slices_Clone_api_Parcel_api_Parcel_sim h31 w0 _ M _ (sc4 (sc1 hM)) (hs_a0_1.mono fl (.refl _))) (fun F48 L' v hF49 hv => ?_)
   obtain ⟨s47, rfl, rfl⟩ := hv
   refine Lst.nil ?_
   refine At.hd inv (fun w h => (h.weaken hF49).sublist (sc1 (sk1 (sk1 (sk1 (sk1 (sk1 (.refl _)))))))) ?_
   refine HdJ.keep (fun w => St w0 F48 ((.own s47 92 2 (encs r30)) :: (.own Sl.nil 9 1 (encs ([] : List Str))) :: (.blk b6 (enc (ToR.mk ({ To.zero with Early := ([] : List Parcel) } : To) Sl.nil)) 90) :: (.own Sl.nil 92 2 (encs ([] : List Parcel))) :: (.blk b3 (enc a1) 92) :: (.blk b1 (enc (ToR.mk a0 s_a0_1)) 90) :: L) w) (fun w h => (h.weaken hF49).sublist (sc1 (sk1 (sk1 (sk1 (sk1 (sk1 (.refl _)))))))) ?_
   refine HdJ.ts hsel hlt 5 (sk1 (sk1 (sk1 (sk1 (sk1 (sk1 (.refl _))))))) rfl (Ev.build (v := .agg (enc (ToR.mk ({ To.zero with Next := a0.Next, Early := r30 } : To) s47)).toArray) (pv := [(0, iv a0.Next), (1, Sl.v s47)]) ⟨rfl, rfl, ⟨rfl, rfl, trivial⟩⟩ (run_buildStruct (places := #[(0, 1), (1, 1)]) Try.zeroValue90 (zs := enc (ToR.mk To.zero Sl.nil)) rfl Try.runUnderlying90 (fun w => by kernel_rfl) (fill_cons (cs := enc (ToR.mk To.zero Sl.nil)) (cs' := enc (ToR.mk ({ To.zero with Next := a0.Next } : To) Sl.nil)) (vs := [iv a0.Next]) rfl rfl rfl ((ToR.put_Next (p := (ToR.mk To.zero Sl.nil)) (y := a0.Next) (Put.here (vs := [iv a0.Next]) rfl)).off rfl) (fill_cons (cs := enc (ToR.mk ({ To.zero with Next := a0.Next } : To) Sl.nil)) (cs' := enc (ToR.mk ({ To.zero with Next := a0.Next, Early := r30 } : To) s47)) (vs := [Sl.v s47]) rfl rfl rfl ((ToR.put_Early (p := (ToR.mk ({ To.zero with Next := a0.Next } : To) Sl.nil)) (y := s47) (Put.here (vs := [Sl.v s47]) rfl)).off rfl) fill_nil)))) ?_
   refine HdJ.o1 6 (fun inv => ?_)
   refine Lst.addNil 92 2 ?_
   refine Lst.alloc (cs := enc (ToR.mk ({ To.zero with Early := ([] : List Parcel) } : To) Sl.nil)) rfl rfl (by decide) Try.zeroValue90 rfl (fun b50 => ?_)
   refine hds inv (sc1 (sc1 (sk1 (sk1 (sk1 (sk1 (sk1 (sk1 (.refl _))))))))) ?_
   refine HdJ.done (by kernel_rfl) ?_
   exact At.meetN (b50, Sl.nil, ([] : List Parcel), s47, r30) hF49 ⟨rfl, rfl, rfl, rfl, rfl, trivial⟩ rfl h46
  refine HdStep.c (fun inv => ?_) trivial
  refine Lst.addNil 92 2 ?_
  refine Lst.alloc (cs := enc (ToR.mk ({ To.zero with Early := ([] : List Parcel) } : To) Sl.nil)) rfl rfl (by decide) Try.zeroValue90 rfl (fun b51 => ?_)
  refine hds inv (sc1 (sc1 (sk1 (sk1 (sk1 (sk1 (sk1 (.refl _)))))))) ?_
  refine HdJ.o1 4 (fun inv => ?_)
  refine Lst.call rfl rfl (by decide) (vs := [Sl.v s_a0_1]) ⟨rfl, trivial⟩ Try.call140 (slices_Clone_api_Parcel_api_Parcel_sim h31 w0 _ M _ (sc4 (sc2 (sc1 hM))) (hs_a0_1.mono fl (.refl _))) (fun F53 L' v hF54 hv => ?_)
  obtain ⟨s52, rfl, rfl⟩ := hv
  refine Lst.nil ?_
  refine At.hd inv (fun w h => (h.weaken hF54).sublist (sc1 (sc1 (sc1 (sk1 (sk1 (sk1 (sk1 (sk1 (.refl _)))))))))) ?_
  refine HdJ.keep (fun w => St w0 F53 ((.own s52 92 2 (encs r30)) :: (.blk b51 (enc (ToR.mk ({ To.zero with Early := ([] : List Parcel) } : To) Sl.nil)) 90) :: (.own Sl.nil 92 2 (encs ([] : List Parcel))) :: (.own Sl.nil 9 1 (encs ([] : List Str))) :: (.blk b6 (enc (ToR.mk ({ To.zero with Early := ([] : List Parcel) } : To) Sl.nil)) 90) :: (.own Sl.nil 92 2 (encs ([] : List Parcel))) :: (.blk b3 (enc a1) 92) :: (.blk b1 (enc (ToR.mk a0 s_a0_1)) 90) :: L) w) (fun w h => (h.weaken hF54).sublist (sc1 (sc1 (sc1 (sk1 (sk1 (sk1 (sk1 (sk1 (.refl _)))))))))) ?_
  refine HdJ.ts hsel hlt 5 (sk1 (sk1 (sk1 (sk1 (sk1 (sk1 (sk1 (sk1 (.refl _))))))))) rfl (Ev.build (v := .agg (enc (ToR.mk ({ To.zero with Next := a0.Next, Early := r30 } : To) s52)).toArray) (pv := [(0, iv a0.Next), (1, Sl.v s52)]) ⟨rfl, rfl, ⟨rfl, rfl, trivial⟩⟩ (run_buildStruct (places := #[(0, 1), (1, 1)]) Try.zeroValue90 (zs := enc (ToR.mk To.zero Sl.nil)) rfl Try.runUnderlying90 (fun w => by kernel_rfl) (fill_cons (cs := enc (ToR.mk To.zero Sl.nil)) (cs' := enc (ToR.mk ({ To.zero with Next := a0.Next } : To) Sl.nil)) (vs := [iv a0.Next]) rfl rfl rfl ((ToR.put_Next (p := (ToR.mk To.zero Sl.nil)) (y := a0.Next) (Put.here (vs := [iv a0.Next]) rfl)).off rfl) (fill_cons (cs := enc (ToR.mk ({ To.zero with Next := a0.Next } : To) Sl.nil)) (cs' := enc (ToR.mk ({ To.zero with Next := a0.Next, Early := r30 } : To) s52)) (vs := [Sl.v s52]) rfl rfl rfl ((ToR.put_Early (p := (ToR.mk ({ To.zero with Next := a0.Next } : To) Sl.nil)) (y := s52) (Put.here (vs := [Sl.v s52]) rfl)).off rfl) fill_nil)))) ?_
  refine HdJ.done (by kernel_rfl) ?_
  refine At.front (i := 2) rfl rfl ?_
  refine At.front (i := 2) rfl (L' := (.blk b51 (enc (ToR.mk ({ To.zero with Early := ([] : List Parcel) } : To) Sl.nil)) 90) :: (.own Sl.nil 92 2 (encs ([] : List Parcel))) :: (.own s52 92 2 (encs r30)) :: (.own Sl.nil 9 1 (encs ([] : List Str))) :: (.blk b6 (enc (ToR.mk ({ To.zero with Early := ([] : List Parcel) } : To) Sl.nil)) 90) :: (.own Sl.nil 92 2 (encs ([] : List Parcel))) :: (.blk b3 (enc a1) 92) :: (.blk b1 (enc (ToR.mk a0 s_a0_1)) 90) :: L) rfl ?_
  exact At.meetN (b51, Sl.nil, ([] : List Parcel), s52, r30) hF54 ⟨rfl, rfl, rfl, rfl, rfl, trivial⟩ rfl h46
 rintro F55 ⟨b40, s41, l42, s43, l44⟩ hF56 hy
 subst hy
 try dsimp only at H
 refine Lst.as (e' := [(2, pv b1 0), (3, pv b3 0), (4, pv b6 0), (8, pv b40 0), (34, .agg (enc (ToR.mk ({ To.zero with Next := a0.Next, Early := l44 } : To) s43)).toArray)]) (L' := (.blk b40 (enc (ToR.mk ({ To.zero with Early := l42 } : To) s41)) 90) :: (.own s41 92 2 (encs l42)) :: (.own s43 92 2 (encs l44)) :: (.own Sl.nil 9 1 (encs ([] : List Str))) :: (.blk b6 (enc (ToR.mk ({ To.zero with Early := ([] : List Parcel) } : To) Sl.nil)) 90) :: (.own Sl.nil 92 2 (encs ([] : List Parcel))) :: (.blk b3 (enc a1) 92) :: (.blk b1 (enc (ToR.mk a0 s_a0_1)) 90) :: L) ⟨rfl, rfl, rfl, rfl, rfl, trivial⟩ rfl ?_
 refine Lst.store (i := 0) rfl rfl rfl rfl rfl Try.sizeOf90 (vs := enc (ToR.mk ({ To.zero with Next := a0.Next, Early := l44 } : To) s43)) rfl (Enc.len _) (Enc.one _) (cs' := enc (ToR.mk ({ To.zero with Next := a0.Next, Early := l44 } : To) s43)) (Put.here ((Enc.len _).trans (Enc.len _).symm)) (L' := (.blk b40 (enc (ToR.mk ({ To.zero with Next := a0.Next, Early := l44 } : To) s43)) 90) :: (.own s41 92 2 (encs l42)) :: (.own s43 92 2 (encs l44)) :: (.own Sl.nil 9 1 (encs ([] : List Str))) :: (.blk b6 (enc (ToR.mk ({ To.zero with Early := ([] : List Parcel) } : To) Sl.nil)) 90) :: (.own Sl.nil 92 2 (encs ([] : List Parcel))) :: (.blk b3 (enc a1) 92) :: (.blk b1 (enc (ToR.mk a0 s_a0_1)) 90) :: L) rfl ?_
 refine nsr ?_
 refine Lst.r (Ev.fieldAddr (off' := 1) rfl Try.runUnderlying90 rfl Try.sizeOf88 rfl rfl) ?_
 refine Lst.r (Ev.load (i := 0) rfl rfl Try.isAgg88 (v := Sl.v s43) ((ToR.get_Early gh0).off (by rfl))) ?_
 refine Lst.r (Ev.fieldAddr (off' := 0) rfl Try.runUnderlying92 rfl Try.sizeOf3 rfl rfl) ?_
 refine Lst.r (Ev.load (i := 6) rfl rfl Try.isAgg3 (v := iv a1.Seq) ((Parcel.get_Seq gh0).off (by rfl))) ?_
 obtain ⟨r57, h58, H⟩ := bind_some H
 refine Lst.call1 rfl rfl (by decide) (vs := [Sl.v s43, iv a1.Seq, .func (.func 142) #[] #[]]) ⟨rfl, rfl, rfl, trivial⟩ Try.call141 (slices_BinarySearchFunc_api_Parcel_api_Parcel_int_Take_1_sim h58 w0 _ _ _ (.refl _) (rdo 2 rfl rfl rfl)) ?_
 refine mv0 rfl ?_
 refine Lst.r (Ev.extract rfl rfl) ?_
 refine Lst.r (Ev.extract rfl rfl) ?_
 refine Lst.r (Ev.assign rfl) ?_
 refine Lst.r (Ev.assign rfl) ?_
 refine nt0 ?_
 refine Cd.seq ?_
 refine sr0 ?_
 refine Lst.r (Ev.fieldAddr (off' := 0) rfl Try.runUnderlying92 rfl Try.sizeOf3 rfl rfl) ?_
 refine Lst.r (Ev.load (i := 6) rfl rfl Try.isAgg3 (v := iv a1.Seq) ((Parcel.get_Seq gh0).off (by rfl))) ?_
 refine Lst.r (Ev.fieldAddr (off' := 0) rfl Try.runUnderlying90 rfl Try.sizeOf3 rfl rfl) ?_
 refine Lst.r (Ev.load (i := 7) rfl rfl Try.isAgg3 (v := iv a0.Next) ((ToR.get_Next gh0).off (by rfl))) ?_
 refine Lst.r (Ev.lss rfl rfl) ?_
 refine mv0 rfl ?_
 obtain ⟨o61, H, HKo61⟩ := bind_some H
 refine Lst.join (σ := Bool) 7 (fun y62 => [(2, pv b1 0), (3, pv b3 0), (4, pv b6 0), (8, pv b40 0), (9, iv r57.1), (10, .bool r57.2), (55, .bool y62)]) (fun y62 => (.blk b40 (enc (ToR.mk ({ To.zero with Next := a0.Next, Early := l44 } : To) s43)) 90) :: (.own s41 92 2 (encs l42)) :: (.own s43 92 2 (encs l44)) :: (.own Sl.nil 9 1 (encs ([] : List Str))) :: (.blk b6 (enc (ToR.mk ({ To.zero with Early := ([] : List Parcel) } : To) Sl.nil)) 90) :: (.own Sl.nil 92 2 (encs ([] : List Parcel))) :: (.blk b3 (enc a1) 92) :: (.blk b1 (enc (ToR.mk a0 s_a0_1)) 90) :: L) (fun _ y62 => y62 = o61) ?_ ?_
 ·rcases Bool.eq_false_or_eq_true (decide (a1.Seq < a0.Next)) with hb63 | hb63
  ·replace H := ite_t hb63 H
   refine Lst.skip rfl rfl rfl hb63 rfl (by decide) ?_
   refine Lst.skip rfl rfl rfl hb63 rfl (by decide) ?_
   refine Lst.skip rfl rfl rfl hb63 rfl (by decide) ?_
   refine Lst.skip rfl rfl rfl hb63 rfl (by decide) ?_
   refine Lst.skip rfl rfl rfl hb63 rfl (by decide) ?_
   refine Lst.skip rfl rfl rfl hb63 rfl (by decide) ?_
   refine Lst.r (Ev.pickT rfl hb63 rfl) ?_
   refine Lst.nil ?_
   exact At.meet true fl ⟨rfl, rfl, rfl, rfl, rfl, rfl, rfl, trivial⟩ rfl (some_inj H)
  replace H := ite_f hb63 H
  refine Lst.rG hb63 (Ev.fieldAddr (off' := 0) rfl Try.runUnderlying92 rfl Try.sizeOf3 rfl rfl) ?_
  refine Lst.rG hb63 (Ev.load (i := 6) rfl rfl Try.isAgg3 (v := iv a1.Seq) ((Parcel.get_Seq gh0).off (by rfl))) ?_
  refine Lst.rG hb63 (Ev.fieldAddr (off' := 0) rfl Try.runUnderlying90 rfl Try.sizeOf3 rfl rfl) ?_
  refine Lst.rG hb63 (Ev.load (i := 7) rfl rfl Try.isAgg3 (v := iv a0.Next) ((ToR.get_Next gh0).off (by rfl))) ?_
  refine Lst.rG hb63 (Ev.add rfl rfl) ?_
  refine Lst.rG hb63 (Ev.geq rfl rfl) ?_
  refine Lst.r (Ev.pickF rfl hb63 rfl) ?_
  refine Lst.nil ?_
  exact At.meet (decide (a1.Seq ≥ (w64 (a0.Next + (16 : Int))))) fl ⟨rfl, rfl, rfl, rfl, rfl, rfl, rfl, trivial⟩ rfl (some_inj H)
 rintro F64 y62 hF65 hy
 subst hy
 refine Lst.as (e' := [(2, pv b1 0), (3, pv b3 0), (4, pv b6 0), (8, pv b40 0), (9, iv r57.1), (10, .bool r57.2), (55, .bool y62)]) (L' := (.blk b40 (enc (ToR.mk ({ To.zero with Next := a0.Next, Early := l44 } : To) s43)) 90) :: (.own s41 92 2 (encs l42)) :: (.own s43 92 2 (encs l44)) :: (.own Sl.nil 9 1 (encs ([] : List Str))) :: (.blk b6 (enc (ToR.mk ({ To.zero with Early := ([] : List Parcel) } : To) Sl.nil)) 90) :: (.own Sl.nil 92 2 (encs ([] : List Parcel))) :: (.blk b3 (enc a1) 92) :: (.blk b1 (enc (ToR.mk a0 s_a0_1)) 90) :: L) ⟨rfl, rfl, rfl, rfl, rfl, rfl, rfl, trivial⟩ rfl ?_
 replace H := HKo61
 refine mv0 rfl ?_
 obtain ⟨o66, H, HKo66⟩ := bind_some H
 refine Lst.join (σ := Bool) 2 (fun y67 => [(2, pv b1 0), (3, pv b3 0), (4, pv b6 0), (8, pv b40 0), (9, iv r57.1), (58, .bool y67)]) (fun y67 => (.blk b40 (enc (ToR.mk ({ To.zero with Next := a0.Next, Early := l44 } : To) s43)) 90) :: (.own s41 92 2 (encs l42)) :: (.own s43 92 2 (encs l44)) :: (.own Sl.nil 9 1 (encs ([] : List Str))) :: (.blk b6 (enc (ToR.mk ({ To.zero with Early := ([] : List Parcel) } : To) Sl.nil)) 90) :: (.own Sl.nil 92 2 (encs ([] : List Parcel))) :: (.blk b3 (enc a1) 92) :: (.blk b1 (enc (ToR.mk a0 s_a0_1)) 90) :: L) (fun _ y67 => y67 = o66) ?_ ?_
 ·rcases Bool.eq_false_or_eq_true y62 with hb68 | hb68
  ·replace H := ite_t hb68 H
   refine Lst.skip rfl rfl rfl hb68 rfl (by decide) ?_
   refine Lst.r (Ev.pickT rfl hb68 rfl) ?_
   refine Lst.nil ?_
   exact At.meet true fl ⟨rfl, rfl, rfl, rfl, rfl, rfl, trivial⟩ rfl (some_inj H)
  replace H := ite_f hb68 H
  refine Lst.rG hb68 (Ev.move rfl) ?_
  refine Lst.r (Ev.pickF rfl hb68 rfl) ?_
  refine Lst.nil ?_
  exact At.meet r57.2 fl ⟨rfl, rfl, rfl, rfl, rfl, rfl, trivial⟩ rfl (some_inj H)
 rintro F69 y67 hF70 hy
 subst hy
 refine Lst.as (e' := [(2, pv b1 0), (3, pv b3 0), (4, pv b6 0), (8, pv b40 0), (9, iv r57.1), (58, .bool y67)]) (L' := (.blk b40 (enc (ToR.mk ({ To.zero with Next := a0.Next, Early := l44 } : To) s43)) 90) :: (.own s41 92 2 (encs l42)) :: (.own s43 92 2 (encs l44)) :: (.own Sl.nil 9 1 (encs ([] : List Str))) :: (.blk b6 (enc (ToR.mk ({ To.zero with Early := ([] : List Parcel) } : To) Sl.nil)) 90) :: (.own Sl.nil 92 2 (encs ([] : List Parcel))) :: (.blk b3 (enc a1) 92) :: (.blk b1 (enc (ToR.mk a0 s_a0_1)) 90) :: L) ⟨rfl, rfl, rfl, rfl, rfl, rfl, trivial⟩ rfl ?_
 replace H := HKo66
 refine nt0 ?_
 rcases Bool.eq_false_or_eq_true y67 with hb71 | hb71
 ·replace H := ite_t hb71 H
  refine Cd.condT rfl hb71 ?_
  refine sr0 ?_
  refine Lst.r (Ev.loadA (i := 0) rfl rfl Try.isAgg90 Try.sizeOf90 (ch := enc (ToR.mk ({ To.zero with Next := a0.Next, Early := l44 } : To) s43)) (Enc.len _) gh0) ?_
  refine Lst.store (i := 4) rfl rfl rfl rfl rfl Try.sizeOf90 (vs := enc (ToR.mk ({ To.zero with Next := a0.Next, Early := l44 } : To) s43)) rfl (Enc.len _) (Enc.one _) (cs' := enc (ToR.mk ({ To.zero with Next := a0.Next, Early := l44 } : To) s43)) (Put.here ((Enc.len _).trans (Enc.len _).symm)) (L' := (.blk b40 (enc (ToR.mk ({ To.zero with Next := a0.Next, Early := l44 } : To) s43)) 90) :: (.own s41 92 2 (encs l42)) :: (.own s43 92 2 (encs l44)) :: (.own Sl.nil 9 1 (encs ([] : List Str))) :: (.blk b6 (enc (ToR.mk ({ To.zero with Next := a0.Next, Early := l44 } : To) s43)) 90) :: (.own Sl.nil 92 2 (encs ([] : List Parcel))) :: (.blk b3 (enc a1) 92) :: (.blk b1 (enc (ToR.mk a0 s_a0_1)) 90) :: L) rfl ?_
  refine Lst.addNil 9 1 ?_
  refine Lst.r (Ev.assign rfl) ?_
  refine Lst.r (Ev.assign rfl) ?_
  refine nt0 ?_
  obtain rfl := some_inj H
  refine Cd.ret ?_
  refine At.then_ret ?_
  refine At.front (i := 3) rfl (L' := (.own s43 92 2 (encs l44)) :: (.own Sl.nil 9 1 (encs ([] : List Str))) :: (.blk b40 (enc (ToR.mk ({ To.zero with Next := a0.Next, Early := l44 } : To) s43)) 90) :: (.own s41 92 2 (encs l42)) :: (.own Sl.nil 9 1 (encs ([] : List Str))) :: (.blk b6 (enc (ToR.mk ({ To.zero with Next := a0.Next, Early := l44 } : To) s43)) 90) :: (.own Sl.nil 92 2 (encs ([] : List Parcel))) :: (.blk b3 (enc a1) 92) :: (.blk b1 (enc (ToR.mk a0 s_a0_1)) 90) :: L) rfl ?_
  exact At.ret3 rfl (Res.cellA (i := 5) rfl rfl Try.isAgg90 Try.sizeOf90 (Enc.len _)) (Res.tmp rfl) (Res.tmp rfl) (FLe.trans (FLe.trans hF56 hF65) hF70) (sk1 (sk1 (sc1 (sc1 (sc1 (sc1 (sc1 (sc1 (sc1 (.refl _)))))))))) ⟨s43, Sl.nil, rfl, rfl⟩
 replace H := ite_f hb71 H
 refine Cd.condF rfl hb71 ?_
 refine Cd.skip ?_
 refine At.then ?_
 refine Cd.seq ?_
 refine sr0 ?_
 refine Lst.r (Ev.fieldAddr (off' := 0) rfl Try.runUnderlying92 rfl Try.sizeOf3 rfl rfl) ?_
 refine Lst.r (Ev.load (i := 6) rfl rfl Try.isAgg3 (v := iv a1.Seq) ((Parcel.get_Seq gh0).off (by rfl))) ?_
 refine Lst.r (Ev.fieldAddr (off' := 0) rfl Try.runUnderlying90 rfl Try.sizeOf3 rfl rfl) ?_
 refine Lst.r (Ev.load (i := 7) rfl rfl Try.isAgg3 (v := iv a0.Next) ((ToR.get_Next gh0).off (by rfl))) ?_
 refine Lst.r (Ev.gtr rfl rfl) ?_
 refine nt0 ?_
 rcases Bool.eq_false_or_eq_true (decide (a1.Seq > a0.Next)) with hb73 | hb73
 ·replace H := ite_t hb73 H
  refine Cd.condT rfl hb73 ?_
  refine sr0 ?_
  refine Lst.r (Ev.fieldAddr (off' := 1) rfl Try.runUnderlying90 rfl Try.sizeOf88 rfl rfl) ?_
  refine Lst.r (Ev.load (i := 0) rfl rfl Try.isAgg88 (v := Sl.v s43) ((ToR.get_Early gh0).off (by rfl))) ?_
  refine mv0 rfl ?_
  refine Lst.r (Ev.loadA (i := 6) rfl rfl Try.isAgg92 Try.sizeOf92 (ch := enc a1) (Enc.len _) gh0) ?_
  refine Lst.buildSlice (α := Parcel) (xs := ([a1] : List Parcel)) (pv := [(0, .agg (enc a1).toArray)]) rfl rfl (by decide) ⟨rfl, rfl, trivial⟩ (run_buildSlice (α := Parcel) (z0 := Parcel.zero) (xs := ([a1] : List Parcel)) Try.runUnderlying88 Try.sizeOf92 Try.zeroValue92 rfl rfl rfl (by decide) rfl (fill_cons (cs := encs (List.replicate 1 Parcel.zero)) (cs' := encs ((List.replicate 1 Parcel.zero).set 0 a1)) (vs := enc a1) rfl rfl (Enc.len _) ((Put.elemN (s := 2) (i := 0) (x := Parcel.zero) (y := a1) rfl rfl (Put.here ((Enc.len _).trans (Enc.len _).symm))).off rfl) fill_nil)) rfl rfl (by decide) (fun s74 _ => ?_)
  obtain ⟨r76, h77, H⟩ := bind_some H
  refine Lst.front (i := 3) rfl (L' := (.own s43 92 2 (encs l44)) :: (.own s74 92 2 (encs ([a1] : List Parcel))) :: (.blk b40 (enc (ToR.mk ({ To.zero with Next := a0.Next, Early := l44 } : To) s43)) 90) :: (.own s41 92 2 (encs l42)) :: (.own Sl.nil 9 1 (encs ([] : List Str))) :: (.blk b6 (enc (ToR.mk ({ To.zero with Early := ([] : List Parcel) } : To) Sl.nil)) 90) :: (.own Sl.nil 92 2 (encs ([] : List Parcel))) :: (.blk b3 (enc a1) 92) :: (.blk b1 (enc (ToR.mk a0 s_a0_1)) 90) :: L) rfl ?_
  refine Lst.call rfl rfl (by decide) (vs := [Sl.v s43, iv r57.1, Sl.v s74]) ⟨rfl, rfl, rfl, trivial⟩ Try.call143 (slices_Insert_api_Parcel_api_Parcel_sim h77 w0 _ M _ (sc4 (sc2 (sc1 hM)))) (fun F80 L' v hF81 hv => ?_)
  obtain ⟨s78, rfl, rfl⟩ := hv
  refine Lst.r (Ev.fieldAddr (off' := 1) rfl Try.runUnderlying90 rfl Try.sizeOf88 rfl rfl) ?_
  refine Lst.store (i := 1) rfl rfl rfl rfl rfl Try.sizeOf88 (vs := [Sl.v s78]) rfl rfl rfl (cs' := enc (ToR.mk ({ To.zero with Next := a0.Next, Early := r76 } : To) s78)) ((ToR.put_Early (Put.here (vs := [Sl.v s78]) rfl)).off (by rfl)) (L' := (.own s78 92 2 (encs r76)) :: (.blk b40 (enc (ToR.mk ({ To.zero with Next := a0.Next, Early := r76 } : To) s78)) 90) :: (.own s41 92 2 (encs l42)) :: (.own Sl.nil 9 1 (encs ([] : List Str))) :: (.blk b6 (enc (ToR.mk ({ To.zero with Early := ([] : List Parcel) } : To) Sl.nil)) 90) :: (.own Sl.nil 92 2 (encs ([] : List Parcel))) :: (.blk b3 (enc a1) 92) :: (.blk b1 (enc (ToR.mk a0 s_a0_1)) 90) :: L) rfl ?_
  refine nt0 ?_
  refine Cd.seq ?_
  refine Cd.as (e' := [(4, pv b6 0), (8, pv b40 0)]) (L' := (.own s78 92 2 (encs r76)) :: (.blk b40 (enc (ToR.mk ({ To.zero with Next := a0.Next, Early := r76 } : To) s78)) 90) :: (.own s41 92 2 (encs l42)) :: (.own Sl.nil 9 1 (encs ([] : List Str))) :: (.blk b6 (enc (ToR.mk ({ To.zero with Early := ([] : List Parcel) } : To) Sl.nil)) 90) :: (.own Sl.nil 92 2 (encs ([] : List Parcel))) :: (.blk b3 (enc a1) 92) :: (.blk b1 (enc (ToR.mk a0 s_a0_1)) 90) :: L) ⟨rfl, rfl, trivial⟩ rfl ?_
  refine Cd.region ?_
  refine Lst.r (Ev.loadA (i := 1) rfl rfl Try.isAgg90 Try.sizeOf90 (ch := enc (ToR.mk ({ To.zero with Next := a0.Next, Early := r76 } : To) s78)) (Enc.len _) gh0) ?_
  refine Lst.store (i := 4) rfl rfl rfl rfl rfl Try.sizeOf90 (vs := enc (ToR.mk ({ To.zero with Next := a0.Next, Early := r76 } : To) s78)) rfl (Enc.len _) (Enc.one _) (cs' := enc (ToR.mk ({ To.zero with Next := a0.Next, Early := r76 } : To) s78)) (Put.here ((Enc.len _).trans (Enc.len _).symm)) (L' := (.own s78 92 2 (encs r76)) :: (.blk b40 (enc (ToR.mk ({ To.zero with Next := a0.Next, Early := r76 } : To) s78)) 90) :: (.own s41 92 2 (encs l42)) :: (.own Sl.nil 9 1 (encs ([] : List Str))) :: (.blk b6 (enc (ToR.mk ({ To.zero with Next := a0.Next, Early := r76 } : To) s78)) 90) :: (.own Sl.nil 92 2 (encs ([] : List Parcel))) :: (.blk b3 (enc a1) 92) :: (.blk b1 (enc (ToR.mk a0 s_a0_1)) 90) :: L) rfl ?_
  refine Lst.addNil 9 1 ?_
  refine Lst.r (Ev.assign rfl) ?_
  refine Lst.r (Ev.assign rfl) ?_
  refine nt0 ?_
  obtain rfl := some_inj H
  refine Cd.ret ?_
  refine At.then_ret ?_
  refine At.front (i := 1) rfl (L' := (.own s78 92 2 (encs r76)) :: (.own Sl.nil 9 1 (encs ([] : List Str))) :: (.blk b40 (enc (ToR.mk ({ To.zero with Next := a0.Next, Early := r76 } : To) s78)) 90) :: (.own s41 92 2 (encs l42)) :: (.own Sl.nil 9 1 (encs ([] : List Str))) :: (.blk b6 (enc (ToR.mk ({ To.zero with Next := a0.Next, Early := r76 } : To) s78)) 90) :: (.own Sl.nil 92 2 (encs ([] : List Parcel))) :: (.blk b3 (enc a1) 92) :: (.blk b1 (enc (ToR.mk a0 s_a0_1)) 90) :: L) rfl ?_
  exact At.ret3 rfl (Res.cellA (i := 5) rfl rfl Try.isAgg90 Try.sizeOf90 (Enc.len _)) (Res.tmp rfl) (Res.tmp rfl) (FLe.trans (FLe.trans (FLe.trans hF56 hF65) hF70) hF81) (sk1 (sk1 (sc1 (sc1 (sc1 (sc1 (sc1 (sc1 (sc1 (.refl _)))))))))) ⟨s78, Sl.nil, rfl, rfl⟩
 replace H := ite_f hb73 H
 refine Cd.condF rfl hb73 ?_
 refine Cd.skip ?_
 refine At.then ?_
 refine sr0 ?_
 refine Lst.r (Ev.fieldAddr (off' := 1) rfl Try.runUnderlying92 rfl Try.sizeOf9 rfl rfl) ?_
 refine Lst.r (Ev.load (i := 6) rfl rfl Try.isAgg9 (v := Str.v a1.Text) ((Parcel.get_Text gh0).off (by rfl))) ?_
 refine Lst.buildSlice (α := Str) (xs := ([a1.Text] : List Str)) (pv := [(0, Str.v a1.Text)]) rfl rfl (by decide) ⟨rfl, rfl, trivial⟩ (run_buildSlice (α := Str) (z0 := ([] : Str)) (xs := ([a1.Text] : List Str)) Try.runUnderlying94 Try.sizeOf9 Try.zeroValue9 rfl rfl rfl (by decide) rfl (fill_cons (cs := encs (List.replicate 1 ([] : Str))) (cs' := encs ((List.replicate 1 ([] : Str)).set 0 a1.Text)) (vs := [Str.v a1.Text]) rfl rfl rfl ((Put.elemN (s := 1) (i := 0) (x := ([] : Str)) (y := a1.Text) rfl rfl (Put.here (vs := [Str.v a1.Text]) rfl)).off rfl) fill_nil)) rfl rfl (by decide) (fun s83 _ => ?_)
 refine Lst.r (Ev.assign rfl) ?_
 refine nsr ?_
 refine Lst.r (Ev.fieldAddr (off' := 0) rfl Try.runUnderlying90 rfl Try.sizeOf3 rfl rfl) ?_
 refine Lst.r (Ev.load (i := 1) rfl rfl Try.isAgg3 (v := iv a0.Next) ((ToR.get_Next gh0).off (by rfl))) ?_
 refine Lst.r (Ev.add rfl rfl) ?_
 refine Lst.r (Ev.fieldAddr (off' := 0) rfl Try.runUnderlying90 rfl Try.sizeOf3 rfl rfl) ?_
 obtain ⟨p85, h86, H⟩ := Let_some H
 refine Lst.store (i := 1) rfl rfl rfl rfl rfl Try.sizeOf3 (vs := [iv (w64 (a0.Next + (1 : Int)))]) rfl rfl rfl (cs' := enc (ToR.mk ({ To.zero with Next := p85, Early := l44 } : To) s43)) (by rw [← h86]; exact (ToR.put_Next (Put.here (vs := [iv (w64 (a0.Next + (1 : Int)))]) rfl)).off (by rfl)) (L' := (.own s83 9 1 (encs ([a1.Text] : List Str))) :: (.blk b40 (enc (ToR.mk ({ To.zero with Next := p85, Early := l44 } : To) s43)) 90) :: (.own s41 92 2 (encs l42)) :: (.own s43 92 2 (encs l44)) :: (.own Sl.nil 9 1 (encs ([] : List Str))) :: (.blk b6 (enc (ToR.mk ({ To.zero with Early := ([] : List Parcel) } : To) Sl.nil)) 90) :: (.own Sl.nil 92 2 (encs ([] : List Parcel))) :: (.blk b3 (enc a1) 92) :: (.blk b1 (enc (ToR.mk a0 s_a0_1)) 90) :: L) rfl ?_
 refine nt0 ?_
 refine Cd.seq ?_
 refine Cd.block ?_
 obtain ⟨ol87, H, HKl87⟩ := andThen_some H
 refine Cd.loop (σ := Nat × To × Sl × (List Str) × Sl × (List Parcel)) (fun (k87, y88, s89, l90, s91, l92) => [(4, pv b6 0), (8, pv b40 0), (11, Sl.v s89)]) (fun (k87, y88, s89, l90, s91, l92) => (.own s89 9 1 (encs l90)) :: (.blk b40 (enc (ToR.mk ({ y88 with Early := l92 } : To) s91)) 90) :: (.own s41 92 2 (encs l42)) :: (.own s91 92 2 (encs l92)) :: (.own Sl.nil 9 1 (encs ([] : List Str))) :: (.blk b6 (enc (ToR.mk ({ To.zero with Early := ([] : List Parcel) } : To) Sl.nil)) 90) :: (.own Sl.nil 92 2 (encs ([] : List Parcel))) :: (.blk b3 (enc a1) 92) :: (.blk b1 (enc (ToR.mk a0 s_a0_1)) 90) :: L) (fun _ => (fun (k87, y88, s89, l90, s91, l92) => whileM (lane_Take_B1) k87 (y88, l90, l92) = some ol87)) (fun (k87, y88, s89, l90, s91, l92) => k87) (fu, ({ To.zero with Next := p85, Early := l44 } : To), s83, ([a1.Text] : List Str), s43, l44) ⟨rfl, rfl, rfl, trivial⟩ rfl H ?_
 rintro F93 ⟨k87, y88, s89, l90, s91, l92⟩ hF94 H
 refine Cd.as (e' := [(4, pv b6 0), (8, pv b40 0), (11, Sl.v s89)]) (L' := (.own s89 9 1 (encs l90)) :: (.blk b40 (enc (ToR.mk ({ y88 with Early := l92 } : To) s91)) 90) :: (.own s41 92 2 (encs l42)) :: (.own s91 92 2 (encs l92)) :: (.own Sl.nil 9 1 (encs ([] : List Str))) :: (.blk b6 (enc (ToR.mk ({ To.zero with Early := ([] : List Parcel) } : To) Sl.nil)) 90) :: (.own Sl.nil 92 2 (encs ([] : List Parcel))) :: (.blk b3 (enc a1) 92) :: (.blk b1 (enc (ToR.mk a0 s_a0_1)) 90) :: L) ⟨rfl, rfl, rfl, trivial⟩ rfl ?_
 rcases k87 with _ | k87
 ·cases H
 obtain ⟨c87, H, hgo87, hbrk87, hret87⟩ := whileM_go H
 unfold lane_Take_B1 at H
 try dsimp only at H
 refine Cd.seq ?_
 refine Cd.seq ?_
 refine Cd.quiet (by kernel_rfl) (by kernel_rfl) ?_
 refine Qt.r (Ev.fieldAddr (off' := 1) rfl Try.runUnderlying90 rfl Try.sizeOf88 rfl rfl) ?_
 refine Qt.r (Ev.load (i := 1) rfl rfl Try.isAgg88 (v := Sl.v s91) ((ToR.get_Early gh0).off (by rfl))) ?_
 refine Qt.r (Ev.lenS (α := Parcel) (xs := l92) (by decide) rfl rfl Try.runUnderlying88 (rdo 3 rfl rfl rfl)) ?_
 refine Qt.r (Ev.gtr rfl rfl) ?_
 refine Qt.r (Ev.move rfl) ?_
 obtain ⟨o95, H, HKo95⟩ := bind_some H
 refine Qt.join (σ := Bool) 9 (fun y96 => [(4, pv b6 0), (8, pv b40 0), (11, Sl.v s89), (93, .bool y96)]) (fun y96 => y96 = o95) ?_ ?_
 ·rcases (Bool.eq_false_or_eq_true (decide ((l92.length : Int) > (0 : Int)))).symm with hb97 | hb97
  ·replace H := ite_f hb97 H
   refine Qt.skip rfl rfl rfl hb97 rfl (by decide) ?_
   refine Qt.skip rfl rfl rfl hb97 rfl (by decide) ?_
   refine Qt.skip rfl rfl rfl hb97 rfl (by decide) ?_
   refine Qt.skip rfl rfl rfl hb97 rfl (by decide) ?_
   refine Qt.skip rfl rfl rfl hb97 rfl (by decide) ?_
   refine Qt.skip rfl rfl rfl hb97 rfl (by decide) ?_
   refine Qt.skip rfl rfl rfl hb97 rfl (by decide) ?_
   refine Qt.skip rfl rfl rfl hb97 rfl (by decide) ?_
   refine Qt.r (Ev.pickF rfl hb97 rfl) ?_
   exact Qt.meet false ⟨rfl, rfl, rfl, rfl, trivial⟩ (some_inj H)
  replace H := ite_t hb97 H
  refine Qt.rG hb97 (Ev.fieldAddr (off' := 1) rfl Try.runUnderlying90 rfl Try.sizeOf88 rfl rfl) ?_
  refine Qt.rG hb97 (Ev.load (i := 1) rfl rfl Try.isAgg88 (v := Sl.v s91) ((ToR.get_Early gh0).off (by rfl))) ?_
  obtain ⟨x98, h99, H⟩ := bind_some H
  have g100 := lat_some h99
  refine Qt.rG hb97 (Ev.indexS (α := Parcel) (xs := l92) rfl rfl Try.runUnderlying88 Try.sizeOf92 rfl (by decide) (rdo 3 rfl rfl rfl) g100.1 g100.2.1) ?_
  refine Qt.rG hb97 (Ev.fieldS (α := Parcel) (f' := (0 : Int).toNat * 2 + 0) rfl (rdo 3 rfl rfl rfl) ((Get.elemN (s := 2) (x := x98) rfl g100.2.2 gh0).off (by omega)) rfl Try.runUnderlying92 rfl Try.sizeOf3 rfl rfl rfl) ?_
  refine Qt.rG hb97 (Ev.loadS (α := Parcel) rfl (rdo 3 rfl rfl rfl) Try.isAgg3 (v := iv x98.Seq) ((Get.elemN (s := 2) (x := x98) rfl g100.2.2 (Parcel.get_Seq gh0)).off (by omega))) ?_
  refine Qt.rG hb97 (Ev.fieldAddr (off' := 0) rfl Try.runUnderlying90 rfl Try.sizeOf3 rfl rfl) ?_
  refine Qt.rG hb97 (Ev.load (i := 1) rfl rfl Try.isAgg3 (v := iv y88.Next) ((ToR.get_Next gh0).off (by rfl))) ?_
  refine Qt.rG hb97 (Ev.eql rfl rfl) ?_
  refine Qt.r (Ev.pickT rfl hb97 rfl) ?_
  exact Qt.meet (x98.Seq == y88.Next) ⟨rfl, rfl, rfl, rfl, trivial⟩ (some_inj H)
 rintro y96 hy
 subst hy
 refine Qt.as (e' := [(4, pv b6 0), (8, pv b40 0), (11, Sl.v s89), (93, .bool y96)]) ⟨rfl, rfl, rfl, rfl, trivial⟩ ?_
 replace H := HKo95
 refine Qt.done ?_
 refine At.then ?_
 rcases (Bool.eq_false_or_eq_true y96).symm with hb101 | hb101
 ·replace H := ite_f hb101 H
  refine Cd.condF rfl hb101 ?_
  refine Cd.exit ?_
  refine At.then_exit ?_
  refine At.then_exit ?_
  refine At.in_exit ?_
  have H := hbrk87 _ (some_inj H).symm
  subst H
  replace H := HKl87
  refine At.then ?_
  refine sr0 ?_
  refine Lst.r (Ev.fieldAddr (off' := 1) rfl Try.runUnderlying90 rfl Try.sizeOf88 rfl rfl) ?_
  refine Lst.r (Ev.load (i := 1) rfl rfl Try.isAgg88 (v := Sl.v s91) ((ToR.get_Early gh0).off (by rfl))) ?_
  obtain ⟨r102, h103, H⟩ := bind_some H
  refine Lst.call rfl rfl (by decide) (vs := [Sl.v s91]) ⟨rfl, trivial⟩ Try.call140 (slices_Clone_api_Parcel_api_Parcel_sim h103 w0 _ _ _ (.refl _) (rdo 3 rfl rfl rfl)) (fun F106 L' v hF107 hv => ?_)
  obtain ⟨s104, rfl, rfl⟩ := hv
  refine Lst.r (Ev.fieldAddr (off' := 1) rfl Try.runUnderlying90 rfl Try.sizeOf88 rfl rfl) ?_
  refine Lst.store (i := 2) rfl rfl rfl rfl rfl Try.sizeOf88 (vs := [Sl.v s104]) rfl rfl rfl (cs' := enc (ToR.mk ({ y88 with Early := r102 } : To) s104)) ((ToR.put_Early (Put.here (vs := [Sl.v s104]) rfl)).off (by rfl)) (L' := (.own s104 92 2 (encs r102)) :: (.own s89 9 1 (encs l90)) :: (.blk b40 (enc (ToR.mk ({ y88 with Early := r102 } : To) s104)) 90) :: (.own s41 92 2 (encs l42)) :: (.own s91 92 2 (encs l92)) :: (.own Sl.nil 9 1 (encs ([] : List Str))) :: (.blk b6 (enc (ToR.mk ({ To.zero with Early := ([] : List Parcel) } : To) Sl.nil)) 90) :: (.own Sl.nil 92 2 (encs ([] : List Parcel))) :: (.blk b3 (enc a1) 92) :: (.blk b1 (enc (ToR.mk a0 s_a0_1)) 90) :: L) rfl ?_
  refine nsr ?_
  refine Lst.r (Ev.loadA (i := 2) rfl rfl Try.isAgg90 Try.sizeOf90 (ch := enc (ToR.mk ({ y88 with Early := r102 } : To) s104)) (Enc.len _) gh0) ?_
  refine mv0 rfl ?_
  refine Lst.store (i := 6) rfl rfl rfl rfl rfl Try.sizeOf90 (vs := enc (ToR.mk ({ y88 with Early := r102 } : To) s104)) rfl (Enc.len _) (Enc.one _) (cs' := enc (ToR.mk ({ y88 with Early := r102 } : To) s104)) (Put.here ((Enc.len _).trans (Enc.len _).symm)) (L' := (.own s104 92 2 (encs r102)) :: (.own s89 9 1 (encs l90)) :: (.blk b40 (enc (ToR.mk ({ y88 with Early := r102 } : To) s104)) 90) :: (.own s41 92 2 (encs l42)) :: (.own s91 92 2 (encs l92)) :: (.own Sl.nil 9 1 (encs ([] : List Str))) :: (.blk b6 (enc (ToR.mk ({ y88 with Early := r102 } : To) s104)) 90) :: (.own Sl.nil 92 2 (encs ([] : List Parcel))) :: (.blk b3 (enc a1) 92) :: (.blk b1 (enc (ToR.mk a0 s_a0_1)) 90) :: L) rfl ?_
  refine Lst.r (Ev.assign rfl) ?_
  refine Lst.r (Ev.assign rfl) ?_
  refine nt0 ?_
  obtain rfl := some_inj H
  refine Cd.ret ?_
  exact At.ret3 rfl (Res.cellA (i := 6) rfl rfl Try.isAgg90 Try.sizeOf90 (Enc.len _)) (Res.tmp rfl) (Res.tmp rfl) (FLe.trans (FLe.trans (FLe.trans (FLe.trans hF56 hF65) hF70) hF94) hF107) (sk1 (sk1 (sc1 (sc1 (sc1 (sc1 (sc1 (sc1 (sc1 (sc1 (.refl _))))))))))) ⟨s104, s89, rfl, rfl⟩
 replace H := ite_t hb101 H
 refine Cd.condT rfl hb101 ?_
 refine Cd.skip ?_
 refine At.then ?_
 refine Cd.block ?_
 refine sr0 ?_
 refine mv0 rfl ?_
 refine Lst.r (Ev.fieldAddr (off' := 1) rfl Try.runUnderlying90 rfl Try.sizeOf88 rfl rfl) ?_
 refine Lst.r (Ev.load (i := 1) rfl rfl Try.isAgg88 (v := Sl.v s91) ((ToR.get_Early gh0).off (by rfl))) ?_
 obtain ⟨x108, h109, H⟩ := bind_some H
 have g110 := lat_some h109
 refine Lst.r (Ev.indexS (α := Parcel) (xs := l92) rfl rfl Try.runUnderlying88 Try.sizeOf92 rfl (by decide) (rdo 3 rfl rfl rfl) g110.1 g110.2.1) ?_
 refine Lst.r (Ev.fieldS (α := Parcel) (f' := (0 : Int).toNat * 2 + 1) rfl (rdo 3 rfl rfl rfl) ((Get.elemN (s := 2) (x := x108) rfl g110.2.2 gh0).off (by omega)) rfl Try.runUnderlying92 rfl Try.sizeOf9 rfl rfl rfl) ?_
 refine Lst.r (Ev.loadS (α := Parcel) rfl (rdo 3 rfl rfl rfl) Try.isAgg9 (v := Str.v x108.Text) ((Get.elemN (s := 2) (x := x108) rfl g110.2.2 (Parcel.get_Text gh0)).off (by omega))) ?_
 refine Lst.buildSlice (α := Str) (xs := ([x108.Text] : List Str)) (pv := [(0, Str.v x108.Text)]) rfl rfl (by decide) ⟨rfl, rfl, trivial⟩ (run_buildSlice (α := Str) (z0 := ([] : Str)) (xs := ([x108.Text] : List Str)) Try.runUnderlying94 Try.sizeOf9 Try.zeroValue9 rfl rfl rfl (by decide) rfl (fill_cons (cs := encs (List.replicate 1 ([] : Str))) (cs' := encs ((List.replicate 1 ([] : Str)).set 0 x108.Text)) (vs := [Str.v x108.Text]) rfl rfl rfl ((Put.elemN (s := 1) (i := 0) (x := ([] : Str)) (y := x108.Text) rfl rfl (Put.here (vs := [Str.v x108.Text]) rfl)).off rfl) fill_nil)) rfl rfl (by decide) (fun s111 _ => ?_)
 obtain ⟨u113, h114, H⟩ := bind_some H
 refine Lst.append (i := 1) (α := Str) (xs := l90) (ys := ([x108.Text] : List Str)) rfl rfl (by decide) rfl rfl Try.runUnderlying94 Try.typeInfo9 rfl rfl rfl rfl rfl rfl (rdo 0 rfl rfl rfl) rfl (room_some h114) rfl (fun s115 => ?_)
 refine Lst.its (L' := (.own s111 9 1 (encs ([x108.Text] : List Str))) :: (.own s115 9 1 (encs (l90 ++ ([x108.Text] : List Str)))) :: (.blk b40 (enc (ToR.mk ({ y88 with Early := l92 } : To) s91)) 90) :: (.own s41 92 2 (encs l42)) :: (.own s91 92 2 (encs l92)) :: (.own Sl.nil 9 1 (encs ([] : List Str))) :: (.blk b6 (enc (ToR.mk ({ To.zero with Early := ([] : List Parcel) } : To) Sl.nil)) 90) :: (.own Sl.nil 92 2 (encs ([] : List Parcel))) :: (.blk b3 (enc a1) 92) :: (.blk b1 (enc (ToR.mk a0 s_a0_1)) 90) :: L) rfl ?_
 refine Lst.r (Ev.assign rfl) ?_
 refine nsr ?_
 refine Lst.r (Ev.fieldAddr (off' := 1) rfl Try.runUnderlying90 rfl Try.sizeOf88 rfl rfl) ?_
 refine Lst.r (Ev.load (i := 2) rfl rfl Try.isAgg88 (v := Sl.v s91) ((ToR.get_Early gh0).off (by rfl))) ?_
 obtain ⟨m116, h117, H⟩ := bind_some H
 obtain ⟨g118, gl119⟩ := cutL_some h117
 try dsimp only at g118
 refine Lst.r (Ev.cut (α := Parcel) (xs := l92) (i := (1 : Int)) (j := (l92.length : Int)) rfl rfl rfl Try.runUnderlying88 Try.sizeOf92 rfl (by decide) (rdo 4 rfl rfl rfl) g118.1 g118.2.1 g118.2.2) ?_
 refine Lst.cutOwn (i := 4) (α := Parcel) (lo := ((1 : Int) : Int).toNat) (hi := ((l92.length : Int) : Int).toNat) rfl rfl rfl (by decide) (by omega) (by omega) (L' := (.own s111 9 1 (encs ([x108.Text] : List Str))) :: (.own s115 9 1 (encs (l90 ++ ([x108.Text] : List Str)))) :: (.blk b40 (enc (ToR.mk y88 s91)) 90) :: (.own s41 92 2 (encs l42)) :: (.own (s91.cut ((1 : Int) : Int).toNat ((l92.length : Int) : Int).toNat 2) 92 2 (encs m116)) :: (.own Sl.nil 9 1 (encs ([] : List Str))) :: (.blk b6 (enc (ToR.mk ({ To.zero with Early := ([] : List Parcel) } : To) Sl.nil)) 90) :: (.own Sl.nil 92 2 (encs ([] : List Parcel))) :: (.blk b3 (enc a1) 92) :: (.blk b1 (enc (ToR.mk a0 s_a0_1)) 90) :: L) (by subst gl119; rfl) ?_
 refine Lst.r (Ev.fieldAddr (off' := 1) rfl Try.runUnderlying90 rfl Try.sizeOf88 rfl rfl) ?_
 refine Lst.store (i := 2) rfl rfl rfl rfl rfl Try.sizeOf88 (vs := [Sl.v (s91.cut ((1 : Int) : Int).toNat ((l92.length : Int) : Int).toNat 2)]) rfl rfl rfl (cs' := enc (ToR.mk ({ y88 with Early := m116 } : To) (s91.cut ((1 : Int) : Int).toNat ((l92.length : Int) : Int).toNat 2))) ((ToR.put_Early (Put.here (vs := [Sl.v (s91.cut ((1 : Int) : Int).toNat ((l92.length : Int) : Int).toNat 2)]) rfl)).off (by rfl)) (L' := (.own s111 9 1 (encs ([x108.Text] : List Str))) :: (.own s115 9 1 (encs (l90 ++ ([x108.Text] : List Str)))) :: (.blk b40 (enc (ToR.mk ({ y88 with Early := m116 } : To) (s91.cut ((1 : Int) : Int).toNat ((l92.length : Int) : Int).toNat 2))) 90) :: (.own s41 92 2 (encs l42)) :: (.own (s91.cut ((1 : Int) : Int).toNat ((l92.length : Int) : Int).toNat 2) 92 2 (encs m116)) :: (.own Sl.nil 9 1 (encs ([] : List Str))) :: (.blk b6 (enc (ToR.mk ({ To.zero with Early := ([] : List Parcel) } : To) Sl.nil)) 90) :: (.own Sl.nil 92 2 (encs ([] : List Parcel))) :: (.blk b3 (enc a1) 92) :: (.blk b1 (enc (ToR.mk a0 s_a0_1)) 90) :: L) rfl ?_
 refine nt0 ?_
 refine Cd.region ?_
 refine Lst.r (Ev.fieldAddr (off' := 0) rfl Try.runUnderlying90 rfl Try.sizeOf3 rfl rfl) ?_
 refine Lst.r (Ev.load (i := 2) rfl rfl Try.isAgg3 (v := iv y88.Next) ((ToR.get_Next gh0).off (by rfl))) ?_
 refine Lst.r (Ev.add rfl rfl) ?_
 refine Lst.r (Ev.fieldAddr (off' := 0) rfl Try.runUnderlying90 rfl Try.sizeOf3 rfl rfl) ?_
 obtain ⟨p121, h122, H⟩ := Let_some H
 refine Lst.store (i := 2) rfl rfl rfl rfl rfl Try.sizeOf3 (vs := [iv (w64 (y88.Next + (1 : Int)))]) rfl rfl rfl (cs' := enc (ToR.mk ({ y88 with Next := p121, Early := m116 } : To) (s91.cut ((1 : Int) : Int).toNat ((l92.length : Int) : Int).toNat 2))) (by rw [← h122]; exact (ToR.put_Next (Put.here (vs := [iv (w64 (y88.Next + (1 : Int)))]) rfl)).off (by rfl)) (L' := (.own s111 9 1 (encs ([x108.Text] : List Str))) :: (.own s115 9 1 (encs (l90 ++ ([x108.Text] : List Str)))) :: (.blk b40 (enc (ToR.mk ({ y88 with Next := p121, Early := m116 } : To) (s91.cut ((1 : Int) : Int).toNat ((l92.length : Int) : Int).toNat 2))) 90) :: (.own s41 92 2 (encs l42)) :: (.own (s91.cut ((1 : Int) : Int).toNat ((l92.length : Int) : Int).toNat 2) 92 2 (encs m116)) :: (.own Sl.nil 9 1 (encs ([] : List Str))) :: (.blk b6 (enc (ToR.mk ({ To.zero with Early := ([] : List Parcel) } : To) Sl.nil)) 90) :: (.own Sl.nil 92 2 (encs ([] : List Parcel))) :: (.blk b3 (enc a1) 92) :: (.blk b1 (enc (ToR.mk a0 s_a0_1)) 90) :: L) rfl ?_
 refine Lst.nil ?_
 refine At.in_normal ?_
 refine At.less (L' := (.own s115 9 1 (encs (l90 ++ ([x108.Text] : List Str)))) :: (.blk b40 (enc (ToR.mk ({ y88 with Next := p121, Early := m116 } : To) (s91.cut ((1 : Int) : Int).toNat ((l92.length : Int) : Int).toNat 2))) 90) :: (.own s41 92 2 (encs l42)) :: (.own (s91.cut ((1 : Int) : Int).toNat ((l92.length : Int) : Int).toNat 2) 92 2 (encs m116)) :: (.own Sl.nil 9 1 (encs ([] : List Str))) :: (.blk b6 (enc (ToR.mk ({ To.zero with Early := ([] : List Parcel) } : To) Sl.nil)) 90) :: (.own Sl.nil 92 2 (encs ([] : List Parcel))) :: (.blk b3 (enc a1) 92) :: (.blk b1 (enc (ToR.mk a0 s_a0_1)) 90) :: L) (sc1 (sk1 (sk1 (sk1 (sk1 (sk1 (sk1 (sk1 (sk1 (sk1 (.refl _))))))))))) ?_
 exact At.meet (k87, ({ y88 with Next := p121, Early := m116 } : To), s115, l90 ++ ([x108.Text] : List Str), (s91.cut ((1 : Int) : Int).toNat ((l92.length : Int) : Int).toNat 2), m116) hF94 ⟨rfl, rfl, rfl, trivial⟩ rfl ⟨hgo87 _ (some_inj H).symm, Nat.lt_succ_self _⟩
set_option maxRecDepth 20000 in
theorem slices_Equal_api_Parcel_api_Parcel_sim {a0 : List Parcel} {a1 : List Parcel} {s_a0 : Sl} {s_a1 : Sl} {r : Bool} (H : slices_Equal_api_Parcel_api_Parcel a0 a1 = some r) (w0 : World) (F : Frz) (M L : List Item) (hM : M.Sublist L) (hs_a0 : Rd w0 F M s_a0 a0) (hs_a1 : Rd w0 F M s_a1 a1) : Ok Try.prog w0 144 [Sl.v s_a0, Sl.v s_a1] F (L) (Is (.bool r) (L)) := by
 unfold slices_Equal_api_Parcel_api_Parcel at H
 refine Ok.enter (m := 2) (n := 26) Try.func144 rfl rfl rfl (by decide) ?_
 refine Cd.env (e' := [(0, Sl.v s_a0), (1, Sl.v s_a1)]) rfl ?_
 refine sr0 ?_
 refine Lst.r (Ev.assign rfl) ?_
 refine nt0 ?_
 refine Cd.seq ?_
 refine sr0 ?_
 refine mv0 rfl ?_
 refine Lst.r (Ev.lenS (α := Parcel) (xs := a0) (by decide) rfl rfl Try.runUnderlying88 (hs_a0.mono fl hM)) ?_
 refine mv0 rfl ?_
 refine Lst.r (Ev.lenS (α := Parcel) (xs := a1) (by decide) rfl rfl Try.runUnderlying88 (hs_a1.mono fl hM)) ?_
 refine Lst.r (Ev.neq rfl rfl) ?_
 refine nt0 ?_
 rcases Bool.eq_false_or_eq_true ((a0.length : Int) != (a1.length : Int)) with hb1 | hb1
 ·replace H := ite_t hb1 H
  refine Cd.condT rfl hb1 ?_
  refine sr0 ?_
  refine Lst.r (Ev.assign rfl) ?_
  refine nt0 ?_
  obtain rfl := some_inj H
  refine Cd.ret ?_
  refine At.then_ret ?_
  exact At.ret1 rfl (Res.tmp rfl) fl (.refl _) ⟨rfl, rfl⟩
 replace H := ite_f hb1 H
 refine Cd.condF rfl hb1 ?_
 refine Cd.skip ?_
 refine At.then ?_
 refine Cd.seq ?_
 refine sr0 ?_
 refine mv0 rfl ?_
 refine Lst.r (Ev.lenS (α := Parcel) (xs := a0) (by decide) rfl rfl Try.runUnderlying88 (hs_a0.mono fl hM)) ?_
 refine mv0 rfl ?_
 refine nt0 ?_
 refine Cd.block ?_
 refine Cd.bound (Rd.le (α := Parcel) (xs := a0) (by decide) (hs_a0.mono fl hM)) (fun hN12 => ?_)
 obtain ⟨ol2, H, HKl2⟩ := andThen_some H
 refine Cd.loop (σ := Nat × Nat × Unit) (fun (i2, k2, _u) => [(0, Sl.v s_a0), (1, Sl.v s_a1), (12, iv (a0.length : Int)), (13, iv (i2 : Int))]) (fun (i2, k2, _u) => L) (fun _ => (fun (i2, k2, _u) => rangeM (slices_Equal_api_Parcel_api_Parcel_B0 a0 a1) k2 i2 () = some ol2 ∧ i2 + k2 = a0.length)) (fun (i2, k2, _u) => k2) (0, a0.length, ()) ⟨rfl, rfl, rfl, rfl, trivial⟩ rfl ⟨H, by omega⟩ ?_
 rintro F3 ⟨i2, k2, _u⟩ hF4 ⟨H, hik2⟩
 refine Cd.as (e' := [(0, Sl.v s_a0), (1, Sl.v s_a1), (12, iv (a0.length : Int)), (13, iv (i2 : Int))]) (L' := L) ⟨rfl, rfl, rfl, rfl, trivial⟩ rfl ?_
 rcases k2 with _ | k2
 ·have hc2 : decide ((i2 : Int) < (a0.length : Int)) = false := decide_eq_false (by omega)
  replace H := rangeM_end H
  refine sr0 ?_
  refine Lst.r (Ev.lss rfl rfl) ?_
  refine nt0 ?_
  refine Cd.seq ?_
  refine Cd.condF rfl hc2 ?_
  refine Cd.exit ?_
  refine At.then_exit ?_
  refine At.then_exit ?_
  refine At.in_exit ?_
  subst H
  replace H := HKl2
  refine At.then ?_
  refine sr0 ?_
  refine Lst.r (Ev.assign rfl) ?_
  refine nt0 ?_
  obtain rfl := some_inj H
  refine Cd.ret ?_
  exact At.ret1 rfl (Res.tmp rfl) hF4 (.refl _) ⟨rfl, rfl⟩
 have hc2 : decide ((i2 : Int) < (a0.length : Int)) = true := decide_eq_true (by omega)
 obtain ⟨c2, H, hgo2, hbrk2, hret2⟩ := rangeM_go H
 unfold slices_Equal_api_Parcel_api_Parcel_B0 at H
 try dsimp only at H
 refine sr0 ?_
 refine Lst.r (Ev.lss rfl rfl) ?_
 refine nt0 ?_
 refine Cd.seq ?_
 refine Cd.condT rfl hc2 ?_
 refine Cd.skip ?_
 refine At.then ?_
 refine Cd.seq ?_
 refine Cd.block ?_
 refine sr0 ?_
 refine mv0 rfl ?_
 refine Lst.r (Ev.assign rfl) ?_
 refine nt0 ?_
 refine Cd.seq ?_
 refine Cd.quiet (by kernel_rfl) (by kernel_rfl) ?_
 refine Qt.r (Ev.move rfl) ?_
 refine Qt.r (Ev.move rfl) ?_
 obtain ⟨x5, h6, H⟩ := bind_some H
 have g7 := lat_some h6
 refine Qt.r (Ev.indexS (α := Parcel) (xs := a0) rfl rfl Try.runUnderlying88 Try.sizeOf92 rfl (by decide) (hs_a0.mono hF4 hM) g7.1 g7.2.1) ?_
 refine Qt.r (Ev.loadSA (α := Parcel) rfl (hs_a0.mono hF4 hM) Try.isAgg92 Try.sizeOf92 (ch := enc x5) (Enc.len _) (by decide) ((Get.elemN (s := 2) (x := x5) rfl g7.2.2 gh0).off (by omega))) ?_
 refine Qt.r (Ev.move rfl) ?_
 refine Qt.r (Ev.move rfl) ?_
 obtain ⟨x8, h9, H⟩ := bind_some H
 have g10 := lat_some h9
 refine Qt.r (Ev.indexS (α := Parcel) (xs := a1) rfl rfl Try.runUnderlying88 Try.sizeOf92 rfl (by decide) (hs_a1.mono hF4 hM) g10.1 g10.2.1) ?_
 refine Qt.r (Ev.loadSA (α := Parcel) rfl (hs_a1.mono hF4 hM) Try.isAgg92 Try.sizeOf92 (ch := enc x8) (Enc.len _) (by decide) ((Get.elemN (s := 2) (x := x8) rfl g10.2.2 gh0).off (by omega))) ?_
 refine Qt.r (Ev.neqA rfl rfl (by kernel_rfl) (eq92 _ _)) ?_
 refine Qt.done ?_
 refine At.then ?_
 rcases Bool.eq_false_or_eq_true (!(decide (x5 = x8))) with hb11 | hb11
 ·replace H := ite_t hb11 H
  refine Cd.condT rfl hb11 ?_
  refine Cd.seq ?_
  refine Cd.as (e' := []) (L' := L) trivial rfl ?_
  refine Cd.region ?_
  refine Lst.r (Ev.assign rfl) ?_
  refine nt0 ?_
  have H := hret2 _ (some_inj H).symm
  subst H
  replace H := HKl2
  obtain rfl := some_inj H
  refine Cd.ret ?_
  refine At.in_ret ?_
  refine At.then_ret ?_
  refine At.then_ret ?_
  refine At.in_ret ?_
  refine At.then_ret ?_
  exact At.ret1 rfl (Res.tmp rfl) hF4 (.refl _) ⟨rfl, rfl⟩
 replace H := ite_f hb11 H
 refine Cd.condF rfl hb11 ?_
 refine Cd.skip ?_
 refine At.in_normal ?_
 refine At.then ?_
 refine Cd.region ?_
 refine Lst.r (Ev.incr (by omega) rfl rfl) ?_
 refine mv0 rfl ?_
 refine Lst.nil ?_
 exact At.meet (i2 + 1, k2, ()) hF4 ⟨rfl, rfl, rfl, rfl, trivial⟩ rfl ⟨⟨hgo2 _ (some_inj H).symm, by omega⟩, Nat.lt_succ_self _⟩
set_option maxRecDepth 20000 in
theorem partref_SameTo_sim {a0 : To} {a1 : To} {s_a0_1 : Sl} {s_a1_1 : Sl} {r : Bool} (H : partref_SameTo a0 a1 = some r) (w0 : World) (F : Frz) (M L : List Item) (hM : M.Sublist L) (hs_a0_1 : Rd w0 F M s_a0_1 a0.Early) (hs_a1_1 : Rd w0 F M s_a1_1 a1.Early) : Ok Try.prog w0 55 [.agg (enc (ToR.mk a0 s_a0_1)).toArray, .agg (enc (ToR.mk a1 s_a1_1)).toArray] F (L) (Is (.bool r) (L)) := by
 unfold partref_SameTo at H
 refine Ok.enter (m := 2) (n := 17) Try.func55 rfl rfl rfl (by decide) ?_
 refine Cd.env (e' := [(0, .agg (enc (ToR.mk a0 s_a0_1)).toArray), (1, .agg (enc (ToR.mk a1 s_a1_1)).toArray)]) rfl ?_
 refine sr0 ?_
 refine Lst.box rfl rfl (by decide) rfl (cs := enc (ToR.mk a0 s_a0_1)) rfl (fun b1 => ?_)
 refine Lst.box rfl rfl (by decide) rfl (cs := enc (ToR.mk a1 s_a1_1)) rfl (fun b3 => ?_)
 refine Lst.r (Ev.assign rfl) ?_
 refine nsr ?_
 refine Lst.r (Ev.fieldAddr (off' := 0) rfl Try.runUnderlying90 rfl Try.sizeOf3 rfl rfl) ?_
 refine Lst.r (Ev.load (i := 1) rfl rfl Try.isAgg3 (v := iv a0.Next) ((ToR.get_Next gh0).off (by rfl))) ?_
 refine Lst.r (Ev.fieldAddr (off' := 0) rfl Try.runUnderlying90 rfl Try.sizeOf3 rfl rfl) ?_
 refine Lst.r (Ev.load (i := 0) rfl rfl Try.isAgg3 (v := iv a1.Next) ((ToR.get_Next gh0).off (by rfl))) ?_
 refine Lst.r (Ev.eql rfl rfl) ?_
 refine mv0 rfl ?_
 obtain ⟨o5, H, HKo5⟩ := bind_some H
 refine Lst.join (σ := Bool) 6 (fun y6 => [(16, .bool y6)]) (fun y6 => (.blk b3 (enc (ToR.mk a1 s_a1_1)) 90) :: (.blk b1 (enc (ToR.mk a0 s_a0_1)) 90) :: L) (fun _ y6 => y6 = o5) ?_ ?_
 ·rcases (Bool.eq_false_or_eq_true (a0.Next == a1.Next)).symm with hb7 | hb7
  ·replace H := ite_f hb7 H
   refine Lst.skip rfl rfl rfl hb7 rfl (by decide) ?_
   refine Lst.skip rfl rfl rfl hb7 rfl (by decide) ?_
   refine Lst.skip rfl rfl rfl hb7 rfl (by decide) ?_
   refine Lst.skip rfl rfl rfl hb7 rfl (by decide) ?_
   refine Lst.skip rfl rfl rfl hb7 rfl (by decide) ?_
   refine Lst.r (Ev.pickF rfl hb7 rfl) ?_
   refine Lst.nil ?_
   exact At.meet false fl ⟨rfl, trivial⟩ rfl (some_inj H)
  replace H := ite_t hb7 H
  refine Lst.rG hb7 (Ev.fieldAddr (off' := 1) rfl Try.runUnderlying90 rfl Try.sizeOf88 rfl rfl) ?_
  refine Lst.rG hb7 (Ev.load (i := 1) rfl rfl Try.isAgg88 (v := Sl.v s_a0_1) ((ToR.get_Early gh0).off (by rfl))) ?_
  refine Lst.rG hb7 (Ev.fieldAddr (off' := 1) rfl Try.runUnderlying90 rfl Try.sizeOf88 rfl rfl) ?_
  refine Lst.rG hb7 (Ev.load (i := 0) rfl rfl Try.isAgg88 (v := Sl.v s_a1_1) ((ToR.get_Early gh0).off (by rfl))) ?_
  obtain ⟨r8, h9, H⟩ := bind_some H
  refine Lst.call1G rfl rfl rfl hb7 rfl (by decide) (vs := [Sl.v s_a0_1, Sl.v s_a1_1]) ⟨rfl, rfl, trivial⟩ Try.call144 (slices_Equal_api_Parcel_api_Parcel_sim h9 w0 _ M _ (sc2 hM) (hs_a0_1.mono fl (.refl _)) (hs_a1_1.mono fl (.refl _))) ?_
  refine Lst.r (Ev.pickT rfl hb7 rfl) ?_
  refine Lst.nil ?_
  exact At.meet r8 fl ⟨rfl, trivial⟩ rfl (some_inj H)
 rintro F12 y6 hF13 hy
 subst hy
 refine Lst.as (e' := [(16, .bool y6)]) (L' := (.blk b3 (enc (ToR.mk a1 s_a1_1)) 90) :: (.blk b1 (enc (ToR.mk a0 s_a0_1)) 90) :: L) ⟨rfl, trivial⟩ rfl ?_
 replace H := HKo5
 refine Lst.r (Ev.assign rfl) ?_
 refine nt0 ?_
 obtain rfl := some_inj H
 refine Cd.ret ?_
 exact At.ret1 rfl (Res.tmp rfl) hF13 (sc1 (sc1 (.refl _))) ⟨rfl, rfl⟩
set_option maxRecDepth 20000 in
theorem partref_TakeParcel_sim {fu : Nat} {a0 : To} {a1 : Parcel} {s_a0_1 : Sl} {r : To × (List Str)} (H : partref_TakeParcel fu a0 a1 = some r) (w0 : World) (F : Frz) (M L : List Item) (hM : M.Sublist L) (hs_a0_1 : Rd w0 F M s_a0_1 a0.Early) : Ok Try.prog w0 56 [.agg (enc (ToR.mk a0 s_a0_1)).toArray, .agg (enc a1).toArray] F (L) (fun _ L' v => ∃ (s1 : Sl) (s3 : Sl), v = .tuple #[.agg (enc (ToR.mk r.1 s1)).toArray, Sl.v s3] ∧ L' = (.own s1 92 2 (encs r.1.Early)) :: (.own s3 9 1 (encs r.2)) :: L) := by
 unfold partref_TakeParcel at H
 refine Ok.enter (m := 2) (n := 108) Try.func56 rfl rfl rfl (by decide) ?_
 refine Cd.env (e' := [(0, .agg (enc (ToR.mk a0 s_a0_1)).toArray), (1, .agg (enc a1).toArray)]) rfl ?_
 refine sr0 ?_
 refine Lst.box rfl rfl (by decide) rfl (cs := enc (ToR.mk a0 s_a0_1)) rfl (fun b1 => ?_)
 refine Lst.box rfl rfl (by decide) rfl (cs := enc a1) rfl (fun b3 => ?_)
 refine Lst.addNil 92 2 ?_
 refine Lst.alloc (cs := enc (ToR.mk ({ To.zero with Early := ([] : List Parcel) } : To) Sl.nil)) rfl rfl (by decide) Try.zeroValue90 rfl (fun b6 => ?_)
 refine Lst.addNil 9 1 ?_
 refine Lst.r (Ev.assign rfl) ?_
 refine nsr ?_
 refine Lst.makeMap (fun x : Int => (iv x : Value)) (fun x : Str => (Str.v x : Value)) rfl rfl (by decide) (fun b9 => ?_)
 refine Lst.r (Ev.assign rfl) ?_
 refine nt0 ?_
 refine Cd.seq ?_
 refine sr0 ?_
 refine Lst.r (Ev.fieldAddr (off' := 1) rfl Try.runUnderlying90 rfl Try.sizeOf88 rfl rfl) ?_
 refine Lst.r (Ev.load (i := 5) rfl rfl Try.isAgg88 (v := Sl.v s_a0_1) ((ToR.get_Early gh0).off (by rfl))) ?_
 refine Lst.r (Ev.lenS (α := Parcel) (xs := a0.Early) (by decide) rfl rfl Try.runUnderlying88 (hs_a0_1.mono fl (sc4 (sc2 hM)))) ?_
 refine mv0 rfl ?_
 refine nt0 ?_
 refine Cd.block ?_
 refine Cd.bound (Rd.le (α := Parcel) (xs := a0.Early) (by decide) (hs_a0_1.mono fl (sc4 (sc2 hM)))) (fun hN87 => ?_)
 obtain ⟨ol11, H, HKl11⟩ := bind_some H
 refine Cd.loop (σ := Nat × Nat × (List (Int × Str))) (fun (i11, k11, l12) => [(2, pv b1 0), (3, pv b3 0), (4, pv b6 0), (6, .map (some b9)), (20, Sl.v s_a0_1), (21, iv (a0.Early.length : Int)), (22, iv (i11 : Int))]) (fun (i11, k11, l12) => (mitem b9 (fun x : Int => (iv x : Value)) (fun x : Str => (Str.v x : Value)) l12) :: (.own Sl.nil 9 1 (encs ([] : List Str))) :: (.blk b6 (enc (ToR.mk ({ To.zero with Early := ([] : List Parcel) } : To) Sl.nil)) 90) :: (.own Sl.nil 92 2 (encs ([] : List Parcel))) :: (.blk b3 (enc a1) 92) :: (.blk b1 (enc (ToR.mk a0 s_a0_1)) 90) :: L) (fun _ => (fun (i11, k11, l12) => rangeF (partref_TakeParcel_B0 a0) k11 i11 l12 = some ol11 ∧ i11 + k11 = a0.Early.length)) (fun (i11, k11, l12) => k11) (0, a0.Early.length, ([] : List (Int × Str))) ⟨rfl, rfl, rfl, rfl, rfl, rfl, rfl, trivial⟩ rfl ⟨H, by omega⟩ ?_
 rintro F13 ⟨i11, k11, l12⟩ hF14 ⟨H, hik11⟩
 refine Cd.as (e' := [(2, pv b1 0), (3, pv b3 0), (4, pv b6 0), (6, .map (some b9)), (20, Sl.v s_a0_1), (21, iv (a0.Early.length : Int)), (22, iv (i11 : Int))]) (L' := (mitem b9 (fun x : Int => (iv x : Value)) (fun x : Str => (Str.v x : Value)) l12) :: (.own Sl.nil 9 1 (encs ([] : List Str))) :: (.blk b6 (enc (ToR.mk ({ To.zero with Early := ([] : List Parcel) } : To) Sl.nil)) 90) :: (.own Sl.nil 92 2 (encs ([] : List Parcel))) :: (.blk b3 (enc a1) 92) :: (.blk b1 (enc (ToR.mk a0 s_a0_1)) 90) :: L) ⟨rfl, rfl, rfl, rfl, rfl, rfl, rfl, trivial⟩ rfl ?_
 rcases k11 with _ | k11
 ·have hc11 : decide ((i11 : Int) < (a0.Early.length : Int)) = false := decide_eq_false (by omega)
  replace H := rangeF_end H
  refine sr0 ?_
  refine Lst.r (Ev.lss rfl rfl) ?_
  refine nt0 ?_
  refine Cd.seq ?_
  refine Cd.condF rfl hc11 ?_
  refine Cd.exit ?_
  refine At.then_exit ?_
  refine At.then_exit ?_
  refine At.in_exit ?_
  subst H
  replace H := HKl11
  refine At.then ?_
  obtain ⟨o23, H, HKo23⟩ := bind_some H
  refine Cd.join (σ := (List (Int × Str))) (fun l22 => [(2, pv b1 0), (4, pv b6 0), (6, .map (some b9))]) (fun l22 => (mitem b9 (fun x : Int => (iv x : Value)) (fun x : Str => (Str.v x : Value)) l22) :: (.own Sl.nil 9 1 (encs ([] : List Str))) :: (.blk b6 (enc (ToR.mk ({ To.zero with Early := ([] : List Parcel) } : To) Sl.nil)) 90) :: (.own Sl.nil 92 2 (encs ([] : List Parcel))) :: (.blk b3 (enc a1) 92) :: (.blk b1 (enc (ToR.mk a0 s_a0_1)) 90) :: L) (fun _ l22 => l22 = o23) ?_ ?_
  ·refine sr0 ?_
   refine mv0 rfl ?_
   refine Lst.r (Ev.fieldAddr (off' := 0) rfl Try.runUnderlying92 rfl Try.sizeOf3 rfl rfl) ?_
   refine Lst.r (Ev.load (i := 4) rfl rfl Try.isAgg3 (v := iv a1.Seq) ((Parcel.get_Seq gh0).off (by rfl))) ?_
   refine Lst.r (Ev.lookup2 (i := 0) (kf := (fun x : Int => (iv x : Value))) (vf := (fun x : Str => (Str.v x : Value))) (m := l12) (k := a1.Seq) (z0 := ([] : Str)) rfl rfl rfl (KeyOk.int Try.runUnderlying3) Try.runUnderlying183 Try.zeroValue9) ?_
   refine mv0 rfl ?_
   refine Lst.r (Ev.extract rfl rfl) ?_
   refine Lst.r (Ev.extract rfl rfl) ?_
   refine Lst.r (Ev.assign rfl) ?_
   refine Lst.r (Ev.assign rfl) ?_
   refine nsr ?_
   refine mv0 rfl ?_
   refine Lst.r (Ev.not rfl) ?_
   refine mv0 rfl ?_
   obtain ⟨o24, H, HKo24⟩ := bind_some H
   refine Lst.join (σ := Bool) 6 (fun y25 => [(2, pv b1 0), (3, pv b3 0), (4, pv b6 0), (6, .map (some b9)), (47, .bool y25)]) (fun y25 => (mitem b9 (fun x : Int => (iv x : Value)) (fun x : Str => (Str.v x : Value)) l12) :: (.own Sl.nil 9 1 (encs ([] : List Str))) :: (.blk b6 (enc (ToR.mk ({ To.zero with Early := ([] : List Parcel) } : To) Sl.nil)) 90) :: (.own Sl.nil 92 2 (encs ([] : List Parcel))) :: (.blk b3 (enc a1) 92) :: (.blk b1 (enc (ToR.mk a0 s_a0_1)) 90) :: L) (fun _ y25 => y25 = o24) ?_ ?_
   ·rcases (Bool.eq_false_or_eq_true (!((mget l12 a1.Seq).isSome))).symm with hb26 | hb26
    ·replace H := ite_f hb26 H
     refine Lst.skip rfl rfl rfl hb26 rfl (by decide) ?_
     refine Lst.skip rfl rfl rfl hb26 rfl (by decide) ?_
     refine Lst.skip rfl rfl rfl hb26 rfl (by decide) ?_
     refine Lst.skip rfl rfl rfl hb26 rfl (by decide) ?_
     refine Lst.skip rfl rfl rfl hb26 rfl (by decide) ?_
     refine Lst.r (Ev.pickF rfl hb26 rfl) ?_
     refine Lst.nil ?_
     exact At.meet false fl ⟨rfl, rfl, rfl, rfl, rfl, trivial⟩ rfl (some_inj H)
    replace H := ite_t hb26 H
    refine Lst.rG hb26 (Ev.fieldAddr (off' := 0) rfl Try.runUnderlying92 rfl Try.sizeOf3 rfl rfl) ?_
    refine Lst.rG hb26 (Ev.load (i := 4) rfl rfl Try.isAgg3 (v := iv a1.Seq) ((Parcel.get_Seq gh0).off (by rfl))) ?_
    refine Lst.rG hb26 (Ev.fieldAddr (off' := 0) rfl Try.runUnderlying90 rfl Try.sizeOf3 rfl rfl) ?_
    refine Lst.rG hb26 (Ev.load (i := 5) rfl rfl Try.isAgg3 (v := iv a0.Next) ((ToR.get_Next gh0).off (by rfl))) ?_
    refine Lst.rG hb26 (Ev.geq rfl rfl) ?_
    refine Lst.r (Ev.pickT rfl hb26 rfl) ?_
    refine Lst.nil ?_
    exact At.meet (decide (a1.Seq ≥ a0.Next)) fl ⟨rfl, rfl, rfl, rfl, rfl, trivial⟩ rfl (some_inj H)
   rintro F27 y25 hF28 hy
   subst hy
   refine Lst.as (e' := [(2, pv b1 0), (3, pv b3 0), (4, pv b6 0), (6, .map (some b9)), (47, .bool y25)]) (L' := (mitem b9 (fun x : Int => (iv x : Value)) (fun x : Str => (Str.v x : Value)) l12) :: (.own Sl.nil 9 1 (encs ([] : List Str))) :: (.blk b6 (enc (ToR.mk ({ To.zero with Early := ([] : List Parcel) } : To) Sl.nil)) 90) :: (.own Sl.nil 92 2 (encs ([] : List Parcel))) :: (.blk b3 (enc a1) 92) :: (.blk b1 (enc (ToR.mk a0 s_a0_1)) 90) :: L) ⟨rfl, rfl, rfl, rfl, rfl, trivial⟩ rfl ?_
   replace H := HKo24
   refine mv0 rfl ?_
   obtain ⟨o29, H, HKo29⟩ := bind_some H
   refine Lst.join (σ := Bool) 7 (fun y30 => [(2, pv b1 0), (3, pv b3 0), (4, pv b6 0), (6, .map (some b9)), (55, .bool y30)]) (fun y30 => (mitem b9 (fun x : Int => (iv x : Value)) (fun x : Str => (Str.v x : Value)) l12) :: (.own Sl.nil 9 1 (encs ([] : List Str))) :: (.blk b6 (enc (ToR.mk ({ To.zero with Early := ([] : List Parcel) } : To) Sl.nil)) 90) :: (.own Sl.nil 92 2 (encs ([] : List Parcel))) :: (.blk b3 (enc a1) 92) :: (.blk b1 (enc (ToR.mk a0 s_a0_1)) 90) :: L) (fun _ y30 => y30 = o29) ?_ ?_
   ·rcases (Bool.eq_false_or_eq_true y25).symm with hb31 | hb31
    ·replace H := ite_f hb31 H
     refine Lst.skip rfl rfl rfl hb31 rfl (by decide) ?_
     refine Lst.skip rfl rfl rfl hb31 rfl (by decide) ?_
     refine Lst.skip rfl rfl rfl hb31 rfl (by decide) ?_
     refine Lst.skip rfl rfl rfl hb31 rfl (by decide) ?_
     refine Lst.skip rfl rfl rfl hb31 rfl (by decide) ?_
     refine Lst.skip rfl rfl rfl hb31 rfl (by decide) ?_
     refine Lst.r (Ev.pickF rfl hb31 rfl) ?_
     refine Lst.nil ?_
     exact At.meet false fl ⟨rfl, rfl, rfl, rfl, rfl, trivial⟩ rfl (some_inj H)
    replace H := ite_t hb31 H
    refine Lst.rG hb31 (Ev.fieldAddr (off' := 0) rfl Try.runUnderlying92 rfl Try.sizeOf3 rfl rfl) ?_
    refine Lst.rG hb31 (Ev.load (i := 4) rfl rfl Try.isAgg3 (v := iv a1.Seq) ((Parcel.get_Seq gh0).off (by rfl))) ?_
    refine Lst.rG hb31 (Ev.fieldAddr (off' := 0) rfl Try.runUnderlying90 rfl Try.sizeOf3 rfl rfl) ?_
    refine Lst.rG hb31 (Ev.load (i := 5) rfl rfl Try.isAgg3 (v := iv a0.Next) ((ToR.get_Next gh0).off (by rfl))) ?_
    refine Lst.rG hb31 (Ev.add rfl rfl) ?_
    refine Lst.rG hb31 (Ev.lss rfl rfl) ?_
    refine Lst.r (Ev.pickT rfl hb31 rfl) ?_
    refine Lst.nil ?_
    exact At.meet (decide (a1.Seq < (w64 (a0.Next + (16 : Int))))) fl ⟨rfl, rfl, rfl, rfl, rfl, trivial⟩ rfl (some_inj H)
   rintro F32 y30 hF33 hy
   subst hy
   refine Lst.as (e' := [(2, pv b1 0), (3, pv b3 0), (4, pv b6 0), (6, .map (some b9)), (55, .bool y30)]) (L' := (mitem b9 (fun x : Int => (iv x : Value)) (fun x : Str => (Str.v x : Value)) l12) :: (.own Sl.nil 9 1 (encs ([] : List Str))) :: (.blk b6 (enc (ToR.mk ({ To.zero with Early := ([] : List Parcel) } : To) Sl.nil)) 90) :: (.own Sl.nil 92 2 (encs ([] : List Parcel))) :: (.blk b3 (enc a1) 92) :: (.blk b1 (enc (ToR.mk a0 s_a0_1)) 90) :: L) ⟨rfl, rfl, rfl, rfl, rfl, trivial⟩ rfl ?_
   replace H := HKo29
   refine nt0 ?_
   rcases (Bool.eq_false_or_eq_true y30).symm with hb34 | hb34
   ·replace H := ite_f hb34 H
    refine Cd.condF rfl hb34 ?_
    refine Cd.skip ?_
    exact At.meet l12 (FLe.trans hF28 hF33) ⟨rfl, rfl, rfl, trivial⟩ rfl (some_inj H)
   replace H := ite_t hb34 H
   refine Cd.condT rfl hb34 ?_
   refine Cd.region ?_
   refine mv0 rfl ?_
   refine Lst.r (Ev.fieldAddr (off' := 0) rfl Try.runUnderlying92 rfl Try.sizeOf3 rfl rfl) ?_
   refine Lst.r (Ev.load (i := 4) rfl rfl Try.isAgg3 (v := iv a1.Seq) ((Parcel.get_Seq gh0).off (by rfl))) ?_
   refine Lst.r (Ev.fieldAddr (off' := 1) rfl Try.runUnderlying92 rfl Try.sizeOf9 rfl rfl) ?_
   refine Lst.r (Ev.load (i := 4) rfl rfl Try.isAgg9 (v := Str.v a1.Text) ((Parcel.get_Text gh0).off (by rfl))) ?_
   obtain ⟨m35, h36, H⟩ := Let_some H
   refine Lst.mapUpdate (i := 0) (kf := (fun x : Int => (iv x : Value))) (vf := (fun x : Str => (Str.v x : Value))) (m := l12) (k := a1.Seq) (v := a1.Text) rfl rfl rfl rfl rfl rfl (KeyOk.int Try.runUnderlying3) Try.runUnderlying183 ?_
   refine Lst.its (L' := (mitem b9 (fun x : Int => (iv x : Value)) (fun x : Str => (Str.v x : Value)) m35) :: (.own Sl.nil 9 1 (encs ([] : List Str))) :: (.blk b6 (enc (ToR.mk ({ To.zero with Early := ([] : List Parcel) } : To) Sl.nil)) 90) :: (.own Sl.nil 92 2 (encs ([] : List Parcel))) :: (.blk b3 (enc a1) 92) :: (.blk b1 (enc (ToR.mk a0 s_a0_1)) 90) :: L) (by rw [← h36]; rfl) ?_
   refine Lst.nil ?_
   exact At.meet m35 (FLe.trans hF28 hF33) ⟨rfl, rfl, rfl, trivial⟩ rfl (some_inj H)
  rintro F37 l22 hF38 hy
  subst hy
  refine Cd.as (e' := [(2, pv b1 0), (4, pv b6 0), (6, .map (some b9))]) (L' := (mitem b9 (fun x : Int => (iv x : Value)) (fun x : Str => (Str.v x : Value)) l22) :: (.own Sl.nil 9 1 (encs ([] : List Str))) :: (.blk b6 (enc (ToR.mk ({ To.zero with Early := ([] : List Parcel) } : To) Sl.nil)) 90) :: (.own Sl.nil 92 2 (encs ([] : List Parcel))) :: (.blk b3 (enc a1) 92) :: (.blk b1 (enc (ToR.mk a0 s_a0_1)) 90) :: L) ⟨rfl, rfl, rfl, trivial⟩ rfl ?_
  replace H := HKo23
  refine sr0 ?_
  refine Lst.r (Ev.fieldAddr (off' := 0) rfl Try.runUnderlying90 rfl Try.sizeOf3 rfl rfl) ?_
  refine Lst.r (Ev.load (i := 5) rfl rfl Try.isAgg3 (v := iv a0.Next) ((ToR.get_Next gh0).off (by rfl))) ?_
  refine Lst.r (Ev.build (v := .agg (enc (ToR.mk ({ To.zero with Next := a0.Next } : To) Sl.nil)).toArray) (pv := [(0, iv a0.Next)]) ⟨rfl, rfl, trivial⟩ (fun w => by kernel_rfl)) ?_
  refine Lst.addNil 92 2 ?_
  refine Lst.alloc (cs := enc (ToR.mk ({ To.zero with Early := ([] : List Parcel) } : To) Sl.nil)) rfl rfl (by decide) Try.zeroValue90 rfl (fun b40 => ?_)
  refine Lst.store (i := 0) rfl rfl rfl rfl rfl Try.sizeOf90 (vs := enc (ToR.mk ({ To.zero with Next := a0.Next } : To) Sl.nil)) rfl (Enc.len _) (Enc.one _) (cs' := enc (ToR.mk ({ To.zero with Next := a0.Next } : To) Sl.nil)) (Put.here ((Enc.len _).trans (Enc.len _).symm)) (L' := (.blk b40 (enc (ToR.mk ({ To.zero with Next := a0.Next } : To) Sl.nil)) 90) :: (.own Sl.nil 92 2 (encs ([] : List Parcel))) :: (mitem b9 (fun x : Int => (iv x : Value)) (fun x : Str => (Str.v x : Value)) l22) :: (.own Sl.nil 9 1 (encs ([] : List Str))) :: (.blk b6 (enc (ToR.mk ({ To.zero with Early := ([] : List Parcel) } : To) Sl.nil)) 90) :: (.own Sl.nil 92 2 (encs ([] : List Parcel))) :: (.blk b3 (enc a1) 92) :: (.blk b1 (enc (ToR.mk a0 s_a0_1)) 90) :: L) rfl ?_
  refine nsr ?_
  refine Lst.addNil 9 1 ?_
  refine Lst.r (Ev.assign rfl) ?_
  refine nt0 ?_
  refine Cd.seq ?_
  refine Cd.block ?_
  obtain ⟨ol43, H, HKl43⟩ := andThen_some H
  refine Cd.loop (σ := Nat × To × Sl × (List Str)) (fun (k43, y44, s45, l46) => [(2, pv b1 0), (4, pv b6 0), (6, .map (some b9)), (11, pv b40 0), (12, Sl.v s45)]) (fun (k43, y44, s45, l46) => (.own s45 9 1 (encs l46)) :: (.blk b40 (enc (ToR.mk ({ y44 with Early := [] } : To) Sl.nil)) 90) :: (.own Sl.nil 92 2 (encs ([] : List Parcel))) :: (mitem b9 (fun x : Int => (iv x : Value)) (fun x : Str => (Str.v x : Value)) l22) :: (.own Sl.nil 9 1 (encs ([] : List Str))) :: (.blk b6 (enc (ToR.mk ({ To.zero with Early := ([] : List Parcel) } : To) Sl.nil)) 90) :: (.own Sl.nil 92 2 (encs ([] : List Parcel))) :: (.blk b3 (enc a1) 92) :: (.blk b1 (enc (ToR.mk a0 s_a0_1)) 90) :: L) (fun _ => (fun (k43, y44, s45, l46) => whileM (partref_TakeParcel_B2 l22) k43 (y44, l46) = some ol43)) (fun (k43, y44, s45, l46) => k43) (fu, ({ To.zero with Next := a0.Next } : To), Sl.nil, ([] : List Str)) ⟨rfl, rfl, rfl, rfl, rfl, trivial⟩ rfl H ?_
  rintro F47 ⟨k43, y44, s45, l46⟩ hF48 H
  refine Cd.as (e' := [(2, pv b1 0), (4, pv b6 0), (6, .map (some b9)), (11, pv b40 0), (12, Sl.v s45)]) (L' := (.own s45 9 1 (encs l46)) :: (.blk b40 (enc (ToR.mk ({ y44 with Early := [] } : To) Sl.nil)) 90) :: (.own Sl.nil 92 2 (encs ([] : List Parcel))) :: (mitem b9 (fun x : Int => (iv x : Value)) (fun x : Str => (Str.v x : Value)) l22) :: (.own Sl.nil 9 1 (encs ([] : List Str))) :: (.blk b6 (enc (ToR.mk ({ To.zero with Early := ([] : List Parcel) } : To) Sl.nil)) 90) :: (.own Sl.nil 92 2 (encs ([] : List Parcel))) :: (.blk b3 (enc a1) 92) :: (.blk b1 (enc (ToR.mk a0 s_a0_1)) 90) :: L) ⟨rfl, rfl, rfl, rfl, rfl, trivial⟩ rfl ?_
  rcases k43 with _ | k43
  ·cases H
  obtain ⟨c43, H, hgo43, hbrk43, hret43⟩ := whileM_go H
  unfold partref_TakeParcel_B2 at H
  try dsimp only at H
  refine Cd.block ?_
  refine sr0 ?_
  refine mv0 rfl ?_
  refine Lst.r (Ev.fieldAddr (off' := 0) rfl Try.runUnderlying90 rfl Try.sizeOf3 rfl rfl) ?_
  refine Lst.r (Ev.load (i := 1) rfl rfl Try.isAgg3 (v := iv y44.Next) ((ToR.get_Next gh0).off (by rfl))) ?_
  refine Lst.r (Ev.lookup2 (i := 3) (kf := (fun x : Int => (iv x : Value))) (vf := (fun x : Str => (Str.v x : Value))) (m := l22) (k := y44.Next) (z0 := ([] : Str)) rfl rfl rfl (KeyOk.int Try.runUnderlying3) Try.runUnderlying183 Try.zeroValue9) ?_
  refine mv0 rfl ?_
  refine Lst.r (Ev.extract rfl rfl) ?_
  refine Lst.r (Ev.extract rfl rfl) ?_
  refine Lst.r (Ev.assign rfl) ?_
  refine Lst.r (Ev.assign rfl) ?_
  refine nt0 ?_
  refine Cd.seq ?_
  refine sr0 ?_
  refine mv0 rfl ?_
  refine Lst.r (Ev.not rfl) ?_
  refine nt0 ?_
  rcases Bool.eq_false_or_eq_true (!((mget l22 y44.Next).isSome)) with hb49 | hb49
  ·replace H := ite_t hb49 H
   refine Cd.condT rfl hb49 ?_
   refine Cd.exit ?_
   refine At.then_exit ?_
   refine At.in_other rfl ?_
   refine At.then_exit ?_
   refine At.in_exit ?_
   have H := hbrk43 _ (some_inj H).symm
   subst H
   replace H := HKl43
   refine At.then ?_
   refine Cd.seq ?_
   refine sr0 ?_
   refine Lst.r (Ev.fieldAddr (off' := 0) rfl Try.runUnderlying90 rfl Try.sizeOf3 rfl rfl) ?_
   refine Lst.r (Ev.load (i := 1) rfl rfl Try.isAgg3 (v := iv y44.Next) ((ToR.get_Next gh0).off (by rfl))) ?_
   refine Lst.r (Ev.add rfl rfl) ?_
   refine Lst.r (Ev.assign rfl) ?_
   refine nt0 ?_
   refine Cd.block ?_
   refine Cd.addNil 92 2 ?_
   obtain ⟨ol50, H, HKl50⟩ := andThen_some H
   refine Cd.loop (σ := Nat × Int × To × Sl) (fun (k50, y52, y53, s54) => [(2, pv b1 0), (4, pv b6 0), (6, .map (some b9)), (11, pv b40 0), (12, Sl.v s45), (15, iv y52)]) (fun (k50, y52, y53, s54) => (.own s54 92 2 (encs y53.Early)) :: (.own s45 9 1 (encs l46)) :: (.blk b40 (enc (ToR.mk y53 s54)) 90) :: (.own Sl.nil 92 2 (encs ([] : List Parcel))) :: (mitem b9 (fun x : Int => (iv x : Value)) (fun x : Str => (Str.v x : Value)) l22) :: (.own Sl.nil 9 1 (encs ([] : List Str))) :: (.blk b6 (enc (ToR.mk ({ To.zero with Early := ([] : List Parcel) } : To) Sl.nil)) 90) :: (.own Sl.nil 92 2 (encs ([] : List Parcel))) :: (.blk b3 (enc a1) 92) :: (.blk b1 (enc (ToR.mk a0 s_a0_1)) 90) :: L) (fun _ => (fun (k50, y52, y53, s54) => whileM (partref_TakeParcel_B4 a0 l22) k50 (y52, y53) = some ol50)) (fun (k50, y52, y53, s54) => k50) (fu, w64 (y44.Next + (1 : Int)), ({ y44 with Early := ([] : List Parcel) } : To), Sl.nil) ⟨rfl, rfl, rfl, rfl, rfl, rfl, trivial⟩ rfl H ?_
   rintro F56 ⟨k50, y52, y53, s54⟩ hF57 H
   refine Cd.as (e' := [(2, pv b1 0), (4, pv b6 0), (6, .map (some b9)), (11, pv b40 0), (12, Sl.v s45), (15, iv y52)]) (L' := (.own s54 92 2 (encs y53.Early)) :: (.own s45 9 1 (encs l46)) :: (.blk b40 (enc (ToR.mk y53 s54)) 90) :: (.own Sl.nil 92 2 (encs ([] : List Parcel))) :: (mitem b9 (fun x : Int => (iv x : Value)) (fun x : Str => (Str.v x : Value)) l22) :: (.own Sl.nil 9 1 (encs ([] : List Str))) :: (.blk b6 (enc (ToR.mk ({ To.zero with Early := ([] : List Parcel) } : To) Sl.nil)) 90) :: (.own Sl.nil 92 2 (encs ([] : List Parcel))) :: (.blk b3 (enc a1) 92) :: (.blk b1 (enc (ToR.mk a0 s_a0_1)) 90) :: L) ⟨rfl, rfl, rfl, rfl, rfl, rfl, trivial⟩ rfl ?_
   rcases k50 with _ | k50
   ·cases H
   obtain ⟨c50, H, hgo50, hbrk50, hret50⟩ := whileM_go H
   unfold partref_TakeParcel_B4 at H
   try dsimp only at H
   refine Cd.seq ?_
   refine sr0 ?_
   refine mv0 rfl ?_
   refine Lst.r (Ev.fieldAddr (off' := 0) rfl Try.runUnderlying90 rfl Try.sizeOf3 rfl rfl) ?_
   refine Lst.r (Ev.load (i := 9) rfl rfl Try.isAgg3 (v := iv a0.Next) ((ToR.get_Next gh0).off (by rfl))) ?_
   refine Lst.r (Ev.add rfl rfl) ?_
   refine Lst.r (Ev.lss rfl rfl) ?_
   refine nt0 ?_
   rcases (Bool.eq_false_or_eq_true (decide (y52 < (w64 (a0.Next + (16 : Int)))))).symm with hb58 | hb58
   ·replace H := ite_f hb58 H
    refine Cd.condF rfl hb58 ?_
    refine Cd.exit ?_
    refine At.then_exit ?_
    refine At.then_exit ?_
    refine At.in_exit ?_
    have H := hbrk50 _ (some_inj H).symm
    subst H
    replace H := HKl50
    refine At.then ?_
    refine sr0 ?_
    refine Lst.r (Ev.loadA (i := 2) rfl rfl Try.isAgg90 Try.sizeOf90 (ch := enc (ToR.mk y53 s54)) (Enc.len _) gh0) ?_
    refine mv0 rfl ?_
    refine Lst.store (i := 6) rfl rfl rfl rfl rfl Try.sizeOf90 (vs := enc (ToR.mk y53 s54)) rfl (Enc.len _) (Enc.one _) (cs' := enc (ToR.mk y53 s54)) (Put.here ((Enc.len _).trans (Enc.len _).symm)) (L' := (.own s54 92 2 (encs y53.Early)) :: (.own s45 9 1 (encs l46)) :: (.blk b40 (enc (ToR.mk y53 s54)) 90) :: (.own Sl.nil 92 2 (encs ([] : List Parcel))) :: (mitem b9 (fun x : Int => (iv x : Value)) (fun x : Str => (Str.v x : Value)) l22) :: (.own Sl.nil 9 1 (encs ([] : List Str))) :: (.blk b6 (enc (ToR.mk y53 s54)) 90) :: (.own Sl.nil 92 2 (encs ([] : List Parcel))) :: (.blk b3 (enc a1) 92) :: (.blk b1 (enc (ToR.mk a0 s_a0_1)) 90) :: L) rfl ?_
    refine Lst.r (Ev.assign rfl) ?_
    refine nt0 ?_
    obtain rfl := some_inj H
    refine Cd.ret ?_
    exact At.ret2 rfl (Res.cellA (i := 6) rfl rfl Try.isAgg90 Try.sizeOf90 (Enc.len _)) (Res.tmp rfl) (FLe.trans (FLe.trans (FLe.trans hF14 hF38) hF48) hF57) (sk1 (sk1 (sc1 (sc1 (sc1 (sc1 (sc1 (sc1 (sc1 (sc1 (.refl _))))))))))) ⟨s54, s45, rfl, rfl⟩
   replace H := ite_t hb58 H
   refine Cd.condT rfl hb58 ?_
   refine Cd.skip ?_
   refine At.then ?_
   refine Cd.seq ?_
   refine Cd.block ?_
   refine sr0 ?_
   refine mv0 rfl ?_
   refine mv0 rfl ?_
   refine Lst.r (Ev.lookup2 (i := 4) (kf := (fun x : Int => (iv x : Value))) (vf := (fun x : Str => (Str.v x : Value))) (m := l22) (k := y52) (z0 := ([] : Str)) rfl rfl rfl (KeyOk.int Try.runUnderlying3) Try.runUnderlying183 Try.zeroValue9) ?_
   refine mv0 rfl ?_
   refine Lst.r (Ev.extract rfl rfl) ?_
   refine Lst.r (Ev.extract rfl rfl) ?_
   refine Lst.r (Ev.assign rfl) ?_
   refine Lst.r (Ev.assign rfl) ?_
   refine nsr ?_
   refine mv0 rfl ?_
   refine nt0 ?_
   rcases (Bool.eq_false_or_eq_true ((mget l22 y52).isSome)).symm with hb59 | hb59
   ·replace H := ite_f hb59 H
    refine Cd.condF rfl hb59 ?_
    refine Cd.skip ?_
    refine At.in_normal ?_
    refine At.then ?_
    refine Cd.region ?_
    refine mv0 rfl ?_
    refine Lst.r (Ev.add rfl rfl) ?_
    refine Lst.r (Ev.assign rfl) ?_
    refine Lst.nil ?_
    exact At.meet (k50, w64 (y52 + (1 : Int)), y53, s54) hF57 ⟨rfl, rfl, rfl, rfl, rfl, rfl, trivial⟩ rfl ⟨hgo50 _ (some_inj H).symm, Nat.lt_succ_self _⟩
   replace H := ite_t hb59 H
   refine Cd.condT rfl hb59 ?_
   refine Cd.region ?_
   refine Lst.r (Ev.fieldAddr (off' := 1) rfl Try.runUnderlying90 rfl Try.sizeOf88 rfl rfl) ?_
   refine Lst.r (Ev.load (i := 2) rfl rfl Try.isAgg88 (v := Sl.v s54) ((ToR.get_Early gh0).off (by rfl))) ?_
   refine mv0 rfl ?_
   refine mv0 rfl ?_
   refine Lst.r (Ev.build (v := .agg (enc ({ Parcel.zero with Seq := y52, Text := (mget l22 y52).getD ([] : Str) } : Parcel)).toArray) (pv := [(0, iv y52), (1, Str.v ((mget l22 y52).getD ([] : Str)))]) ⟨rfl, rfl, ⟨rfl, rfl, trivial⟩⟩ (fun w => by kernel_rfl)) ?_
   refine Lst.buildSlice (α := Parcel) (xs := ([({ Parcel.zero with Seq := y52, Text := (mget l22 y52).getD ([] : Str) } : Parcel)] : List Parcel)) (pv := [(0, .agg (enc ({ Parcel.zero with Seq := y52, Text := (mget l22 y52).getD ([] : Str) } : Parcel)).toArray)]) rfl rfl (by decide) ⟨rfl, rfl, trivial⟩ (run_buildSlice (α := Parcel) (z0 := Parcel.zero) (xs := ([({ Parcel.zero with Seq := y52, Text := (mget l22 y52).getD ([] : Str) } : Parcel)] : List Parcel)) Try.runUnderlying88 Try.sizeOf92 Try.zeroValue92 rfl rfl rfl (by decide) rfl (fill_cons (cs := encs (List.replicate 1 Parcel.zero)) (cs' := encs ((List.replicate 1 Parcel.zero).set 0 ({ Parcel.zero with Seq := y52, Text := (mget l22 y52).getD ([] : Str) } : Parcel))) (vs := enc ({ Parcel.zero with Seq := y52, Text := (mget l22 y52).getD ([] : Str) } : Parcel)) rfl rfl (Enc.len _) ((Put.elemN (s := 2) (i := 0) (x := Parcel.zero) (y := ({ Parcel.zero with Seq := y52, Text := (mget l22 y52).getD ([] : Str) } : Parcel)) rfl rfl (Put.here ((Enc.len _).trans (Enc.len _).symm))).off rfl) fill_nil)) rfl rfl (by decide) (fun s60 _ => ?_)
   obtain ⟨u62, h63, H⟩ := bind_some H
   refine Lst.append (i := 1) (α := Parcel) (xs := y53.Early) (ys := ([({ Parcel.zero with Seq := y52, Text := (mget l22 y52).getD ([] : Str) } : Parcel)] : List Parcel)) rfl rfl (by decide) rfl rfl Try.runUnderlying88 Try.typeInfo92 rfl rfl rfl rfl rfl rfl (rdo 0 rfl rfl rfl) rfl (room_some h63) rfl (fun s64 => ?_)
   refine Lst.its (L' := (.own s60 92 2 (encs ([({ Parcel.zero with Seq := y52, Text := (mget l22 y52).getD ([] : Str) } : Parcel)] : List Parcel))) :: (.own s64 92 2 (encs (y53.Early ++ ([({ Parcel.zero with Seq := y52, Text := (mget l22 y52).getD ([] : Str) } : Parcel)] : List Parcel)))) :: (.own s45 9 1 (encs l46)) :: (.blk b40 (enc (ToR.mk y53 s54)) 90) :: (.own Sl.nil 92 2 (encs ([] : List Parcel))) :: (mitem b9 (fun x : Int => (iv x : Value)) (fun x : Str => (Str.v x : Value)) l22) :: (.own Sl.nil 9 1 (encs ([] : List Str))) :: (.blk b6 (enc (ToR.mk ({ To.zero with Early := ([] : List Parcel) } : To) Sl.nil)) 90) :: (.own Sl.nil 92 2 (encs ([] : List Parcel))) :: (.blk b3 (enc a1) 92) :: (.blk b1 (enc (ToR.mk a0 s_a0_1)) 90) :: L) rfl ?_
   refine Lst.r (Ev.fieldAddr (off' := 1) rfl Try.runUnderlying90 rfl Try.sizeOf88 rfl rfl) ?_
   refine Lst.store (i := 3) rfl rfl rfl rfl rfl Try.sizeOf88 (vs := [Sl.v s64]) rfl rfl rfl (cs' := enc (ToR.mk ({ y53 with Early := y53.Early ++ ([({ Parcel.zero with Seq := y52, Text := (mget l22 y52).getD ([] : Str) } : Parcel)] : List Parcel) } : To) s64)) ((ToR.put_Early (Put.here (vs := [Sl.v s64]) rfl)).off (by rfl)) (L' := (.own s60 92 2 (encs ([({ Parcel.zero with Seq := y52, Text := (mget l22 y52).getD ([] : Str) } : Parcel)] : List Parcel))) :: (.own s64 92 2 (encs (y53.Early ++ ([({ Parcel.zero with Seq := y52, Text := (mget l22 y52).getD ([] : Str) } : Parcel)] : List Parcel)))) :: (.own s45 9 1 (encs l46)) :: (.blk b40 (enc (ToR.mk ({ y53 with Early := y53.Early ++ ([({ Parcel.zero with Seq := y52, Text := (mget l22 y52).getD ([] : Str) } : Parcel)] : List Parcel) } : To) s64)) 90) :: (.own Sl.nil 92 2 (encs ([] : List Parcel))) :: (mitem b9 (fun x : Int => (iv x : Value)) (fun x : Str => (Str.v x : Value)) l22) :: (.own Sl.nil 9 1 (encs ([] : List Str))) :: (.blk b6 (enc (ToR.mk ({ To.zero with Early := ([] : List Parcel) } : To) Sl.nil)) 90) :: (.own Sl.nil 92 2 (encs ([] : List Parcel))) :: (.blk b3 (enc a1) 92) :: (.blk b1 (enc (ToR.mk a0 s_a0_1)) 90) :: L) rfl ?_
   refine Lst.nil ?_
   refine At.in_normal ?_
   refine At.then ?_
   refine Cd.as (e' := [(2, pv b1 0), (4, pv b6 0), (6, .map (some b9)), (11, pv b40 0), (12, Sl.v s45), (15, iv y52)]) (L' := (.own s60 92 2 (encs ([({ Parcel.zero with Seq := y52, Text := (mget l22 y52).getD ([] : Str) } : Parcel)] : List Parcel))) :: (.own s64 92 2 (encs (y53.Early ++ ([({ Parcel.zero with Seq := y52, Text := (mget l22 y52).getD ([] : Str) } : Parcel)] : List Parcel)))) :: (.own s45 9 1 (encs l46)) :: (.blk b40 (enc (ToR.mk ({ y53 with Early := y53.Early ++ ([({ Parcel.zero with Seq := y52, Text := (mget l22 y52).getD ([] : Str) } : Parcel)] : List Parcel) } : To) s64)) 90) :: (.own Sl.nil 92 2 (encs ([] : List Parcel))) :: (mitem b9 (fun x : Int => (iv x : Value)) (fun x : Str => (Str.v x : Value)) l22) :: (.own Sl.nil 9 1 (encs ([] : List Str))) :: (.blk b6 (enc (ToR.mk ({ To.zero with Early := ([] : List Parcel) } : To) Sl.nil)) 90) :: (.own Sl.nil 92 2 (encs ([] : List Parcel))) :: (.blk b3 (enc a1) 92) :: (.blk b1 (enc (ToR.mk a0 s_a0_1)) 90) :: L) ⟨rfl, rfl, rfl, rfl, rfl, rfl, trivial⟩ rfl ?_
   refine Cd.region ?_
   refine mv0 rfl ?_
   refine Lst.r (Ev.add rfl rfl) ?_
   refine Lst.r (Ev.assign rfl) ?_
   refine Lst.nil ?_
   refine At.less (L' := (.own s64 92 2 (encs (y53.Early ++ ([({ Parcel.zero with Seq := y52, Text := (mget l22 y52).getD ([] : Str) } : Parcel)] : List Parcel)))) :: (.own s45 9 1 (encs l46)) :: (.blk b40 (enc (ToR.mk ({ y53 with Early := y53.Early ++ ([({ Parcel.zero with Seq := y52, Text := (mget l22 y52).getD ([] : Str) } : Parcel)] : List Parcel) } : To) s64)) 90) :: (.own Sl.nil 92 2 (encs ([] : List Parcel))) :: (mitem b9 (fun x : Int => (iv x : Value)) (fun x : Str => (Str.v x : Value)) l22) :: (.own Sl.nil 9 1 (encs ([] : List Str))) :: (.blk b6 (enc (ToR.mk ({ To.zero with Early := ([] : List Parcel) } : To) Sl.nil)) 90) :: (.own Sl.nil 92 2 (encs ([] : List Parcel))) :: (.blk b3 (enc a1) 92) :: (.blk b1 (enc (ToR.mk a0 s_a0_1)) 90) :: L) (sc1 (sk1 (sk1 (sk1 (sk1 (sk1 (sk1 (sk1 (sk1 (sk1 (sk1 (.refl _)))))))))))) ?_
   exact At.meet (k50, w64 (y52 + (1 : Int)), ({ y53 with Early := y53.Early ++ ([({ Parcel.zero with Seq := y52, Text := (mget l22 y52).getD ([] : Str) } : Parcel)] : List Parcel) } : To), s64) hF57 ⟨rfl, rfl, rfl, rfl, rfl, rfl, trivial⟩ rfl ⟨hgo50 _ (some_inj H).symm, Nat.lt_succ_self _⟩
  replace H := ite_f hb49 H
  refine Cd.condF rfl hb49 ?_
  refine Cd.skip ?_
  refine At.then ?_
  refine sr0 ?_
  refine mv0 rfl ?_
  refine mv0 rfl ?_
  refine Lst.buildSlice (α := Str) (xs := ([(mget l22 y44.Next).getD ([] : Str)] : List Str)) (pv := [(0, Str.v ((mget l22 y44.Next).getD ([] : Str)))]) rfl rfl (by decide) ⟨rfl, rfl, trivial⟩ (run_buildSlice (α := Str) (z0 := ([] : Str)) (xs := ([(mget l22 y44.Next).getD ([] : Str)] : List Str)) Try.runUnderlying94 Try.sizeOf9 Try.zeroValue9 rfl rfl rfl (by decide) rfl (fill_cons (cs := encs (List.replicate 1 ([] : Str))) (cs' := encs ((List.replicate 1 ([] : Str)).set 0 ((mget l22 y44.Next).getD ([] : Str)))) (vs := [Str.v ((mget l22 y44.Next).getD ([] : Str))]) rfl rfl rfl ((Put.elemN (s := 1) (i := 0) (x := ([] : Str)) (y := ((mget l22 y44.Next).getD ([] : Str))) rfl rfl (Put.here (vs := [Str.v ((mget l22 y44.Next).getD ([] : Str))]) rfl)).off rfl) fill_nil)) rfl rfl (by decide) (fun s65 _ => ?_)
  obtain ⟨u67, h68, H⟩ := bind_some H
  refine Lst.append (i := 1) (α := Str) (xs := l46) (ys := ([(mget l22 y44.Next).getD ([] : Str)] : List Str)) rfl rfl (by decide) rfl rfl Try.runUnderlying94 Try.typeInfo9 rfl rfl rfl rfl rfl rfl (rdo 0 rfl rfl rfl) rfl (room_some h68) rfl (fun s69 => ?_)
  refine Lst.its (L' := (.own s65 9 1 (encs ([(mget l22 y44.Next).getD ([] : Str)] : List Str))) :: (.own s69 9 1 (encs (l46 ++ ([(mget l22 y44.Next).getD ([] : Str)] : List Str)))) :: (.blk b40 (enc (ToR.mk ({ y44 with Early := [] } : To) Sl.nil)) 90) :: (.own Sl.nil 92 2 (encs ([] : List Parcel))) :: (mitem b9 (fun x : Int => (iv x : Value)) (fun x : Str => (Str.v x : Value)) l22) :: (.own Sl.nil 9 1 (encs ([] : List Str))) :: (.blk b6 (enc (ToR.mk ({ To.zero with Early := ([] : List Parcel) } : To) Sl.nil)) 90) :: (.own Sl.nil 92 2 (encs ([] : List Parcel))) :: (.blk b3 (enc a1) 92) :: (.blk b1 (enc (ToR.mk a0 s_a0_1)) 90) :: L) rfl ?_
  refine Lst.r (Ev.assign rfl) ?_
  refine nt0 ?_
  refine Cd.as (e' := [(2, pv b1 0), (4, pv b6 0), (6, .map (some b9)), (11, pv b40 0), (12, Sl.v s69)]) (L' := (.own s65 9 1 (encs ([(mget l22 y44.Next).getD ([] : Str)] : List Str))) :: (.own s69 9 1 (encs (l46 ++ ([(mget l22 y44.Next).getD ([] : Str)] : List Str)))) :: (.blk b40 (enc (ToR.mk ({ y44 with Early := [] } : To) Sl.nil)) 90) :: (.own Sl.nil 92 2 (encs ([] : List Parcel))) :: (mitem b9 (fun x : Int => (iv x : Value)) (fun x : Str => (Str.v x : Value)) l22) :: (.own Sl.nil 9 1 (encs ([] : List Str))) :: (.blk b6 (enc (ToR.mk ({ To.zero with Early := ([] : List Parcel) } : To) Sl.nil)) 90) :: (.own Sl.nil 92 2 (encs ([] : List Parcel))) :: (.blk b3 (enc a1) 92) :: (.blk b1 (enc (ToR.mk a0 s_a0_1)) 90) :: L) ⟨rfl, rfl, rfl, rfl, rfl, trivial⟩ rfl ?_
  refine Cd.region ?_
  refine Lst.r (Ev.fieldAddr (off' := 0) rfl Try.runUnderlying90 rfl Try.sizeOf3 rfl rfl) ?_
  refine Lst.r (Ev.load (i := 2) rfl rfl Try.isAgg3 (v := iv y44.Next) ((ToR.get_Next gh0).off (by rfl))) ?_
  refine Lst.r (Ev.add rfl rfl) ?_
  refine Lst.r (Ev.fieldAddr (off' := 0) rfl Try.runUnderlying90 rfl Try.sizeOf3 rfl rfl) ?_
  obtain ⟨p70, h71, H⟩ := Let_some H
  refine Lst.store (i := 2) rfl rfl rfl rfl rfl Try.sizeOf3 (vs := [iv (w64 (y44.Next + (1 : Int)))]) rfl rfl rfl (cs' := enc (ToR.mk ({ y44 with Next := p70, Early := [] } : To) Sl.nil)) (by rw [← h71]; exact (ToR.put_Next (Put.here (vs := [iv (w64 (y44.Next + (1 : Int)))]) rfl)).off (by rfl)) (L' := (.own s65 9 1 (encs ([(mget l22 y44.Next).getD ([] : Str)] : List Str))) :: (.own s69 9 1 (encs (l46 ++ ([(mget l22 y44.Next).getD ([] : Str)] : List Str)))) :: (.blk b40 (enc (ToR.mk ({ y44 with Next := p70, Early := [] } : To) Sl.nil)) 90) :: (.own Sl.nil 92 2 (encs ([] : List Parcel))) :: (mitem b9 (fun x : Int => (iv x : Value)) (fun x : Str => (Str.v x : Value)) l22) :: (.own Sl.nil 9 1 (encs ([] : List Str))) :: (.blk b6 (enc (ToR.mk ({ To.zero with Early := ([] : List Parcel) } : To) Sl.nil)) 90) :: (.own Sl.nil 92 2 (encs ([] : List Parcel))) :: (.blk b3 (enc a1) 92) :: (.blk b1 (enc (ToR.mk a0 s_a0_1)) 90) :: L) rfl ?_
  refine Lst.nil ?_
  refine At.in_normal ?_
  refine At.less (L' := (.own s69 9 1 (encs (l46 ++ ([(mget l22 y44.Next).getD ([] : Str)] : List Str)))) :: (.blk b40 (enc (ToR.mk ({ y44 with Next := p70, Early := [] } : To) Sl.nil)) 90) :: (.own Sl.nil 92 2 (encs ([] : List Parcel))) :: (mitem b9 (fun x : Int => (iv x : Value)) (fun x : Str => (Str.v x : Value)) l22) :: (.own Sl.nil 9 1 (encs ([] : List Str))) :: (.blk b6 (enc (ToR.mk ({ To.zero with Early := ([] : List Parcel) } : To) Sl.nil)) 90) :: (.own Sl.nil 92 2 (encs ([] : List Parcel))) :: (.blk b3 (enc a1) 92) :: (.blk b1 (enc (ToR.mk a0 s_a0_1)) 90) :: L) (sc1 (sk1 (sk1 (sk1 (sk1 (sk1 (sk1 (sk1 (sk1 (sk1 (.refl _))))))))))) ?_
  exact At.meet (k43, ({ y44 with Next := p70, Early := [] } : To), s69, l46 ++ ([(mget l22 y44.Next).getD ([] : Str)] : List Str)) hF48 ⟨rfl, rfl, rfl, rfl, rfl, trivial⟩ rfl ⟨hgo43 _ (some_inj H).symm, Nat.lt_succ_self _⟩
 have hc11 : decide ((i11 : Int) < (a0.Early.length : Int)) = true := decide_eq_true (by omega)
 obtain ⟨c11, H, hgo11⟩ := rangeF_go H
 unfold partref_TakeParcel_B0 at H
 try dsimp only at H
 refine sr0 ?_
 refine Lst.r (Ev.lss rfl rfl) ?_
 refine nt0 ?_
 refine Cd.seq ?_
 refine Cd.condT rfl hc11 ?_
 refine Cd.skip ?_
 refine At.then ?_
 refine Cd.seq ?_
 refine Cd.block ?_
 refine sr0 ?_
 obtain ⟨x15, h16, H⟩ := bind_some H
 have g17 := lat_some h16
 refine Lst.r (Ev.indexS (α := Parcel) (xs := a0.Early) rfl rfl Try.runUnderlying88 Try.sizeOf92 rfl (by decide) (hs_a0_1.mono hF14 (sc4 (sc2 hM))) g17.1 g17.2.1) ?_
 refine Lst.r (Ev.loadSA (α := Parcel) rfl (hs_a0_1.mono hF14 (sc4 (sc2 hM))) Try.isAgg92 Try.sizeOf92 (ch := enc x15) (Enc.len _) (by decide) ((Get.elemN (s := 2) (x := x15) rfl g17.2.2 gh0).off (by omega))) ?_
 refine Lst.alloc (cs := enc Parcel.zero) rfl rfl (by decide) Try.zeroValue92 rfl (fun b18 => ?_)
 refine Lst.store (i := 0) rfl rfl rfl rfl rfl Try.sizeOf92 (vs := enc x15) rfl (Enc.len _) (Enc.one _) (cs' := enc x15) (Put.here ((Enc.len _).trans (Enc.len _).symm)) (L' := (.blk b18 (enc x15) 92) :: (mitem b9 (fun x : Int => (iv x : Value)) (fun x : Str => (Str.v x : Value)) l12) :: (.own Sl.nil 9 1 (encs ([] : List Str))) :: (.blk b6 (enc (ToR.mk ({ To.zero with Early := ([] : List Parcel) } : To) Sl.nil)) 90) :: (.own Sl.nil 92 2 (encs ([] : List Parcel))) :: (.blk b3 (enc a1) 92) :: (.blk b1 (enc (ToR.mk a0 s_a0_1)) 90) :: L) rfl ?_
 refine nt0 ?_
 refine Cd.region ?_
 refine mv0 rfl ?_
 refine Lst.r (Ev.fieldAddr (off' := 0) rfl Try.runUnderlying92 rfl Try.sizeOf3 rfl rfl) ?_
 refine Lst.r (Ev.load (i := 0) rfl rfl Try.isAgg3 (v := iv x15.Seq) ((Parcel.get_Seq gh0).off (by rfl))) ?_
 refine Lst.r (Ev.fieldAddr (off' := 1) rfl Try.runUnderlying92 rfl Try.sizeOf9 rfl rfl) ?_
 refine Lst.r (Ev.load (i := 0) rfl rfl Try.isAgg9 (v := Str.v x15.Text) ((Parcel.get_Text gh0).off (by rfl))) ?_
 obtain ⟨m20, h21, H⟩ := Let_some H
 refine Lst.mapUpdate (i := 1) (kf := (fun x : Int => (iv x : Value))) (vf := (fun x : Str => (Str.v x : Value))) (m := l12) (k := x15.Seq) (v := x15.Text) rfl rfl rfl rfl rfl rfl (KeyOk.int Try.runUnderlying3) Try.runUnderlying183 ?_
 refine Lst.its (L' := (.blk b18 (enc x15) 92) :: (mitem b9 (fun x : Int => (iv x : Value)) (fun x : Str => (Str.v x : Value)) m20) :: (.own Sl.nil 9 1 (encs ([] : List Str))) :: (.blk b6 (enc (ToR.mk ({ To.zero with Early := ([] : List Parcel) } : To) Sl.nil)) 90) :: (.own Sl.nil 92 2 (encs ([] : List Parcel))) :: (.blk b3 (enc a1) 92) :: (.blk b1 (enc (ToR.mk a0 s_a0_1)) 90) :: L) (by rw [← h21]; rfl) ?_
 refine Lst.nil ?_
 refine At.in_normal ?_
 refine At.then ?_
 refine Cd.region ?_
 refine Lst.r (Ev.incr (by omega) rfl rfl) ?_
 refine mv0 rfl ?_
 refine Lst.nil ?_
 refine At.less (L' := (mitem b9 (fun x : Int => (iv x : Value)) (fun x : Str => (Str.v x : Value)) m20) :: (.own Sl.nil 9 1 (encs ([] : List Str))) :: (.blk b6 (enc (ToR.mk ({ To.zero with Early := ([] : List Parcel) } : To) Sl.nil)) 90) :: (.own Sl.nil 92 2 (encs ([] : List Parcel))) :: (.blk b3 (enc a1) 92) :: (.blk b1 (enc (ToR.mk a0 s_a0_1)) 90) :: L) (sc1 (sk1 (sk1 (sk1 (sk1 (sk1 (sk1 (.refl _)))))))) ?_
 exact At.meet (i11 + 1, k11, m20) hF14 ⟨rfl, rfl, rfl, rfl, rfl, rfl, rfl, trivial⟩ rfl ⟨⟨hgo11 _ (some_inj H).symm, by omega⟩, Nat.lt_succ_self _⟩
set_option maxRecDepth 20000 in
theorem slices_Equal_string_string_sim {a0 : List Str} {a1 : List Str} {s_a0 : Sl} {s_a1 : Sl} {r : Bool} (H : slices_Equal_string_string a0 a1 = some r) (w0 : World) (F : Frz) (M L : List Item) (hM : M.Sublist L) (hs_a0 : Rd w0 F M s_a0 a0) (hs_a1 : Rd w0 F M s_a1 a1) : Ok Try.prog w0 57 [Sl.v s_a0, Sl.v s_a1] F (L) (Is (.bool r) (L)) := by
 unfold slices_Equal_string_string at H
 refine Ok.enter (m := 2) (n := 26) Try.func57 rfl rfl rfl (by decide) ?_
 refine Cd.env (e' := [(0, Sl.v s_a0), (1, Sl.v s_a1)]) rfl ?_
 refine sr0 ?_
 refine Lst.r (Ev.assign rfl) ?_
 refine nt0 ?_
 refine Cd.seq ?_
 refine sr0 ?_
 refine mv0 rfl ?_
 refine Lst.r (Ev.lenS (α := Str) (xs := a0) (by decide) rfl rfl Try.runUnderlying94 (hs_a0.mono fl hM)) ?_
 refine mv0 rfl ?_
 refine Lst.r (Ev.lenS (α := Str) (xs := a1) (by decide) rfl rfl Try.runUnderlying94 (hs_a1.mono fl hM)) ?_
 refine Lst.r (Ev.neq rfl rfl) ?_
 refine nt0 ?_
 rcases Bool.eq_false_or_eq_true ((a0.length : Int) != (a1.length : Int)) with hb1 | hb1
 ·replace H := ite_t hb1 H
  refine Cd.condT rfl hb1 ?_
  refine sr0 ?_
  refine Lst.r (Ev.assign rfl) ?_
  refine nt0 ?_
  obtain rfl := some_inj H
  refine Cd.ret ?_
  refine At.then_ret ?_
  exact At.ret1 rfl (Res.tmp rfl) fl (.refl _) ⟨rfl, rfl⟩
 replace H := ite_f hb1 H
 refine Cd.condF rfl hb1 ?_
 refine Cd.skip ?_
 refine At.then ?_
 refine Cd.seq ?_
 refine sr0 ?_
 refine mv0 rfl ?_
 refine Lst.r (Ev.lenS (α := Str) (xs := a0) (by decide) rfl rfl Try.runUnderlying94 (hs_a0.mono fl hM)) ?_
 refine mv0 rfl ?_
 refine nt0 ?_
 refine Cd.block ?_
 refine Cd.bound (Rd.le (α := Str) (xs := a0) (by decide) (hs_a0.mono fl hM)) (fun hN12 => ?_)
 obtain ⟨ol2, H, HKl2⟩ := andThen_some H
 refine Cd.loop (σ := Nat × Nat × Unit) (fun (i2, k2, _u) => [(0, Sl.v s_a0), (1, Sl.v s_a1), (12, iv (a0.length : Int)), (13, iv (i2 : Int))]) (fun (i2, k2, _u) => L) (fun _ => (fun (i2, k2, _u) => rangeM (slices_Equal_string_string_B0 a0 a1) k2 i2 () = some ol2 ∧ i2 + k2 = a0.length)) (fun (i2, k2, _u) => k2) (0, a0.length, ()) ⟨rfl, rfl, rfl, rfl, trivial⟩ rfl ⟨H, by omega⟩ ?_
 rintro F3 ⟨i2, k2, _u⟩ hF4 ⟨H, hik2⟩
 refine Cd.as (e' := [(0, Sl.v s_a0), (1, Sl.v s_a1), (12, iv (a0.length : Int)), (13, iv (i2 : Int))]) (L' := L) ⟨rfl, rfl, rfl, rfl, trivial⟩ rfl ?_
 rcases k2 with _ | k2
 ·have hc2 : decide ((i2 : Int) < (a0.length : Int)) = false := decide_eq_false (by omega)
  replace H := rangeM_end H
  refine sr0 ?_
  refine Lst.r (Ev.lss rfl rfl) ?_
  refine nt0 ?_
  refine Cd.seq ?_
  refine Cd.condF rfl hc2 ?_
  refine Cd.exit ?_
  refine At.then_exit ?_
  refine At.then_exit ?_
  refine At.in_exit ?_
  subst H
  replace H := HKl2
  refine At.then ?_
  refine sr0 ?_
  refine Lst.r (Ev.assign rfl) ?_
  refine nt0 ?_
  obtain rfl := some_inj H
  refine Cd.ret ?_
  exact At.ret1 rfl (Res.tmp rfl) hF4 (.refl _) ⟨rfl, rfl⟩
 have hc2 : decide ((i2 : Int) < (a0.length : Int)) = true := decide_eq_true (by omega)
 obtain ⟨c2, H, hgo2, hbrk2, hret2⟩ := rangeM_go H
 unfold slices_Equal_string_string_B0 at H
 try dsimp only at H
 refine sr0 ?_
 refine Lst.r (Ev.lss rfl rfl) ?_
 refine nt0 ?_
 refine Cd.seq ?_
 refine Cd.condT rfl hc2 ?_
 refine Cd.skip ?_
 refine At.then ?_
 refine Cd.seq ?_
 refine Cd.block ?_
 refine sr0 ?_
 refine mv0 rfl ?_
 refine Lst.r (Ev.assign rfl) ?_
 refine nt0 ?_
 refine Cd.seq ?_
 refine Cd.quiet (by kernel_rfl) (by kernel_rfl) ?_
 refine Qt.r (Ev.move rfl) ?_
 refine Qt.r (Ev.move rfl) ?_
 obtain ⟨x5, h6, H⟩ := bind_some H
 have g7 := lat_some h6
 refine Qt.r (Ev.indexS (α := Str) (xs := a0) rfl rfl Try.runUnderlying94 Try.sizeOf9 rfl (by decide) (hs_a0.mono hF4 hM) g7.1 g7.2.1) ?_
 refine Qt.r (Ev.loadS (α := Str) rfl (hs_a0.mono hF4 hM) Try.isAgg9 (v := Str.v x5) ((Get.elemN (s := 1) (x := x5) rfl g7.2.2 gh0).off (by omega))) ?_
 refine Qt.r (Ev.move rfl) ?_
 refine Qt.r (Ev.move rfl) ?_
 obtain ⟨x8, h9, H⟩ := bind_some H
 have g10 := lat_some h9
 refine Qt.r (Ev.indexS (α := Str) (xs := a1) rfl rfl Try.runUnderlying94 Try.sizeOf9 rfl (by decide) (hs_a1.mono hF4 hM) g10.1 g10.2.1) ?_
 refine Qt.r (Ev.loadS (α := Str) rfl (hs_a1.mono hF4 hM) Try.isAgg9 (v := Str.v x8) ((Get.elemN (s := 1) (x := x8) rfl g10.2.2 gh0).off (by omega))) ?_
 refine Qt.r (Ev.neqStr (s := x5) (m := x8) rfl rfl) ?_
 refine Qt.done ?_
 refine At.then ?_
 rcases Bool.eq_false_or_eq_true (!(decide (x5 = x8))) with hb11 | hb11
 ·replace H := ite_t hb11 H
  refine Cd.condT rfl hb11 ?_
  refine Cd.seq ?_
  refine Cd.as (e' := []) (L' := L) trivial rfl ?_
  refine Cd.region ?_
  refine Lst.r (Ev.assign rfl) ?_
  refine nt0 ?_
  have H := hret2 _ (some_inj H).symm
  subst H
  replace H := HKl2
  obtain rfl := some_inj H
  refine Cd.ret ?_
  refine At.in_ret ?_
  refine At.then_ret ?_
  refine At.then_ret ?_
  refine At.in_ret ?_
  refine At.then_ret ?_
  exact At.ret1 rfl (Res.tmp rfl) hF4 (.refl _) ⟨rfl, rfl⟩
 replace H := ite_f hb11 H
 refine Cd.condF rfl hb11 ?_
 refine Cd.skip ?_
 refine At.in_normal ?_
 refine At.then ?_
 refine Cd.region ?_
 refine Lst.r (Ev.incr (by omega) rfl rfl) ?_
 refine mv0 rfl ?_
 refine Lst.nil ?_
 exact At.meet (i2 + 1, k2, ()) hF4 ⟨rfl, rfl, rfl, rfl, trivial⟩ rfl ⟨⟨hgo2 _ (some_inj H).symm, by omega⟩, Nat.lt_succ_self _⟩
set_option maxRecDepth 20000 in
theorem partlaw_LaneTakes_sim {fu : Nat} {a0 : To} {a1 : Parcel} {s_a0_1 : Sl} {r : Bool} (H : partlaw_LaneTakes fu a0 a1 = some r) (w0 : World) (F : Frz) (M L : List Item) (hM : M.Sublist L) (hs_a0_1 : Rd w0 F M s_a0_1 a0.Early) : Ok Try.prog w0 8 [.agg (enc (ToR.mk a0 s_a0_1)).toArray, .agg (enc a1).toArray] F (L) (Is (.bool r) (L)) := by
 unfold partlaw_LaneTakes at H
 refine Ok.enter (m := 2) (n := 77) Try.func8 rfl rfl rfl (by decide) ?_
 refine Cd.env (e' := [(0, .agg (enc (ToR.mk a0 s_a0_1)).toArray), (1, .agg (enc a1).toArray)]) rfl ?_
 refine sr0 ?_
 refine Lst.box rfl rfl (by decide) rfl (cs := enc (ToR.mk a0 s_a0_1)) rfl (fun b1 => ?_)
 refine Lst.box rfl rfl (by decide) rfl (cs := enc a1) rfl (fun b3 => ?_)
 refine Lst.r (Ev.assign rfl) ?_
 refine nsr ?_
 refine Lst.r (Ev.loadA (i := 1) rfl rfl Try.isAgg90 Try.sizeOf90 (ch := enc (ToR.mk a0 s_a0_1)) (Enc.len _) gh0) ?_
 obtain ⟨r5, h6, H⟩ := bind_some H
 refine Lst.call1 rfl rfl (by decide) (vs := [.agg (enc (ToR.mk a0 s_a0_1)).toArray]) ⟨rfl, trivial⟩ Try.call52 (partref_ToErr_sim h6 w0 _ M _ (sc2 hM) (hs_a0_1.mono fl (.refl _))) ?_
 refine Lst.r (Ev.assign rfl) ?_
 refine nsr ?_
 refine Lst.r (Ev.loadA (i := 1) rfl rfl Try.isAgg90 Try.sizeOf90 (ch := enc (ToR.mk a0 s_a0_1)) (Enc.len _) gh0) ?_
 refine Lst.r (Ev.loadA (i := 0) rfl rfl Try.isAgg92 Try.sizeOf92 (ch := enc a1) (Enc.len _) gh0) ?_
 obtain ⟨r9, h10, H⟩ := bind_some H
 refine Lst.call rfl rfl (by decide) (vs := [.agg (enc (ToR.mk a0 s_a0_1)).toArray, .agg (enc a1).toArray]) ⟨rfl, rfl, trivial⟩ Try.call53 (lane_Take_sim h10 w0 _ M _ (sc2 hM) (hs_a0_1.mono fl (.refl _))) (fun F15 L' v hF16 hv => ?_)
 obtain ⟨s11, s13, rfl, rfl⟩ := hv
 refine mv0 rfl ?_
 refine Lst.r (Ev.extract rfl rfl) ?_
 refine Lst.r (Ev.extract rfl rfl) ?_
 refine Lst.r (Ev.extract rfl rfl) ?_
 refine Lst.addNil 92 2 ?_
 refine Lst.alloc (cs := enc (ToR.mk ({ To.zero with Early := ([] : List Parcel) } : To) Sl.nil)) rfl rfl (by decide) Try.zeroValue90 rfl (fun b18 => ?_)
 refine Lst.store (i := 0) rfl rfl rfl rfl rfl Try.sizeOf90 (vs := enc (ToR.mk r9.1 s11)) rfl (Enc.len _) (Enc.one _) (cs' := enc (ToR.mk r9.1 s11)) (Put.here ((Enc.len _).trans (Enc.len _).symm)) (L' := (.blk b18 (enc (ToR.mk r9.1 s11)) 90) :: (.own Sl.nil 92 2 (encs ([] : List Parcel))) :: (.own s11 92 2 (encs r9.1.Early)) :: (.own s13 9 1 (encs r9.2.1)) :: (.blk b3 (enc a1) 92) :: (.blk b1 (enc (ToR.mk a0 s_a0_1)) 90) :: L) rfl ?_
 refine Lst.r (Ev.assign rfl) ?_
 refine Lst.r (Ev.assign rfl) ?_
 refine nt0 ?_
 refine Cd.seq ?_
 refine sr0 ?_
 refine Lst.r (Ev.loadA (i := 5) rfl rfl Try.isAgg90 Try.sizeOf90 (ch := enc (ToR.mk a0 s_a0_1)) (Enc.len _) gh0) ?_
 obtain ⟨r20, h21, H⟩ := bind_some H
 refine Lst.call1 rfl rfl (by decide) (vs := [.agg (enc (ToR.mk a0 s_a0_1)).toArray]) ⟨rfl, trivial⟩ Try.call54 (lane_CheckTo_sim h21 w0 _ M _ (sc4 (sc2 hM)) (hs_a0_1.mono hF16 (.refl _))) ?_
 refine mv0 rfl ?_
 refine Lst.r (Ev.neq rfl rfl) ?_
 refine nt0 ?_
 rcases Bool.eq_false_or_eq_true (r20 != r5) with hb24 | hb24
 ·replace H := ite_t hb24 H
  refine Cd.condT rfl hb24 ?_
  refine Cd.seq ?_
  refine Cd.as (e' := []) (L' := (.blk b18 (enc (ToR.mk r9.1 s11)) 90) :: (.own Sl.nil 92 2 (encs ([] : List Parcel))) :: (.own s11 92 2 (encs r9.1.Early)) :: (.own s13 9 1 (encs r9.2.1)) :: (.blk b3 (enc a1) 92) :: (.blk b1 (enc (ToR.mk a0 s_a0_1)) 90) :: L) trivial rfl ?_
  refine Cd.region ?_
  refine Lst.r (Ev.assign rfl) ?_
  refine nt0 ?_
  obtain rfl := some_inj H
  refine Cd.ret ?_
  refine At.then_ret ?_
  exact At.ret1 rfl (Res.tmp rfl) hF16 (sc1 (sc1 (sc1 (sc1 (sc1 (sc1 (.refl _))))))) ⟨rfl, rfl⟩
 replace H := ite_f hb24 H
 refine Cd.condF rfl hb24 ?_
 refine Cd.skip ?_
 refine At.then ?_
 obtain ⟨o26, H, HKo26⟩ := bind_some H
 refine Cd.join (σ := Int) (fun y25 => [(2, pv b1 0), (3, pv b3 0), (5, iv y25), (6, pv b18 0), (7, Sl.v s13), (8, iv r9.2.2)]) (fun y25 => (.blk b18 (enc (ToR.mk r9.1 s11)) 90) :: (.own Sl.nil 92 2 (encs ([] : List Parcel))) :: (.own s11 92 2 (encs r9.1.Early)) :: (.own s13 9 1 (encs r9.2.1)) :: (.blk b3 (enc a1) 92) :: (.blk b1 (enc (ToR.mk a0 s_a0_1)) 90) :: L) (fun _ y25 => y25 = o26) ?_ ?_
 ·refine Cd.seq ?_
  refine Cd.as (e' := [(2, pv b1 0), (3, pv b3 0), (5, iv r5), (6, pv b18 0), (7, Sl.v s13), (8, iv r9.2.2)]) (L' := (.blk b18 (enc (ToR.mk r9.1 s11)) 90) :: (.own Sl.nil 92 2 (encs ([] : List Parcel))) :: (.own s11 92 2 (encs r9.1.Early)) :: (.own s13 9 1 (encs r9.2.1)) :: (.blk b3 (enc a1) 92) :: (.blk b1 (enc (ToR.mk a0 s_a0_1)) 90) :: L) ⟨rfl, rfl, rfl, rfl, rfl, rfl, trivial⟩ rfl ?_
  refine Cd.region ?_
  refine mv0 rfl ?_
  refine Lst.r (Ev.eql rfl rfl) ?_
  refine mv0 rfl ?_
  rcases (Bool.eq_false_or_eq_true (r5 == (0 : Int))).symm with hb27 | hb27
  ·replace H := ite_f hb27 H
   refine Lst.skip rfl rfl rfl hb27 rfl (by decide) ?_
   refine Lst.skip rfl rfl rfl hb27 rfl (by decide) ?_
   refine Lst.skip rfl rfl rfl hb27 rfl (by decide) ?_
   refine Lst.skip rfl rfl rfl hb27 rfl (by decide) ?_
   refine Lst.skipU rfl rfl rfl rfl (by decide) ?_
   refine Lst.skipU rfl rfl rfl rfl (by decide) ?_
   refine Lst.skipU rfl rfl rfl rfl (by decide) ?_
   refine Lst.skip rfl rfl rfl hb27 rfl (by decide) ?_
   refine Lst.r (Ev.pickF rfl hb27 rfl) ?_
   refine nt0 ?_
   refine Cd.condF rfl rfl ?_
   refine sr0 ?_
   refine mv0 rfl ?_
   refine Lst.r (Ev.eql rfl rfl) ?_
   refine mv0 rfl ?_
   refine Lst.skip rfl rfl rfl hb27 rfl (by decide) ?_
   refine Lst.skip rfl rfl rfl hb27 rfl (by decide) ?_
   refine Lst.skip rfl rfl rfl hb27 rfl (by decide) ?_
   refine Lst.skip rfl rfl rfl hb27 rfl (by decide) ?_
   refine Lst.r (Ev.pickF rfl hb27 rfl) ?_
   refine nt0 ?_
   refine Cd.condF rfl rfl ?_
   refine Cd.skip ?_
   exact At.meet r5 fl ⟨rfl, rfl, rfl, rfl, rfl, rfl, trivial⟩ rfl (some_inj H)
  replace H := ite_t hb27 H
  refine Lst.rG hb27 (Ev.fieldAddr (off' := 0) rfl Try.runUnderlying92 rfl Try.sizeOf3 rfl rfl) ?_
  refine Lst.rG hb27 (Ev.load (i := 4) rfl rfl Try.isAgg3 (v := iv a1.Seq) ((Parcel.get_Seq gh0).off (by rfl))) ?_
  refine Lst.rG hb27 (Ev.lss rfl rfl) ?_
  refine Lst.rG hb27 (Ev.move rfl) ?_
  obtain ⟨o28, H, HKo28⟩ := bind_some H
  refine Lst.join (σ := Bool) 4 (fun y29 => [(2, pv b1 0), (3, pv b3 0), (5, iv r5), (6, pv b18 0), (7, Sl.v s13), (8, iv r9.2.2), (26, .bool (r5 == (0 : Int))), (34, .bool y29)]) (fun y29 => (.blk b18 (enc (ToR.mk r9.1 s11)) 90) :: (.own Sl.nil 92 2 (encs ([] : List Parcel))) :: (.own s11 92 2 (encs r9.1.Early)) :: (.own s13 9 1 (encs r9.2.1)) :: (.blk b3 (enc a1) 92) :: (.blk b1 (enc (ToR.mk a0 s_a0_1)) 90) :: L) (fun _ y29 => y29 = o28) ?_ ?_
  ·rcases Bool.eq_false_or_eq_true (decide (a1.Seq < (0 : Int))) with hb30 | hb30
   ·replace H := ite_t hb30 H
    refine Lst.skip rfl rfl rfl hb30 rfl (by decide) ?_
    refine Lst.skip rfl rfl rfl hb30 rfl (by decide) ?_
    refine Lst.skip rfl rfl rfl hb30 rfl (by decide) ?_
    refine Lst.rG hb27 (Ev.pickT rfl hb30 rfl) ?_
    refine Lst.nil ?_
    exact At.meet true fl ⟨rfl, rfl, rfl, rfl, rfl, rfl, rfl, rfl, trivial⟩ rfl (some_inj H)
   replace H := ite_f hb30 H
   refine Lst.rG hb30 (Ev.fieldAddr (off' := 0) rfl Try.runUnderlying92 rfl Try.sizeOf3 rfl rfl) ?_
   refine Lst.rG hb30 (Ev.load (i := 4) rfl rfl Try.isAgg3 (v := iv a1.Seq) ((Parcel.get_Seq gh0).off (by rfl))) ?_
   refine Lst.rG hb30 (Ev.geq rfl rfl) ?_
   refine Lst.rG hb27 (Ev.pickF rfl hb30 rfl) ?_
   refine Lst.nil ?_
   exact At.meet (decide (a1.Seq ≥ (16777215 : Int))) fl ⟨rfl, rfl, rfl, rfl, rfl, rfl, rfl, rfl, trivial⟩ rfl (some_inj H)
  rintro F31 y29 hF32 hy
  subst hy
  refine Lst.as (e' := [(2, pv b1 0), (3, pv b3 0), (5, iv r5), (6, pv b18 0), (7, Sl.v s13), (8, iv r9.2.2), (26, .bool (r5 == (0 : Int))), (34, .bool y29)]) (L' := (.blk b18 (enc (ToR.mk r9.1 s11)) 90) :: (.own Sl.nil 92 2 (encs ([] : List Parcel))) :: (.own s11 92 2 (encs r9.1.Early)) :: (.own s13 9 1 (encs r9.2.1)) :: (.blk b3 (enc a1) 92) :: (.blk b1 (enc (ToR.mk a0 s_a0_1)) 90) :: L) ⟨rfl, rfl, rfl, rfl, rfl, rfl, rfl, rfl, trivial⟩ rfl ?_
  replace H := HKo28
  refine Lst.r (Ev.pickT rfl hb27 rfl) ?_
  refine nt0 ?_
  rcases Bool.eq_false_or_eq_true y29 with hb33 | hb33
  ·replace H := ite_t hb33 H
   refine Cd.condT rfl hb33 ?_
   refine Cd.region ?_
   refine Lst.r (Ev.assign rfl) ?_
   refine Lst.nil ?_
   exact At.meet (1 : Int) hF32 ⟨rfl, rfl, rfl, rfl, rfl, rfl, trivial⟩ rfl (some_inj H)
  replace H := ite_f hb33 H
  refine Cd.condF rfl hb33 ?_
  refine sr0 ?_
  refine mv0 rfl ?_
  refine Lst.r (Ev.eql rfl rfl) ?_
  refine mv0 rfl ?_
  refine Lst.rG hb27 (Ev.fieldAddr (off' := 1) rfl Try.runUnderlying92 rfl Try.sizeOf9 rfl rfl) ?_
  refine Lst.rG hb27 (Ev.load (i := 4) rfl rfl Try.isAgg9 (v := Str.v a1.Text) ((Parcel.get_Text gh0).off (by rfl))) ?_
  refine Lst.rG hb27 (Ev.lenStr rfl rfl Try.runUnderlying9) ?_
  refine Lst.rG hb27 (Ev.gtr rfl rfl) ?_
  refine Lst.r (Ev.pickT rfl hb27 rfl) ?_
  refine nt0 ?_
  rcases (Bool.eq_false_or_eq_true (decide ((a1.Text.length : Int) > (200 : Int)))).symm with hb34 | hb34
  ·replace H := ite_f hb34 H
   refine Cd.condF rfl hb34 ?_
   refine Cd.skip ?_
   exact At.meet r5 hF32 ⟨rfl, rfl, rfl, rfl, rfl, rfl, trivial⟩ rfl (some_inj H)
  replace H := ite_t hb34 H
  refine Cd.condT rfl hb34 ?_
  refine Cd.region ?_
  refine Lst.r (Ev.assign rfl) ?_
  refine Lst.nil ?_
  exact At.meet (2 : Int) hF32 ⟨rfl, rfl, rfl, rfl, rfl, rfl, trivial⟩ rfl (some_inj H)
 rintro F35 y25 hF36 hy
 subst hy
 refine Cd.as (e' := [(2, pv b1 0), (3, pv b3 0), (5, iv y25), (6, pv b18 0), (7, Sl.v s13), (8, iv r9.2.2)]) (L' := (.blk b18 (enc (ToR.mk r9.1 s11)) 90) :: (.own Sl.nil 92 2 (encs ([] : List Parcel))) :: (.own s11 92 2 (encs r9.1.Early)) :: (.own s13 9 1 (encs r9.2.1)) :: (.blk b3 (enc a1) 92) :: (.blk b1 (enc (ToR.mk a0 s_a0_1)) 90) :: L) ⟨rfl, rfl, rfl, rfl, rfl, rfl, trivial⟩ rfl ?_
 replace H := HKo26
 refine Cd.seq ?_
 refine sr0 ?_
 refine mv0 rfl ?_
 refine Lst.r (Ev.neq rfl rfl) ?_
 refine nt0 ?_
 rcases Bool.eq_false_or_eq_true (y25 != (0 : Int)) with hb37 | hb37
 ·replace H := ite_t hb37 H
  refine Cd.condT rfl hb37 ?_
  refine sr0 ?_
  refine Lst.r (Ev.loadA (i := 0) rfl rfl Try.isAgg90 Try.sizeOf90 (ch := enc (ToR.mk r9.1 s11)) (Enc.len _) gh0) ?_
  refine Lst.r (Ev.build (v := .agg (enc (ToR.mk To.zero Sl.nil)).toArray) (pv := []) trivial (fun w => by kernel_rfl)) ?_
  obtain ⟨r38, h39, H⟩ := bind_some H
  refine Lst.call1 rfl rfl (by decide) (vs := [.agg (enc (ToR.mk r9.1 s11)).toArray, .agg (enc (ToR.mk To.zero Sl.nil)).toArray]) ⟨rfl, rfl, trivial⟩ Try.call55 (partref_SameTo_sim h39 w0 _ _ _ (.refl _) (rdo 2 rfl rfl rfl) Rd.nil) ?_
  refine mv0 rfl ?_
  obtain ⟨o42, H, HKo42⟩ := bind_some H
  refine Lst.join (σ := Bool) 4 (fun y43 => [(5, iv y25), (8, iv r9.2.2), (53, .bool y43)]) (fun y43 => (.blk b18 (enc (ToR.mk r9.1 s11)) 90) :: (.own Sl.nil 92 2 (encs ([] : List Parcel))) :: (.own s11 92 2 (encs r9.1.Early)) :: (.own s13 9 1 (encs r9.2.1)) :: (.blk b3 (enc a1) 92) :: (.blk b1 (enc (ToR.mk a0 s_a0_1)) 90) :: L) (fun _ y43 => y43 = o42) ?_ ?_
  ·rcases (Bool.eq_false_or_eq_true r38).symm with hb44 | hb44
   ·replace H := ite_f hb44 H
    refine Lst.skip rfl rfl rfl hb44 rfl (by decide) ?_
    refine Lst.skip rfl rfl rfl hb44 rfl (by decide) ?_
    refine Lst.skip rfl rfl rfl hb44 rfl (by decide) ?_
    refine Lst.r (Ev.pickF rfl hb44 rfl) ?_
    refine Lst.nil ?_
    exact At.meet false fl ⟨rfl, rfl, rfl, trivial⟩ rfl (some_inj H)
   replace H := ite_t hb44 H
   refine Lst.rG hb44 (Ev.move rfl) ?_
   refine Lst.rG hb44 (Ev.lenS (α := Str) (xs := r9.2.1) (by decide) rfl rfl Try.runUnderlying94 (rdo 3 rfl rfl rfl)) ?_
   refine Lst.rG hb44 (Ev.eql rfl rfl) ?_
   refine Lst.r (Ev.pickT rfl hb44 rfl) ?_
   refine Lst.nil ?_
   exact At.meet ((r9.2.1.length : Int) == (0 : Int)) fl ⟨rfl, rfl, rfl, trivial⟩ rfl (some_inj H)
  rintro F45 y43 hF46 hy
  subst hy
  refine Lst.as (e' := [(5, iv y25), (8, iv r9.2.2), (53, .bool y43)]) (L' := (.blk b18 (enc (ToR.mk r9.1 s11)) 90) :: (.own Sl.nil 92 2 (encs ([] : List Parcel))) :: (.own s11 92 2 (encs r9.1.Early)) :: (.own s13 9 1 (encs r9.2.1)) :: (.blk b3 (enc a1) 92) :: (.blk b1 (enc (ToR.mk a0 s_a0_1)) 90) :: L) ⟨rfl, rfl, rfl, trivial⟩ rfl ?_
  replace H := HKo42
  refine mv0 rfl ?_
  obtain ⟨o47, H, HKo47⟩ := bind_some H
  refine Lst.join (σ := Bool) 4 (fun y48 => [(58, .bool y48)]) (fun y48 => (.blk b18 (enc (ToR.mk r9.1 s11)) 90) :: (.own Sl.nil 92 2 (encs ([] : List Parcel))) :: (.own s11 92 2 (encs r9.1.Early)) :: (.own s13 9 1 (encs r9.2.1)) :: (.blk b3 (enc a1) 92) :: (.blk b1 (enc (ToR.mk a0 s_a0_1)) 90) :: L) (fun _ y48 => y48 = o47) ?_ ?_
  ·rcases (Bool.eq_false_or_eq_true y43).symm with hb49 | hb49
   ·replace H := ite_f hb49 H
    refine Lst.skip rfl rfl rfl hb49 rfl (by decide) ?_
    refine Lst.skip rfl rfl rfl hb49 rfl (by decide) ?_
    refine Lst.skip rfl rfl rfl hb49 rfl (by decide) ?_
    refine Lst.r (Ev.pickF rfl hb49 rfl) ?_
    refine Lst.nil ?_
    exact At.meet false fl ⟨rfl, trivial⟩ rfl (some_inj H)
   replace H := ite_t hb49 H
   refine Lst.rG hb49 (Ev.move rfl) ?_
   refine Lst.rG hb49 (Ev.move rfl) ?_
   refine Lst.rG hb49 (Ev.eql rfl rfl) ?_
   refine Lst.r (Ev.pickT rfl hb49 rfl) ?_
   refine Lst.nil ?_
   exact At.meet (r9.2.2 == y25) fl ⟨rfl, trivial⟩ rfl (some_inj H)
  rintro F50 y48 hF51 hy
  subst hy
  refine Lst.as (e' := [(58, .bool y48)]) (L' := (.blk b18 (enc (ToR.mk r9.1 s11)) 90) :: (.own Sl.nil 92 2 (encs ([] : List Parcel))) :: (.own s11 92 2 (encs r9.1.Early)) :: (.own s13 9 1 (encs r9.2.1)) :: (.blk b3 (enc a1) 92) :: (.blk b1 (enc (ToR.mk a0 s_a0_1)) 90) :: L) ⟨rfl, trivial⟩ rfl ?_
  replace H := HKo47
  refine Lst.r (Ev.assign rfl) ?_
  refine nt0 ?_
  obtain rfl := some_inj H
  refine Cd.ret ?_
  refine At.then_ret ?_
  exact At.ret1 rfl (Res.tmp rfl) (FLe.trans (FLe.trans (FLe.trans hF16 hF36) hF46) hF51) (sc1 (sc1 (sc1 (sc1 (sc1 (sc1 (.refl _))))))) ⟨rfl, rfl⟩
 replace H := ite_f hb37 H
 refine Cd.condF rfl hb37 ?_
 refine Cd.skip ?_
 refine At.then ?_
 refine sr0 ?_
 refine Lst.r (Ev.loadA (i := 5) rfl rfl Try.isAgg90 Try.sizeOf90 (ch := enc (ToR.mk a0 s_a0_1)) (Enc.len _) gh0) ?_
 refine Lst.r (Ev.loadA (i := 4) rfl rfl Try.isAgg92 Try.sizeOf92 (ch := enc a1) (Enc.len _) gh0) ?_
 obtain ⟨r52, h53, H⟩ := bind_some H
 refine Lst.call rfl rfl (by decide) (vs := [.agg (enc (ToR.mk a0 s_a0_1)).toArray, .agg (enc a1).toArray]) ⟨rfl, rfl, trivial⟩ Try.call56 (partref_TakeParcel_sim h53 w0 _ M _ (sc4 (sc2 hM)) (hs_a0_1.mono (FLe.trans hF16 hF36) (.refl _))) (fun F58 L' v hF59 hv => ?_)
 obtain ⟨s54, s56, rfl, rfl⟩ := hv
 refine mv0 rfl ?_
 refine Lst.r (Ev.extract rfl rfl) ?_
 refine Lst.r (Ev.extract rfl rfl) ?_
 refine Lst.addNil 92 2 ?_
 refine Lst.alloc (cs := enc (ToR.mk ({ To.zero with Early := ([] : List Parcel) } : To) Sl.nil)) rfl rfl (by decide) Try.zeroValue90 rfl (fun b61 => ?_)
 refine Lst.store (i := 0) rfl rfl rfl rfl rfl Try.sizeOf90 (vs := enc (ToR.mk r52.1 s54)) rfl (Enc.len _) (Enc.one _) (cs' := enc (ToR.mk r52.1 s54)) (Put.here ((Enc.len _).trans (Enc.len _).symm)) (L' := (.blk b61 (enc (ToR.mk r52.1 s54)) 90) :: (.own Sl.nil 92 2 (encs ([] : List Parcel))) :: (.own s54 92 2 (encs r52.1.Early)) :: (.own s56 9 1 (encs r52.2)) :: (.blk b18 (enc (ToR.mk r9.1 s11)) 90) :: (.own Sl.nil 92 2 (encs ([] : List Parcel))) :: (.own s11 92 2 (encs r9.1.Early)) :: (.own s13 9 1 (encs r9.2.1)) :: (.blk b3 (enc a1) 92) :: (.blk b1 (enc (ToR.mk a0 s_a0_1)) 90) :: L) rfl ?_
 refine Lst.r (Ev.assign rfl) ?_
 refine nsr ?_
 refine Lst.r (Ev.loadA (i := 4) rfl rfl Try.isAgg90 Try.sizeOf90 (ch := enc (ToR.mk r9.1 s11)) (Enc.len _) gh0) ?_
 refine Lst.r (Ev.loadA (i := 0) rfl rfl Try.isAgg90 Try.sizeOf90 (ch := enc (ToR.mk r52.1 s54)) (Enc.len _) gh0) ?_
 obtain ⟨r63, h64, H⟩ := bind_some H
 refine Lst.call1 rfl rfl (by decide) (vs := [.agg (enc (ToR.mk r9.1 s11)).toArray, .agg (enc (ToR.mk r52.1 s54)).toArray]) ⟨rfl, rfl, trivial⟩ Try.call55 (partref_SameTo_sim h64 w0 _ _ _ (.refl _) (rdo 6 rfl rfl rfl) (rdo 2 rfl rfl rfl)) ?_
 refine mv0 rfl ?_
 obtain ⟨o67, H, HKo67⟩ := bind_some H
 refine Lst.join (σ := Bool) 4 (fun y68 => [(8, iv r9.2.2), (72, .bool y68)]) (fun y68 => (.blk b61 (enc (ToR.mk r52.1 s54)) 90) :: (.own Sl.nil 92 2 (encs ([] : List Parcel))) :: (.own s54 92 2 (encs r52.1.Early)) :: (.own s56 9 1 (encs r52.2)) :: (.blk b18 (enc (ToR.mk r9.1 s11)) 90) :: (.own Sl.nil 92 2 (encs ([] : List Parcel))) :: (.own s11 92 2 (encs r9.1.Early)) :: (.own s13 9 1 (encs r9.2.1)) :: (.blk b3 (enc a1) 92) :: (.blk b1 (enc (ToR.mk a0 s_a0_1)) 90) :: L) (fun _ y68 => y68 = o67) ?_ ?_
 ·rcases (Bool.eq_false_or_eq_true r63).symm with hb69 | hb69
  ·replace H := ite_f hb69 H
   refine Lst.skip rfl rfl rfl hb69 rfl (by decide) ?_
   refine Lst.skip rfl rfl rfl hb69 rfl (by decide) ?_
   refine Lst.skip rfl rfl rfl hb69 rfl (by decide) ?_
   refine Lst.r (Ev.pickF rfl hb69 rfl) ?_
   refine Lst.nil ?_
   exact At.meet false fl ⟨rfl, rfl, trivial⟩ rfl (some_inj H)
  replace H := ite_t hb69 H
  refine Lst.rG hb69 (Ev.move rfl) ?_
  refine Lst.rG hb69 (Ev.move rfl) ?_
  obtain ⟨r70, h71, H⟩ := bind_some H
  refine Lst.call1G rfl rfl rfl hb69 rfl (by decide) (vs := [Sl.v s13, Sl.v s56]) ⟨rfl, rfl, trivial⟩ Try.call57 (slices_Equal_string_string_sim h71 w0 _ _ _ (.refl _) (rdo 7 rfl rfl rfl) (rdo 3 rfl rfl rfl)) ?_
  refine Lst.r (Ev.pickT rfl hb69 rfl) ?_
  refine Lst.nil ?_
  exact At.meet r70 fl ⟨rfl, rfl, trivial⟩ rfl (some_inj H)
 rintro F74 y68 hF75 hy
 subst hy
 refine Lst.as (e' := [(8, iv r9.2.2), (72, .bool y68)]) (L' := (.blk b61 (enc (ToR.mk r52.1 s54)) 90) :: (.own Sl.nil 92 2 (encs ([] : List Parcel))) :: (.own s54 92 2 (encs r52.1.Early)) :: (.own s56 9 1 (encs r52.2)) :: (.blk b18 (enc (ToR.mk r9.1 s11)) 90) :: (.own Sl.nil 92 2 (encs ([] : List Parcel))) :: (.own s11 92 2 (encs r9.1.Early)) :: (.own s13 9 1 (encs r9.2.1)) :: (.blk b3 (enc a1) 92) :: (.blk b1 (enc (ToR.mk a0 s_a0_1)) 90) :: L) ⟨rfl, rfl, trivial⟩ rfl ?_
 replace H := HKo67
 refine mv0 rfl ?_
 obtain ⟨o76, H, HKo76⟩ := bind_some H
 refine Lst.join (σ := Bool) 3 (fun y77 => [(76, .bool y77)]) (fun y77 => (.blk b61 (enc (ToR.mk r52.1 s54)) 90) :: (.own Sl.nil 92 2 (encs ([] : List Parcel))) :: (.own s54 92 2 (encs r52.1.Early)) :: (.own s56 9 1 (encs r52.2)) :: (.blk b18 (enc (ToR.mk r9.1 s11)) 90) :: (.own Sl.nil 92 2 (encs ([] : List Parcel))) :: (.own s11 92 2 (encs r9.1.Early)) :: (.own s13 9 1 (encs r9.2.1)) :: (.blk b3 (enc a1) 92) :: (.blk b1 (enc (ToR.mk a0 s_a0_1)) 90) :: L) (fun _ y77 => y77 = o76) ?_ ?_
 ·rcases (Bool.eq_false_or_eq_true y68).symm with hb78 | hb78
  ·replace H := ite_f hb78 H
   refine Lst.skip rfl rfl rfl hb78 rfl (by decide) ?_
   refine Lst.skip rfl rfl rfl hb78 rfl (by decide) ?_
   refine Lst.r (Ev.pickF rfl hb78 rfl) ?_
   refine Lst.nil ?_
   exact At.meet false fl ⟨rfl, trivial⟩ rfl (some_inj H)
  replace H := ite_t hb78 H
  refine Lst.rG hb78 (Ev.move rfl) ?_
  refine Lst.rG hb78 (Ev.eql rfl rfl) ?_
  refine Lst.r (Ev.pickT rfl hb78 rfl) ?_
  refine Lst.nil ?_
  exact At.meet (r9.2.2 == (0 : Int)) fl ⟨rfl, trivial⟩ rfl (some_inj H)
 rintro F79 y77 hF80 hy
 subst hy
 refine Lst.as (e' := [(76, .bool y77)]) (L' := (.blk b61 (enc (ToR.mk r52.1 s54)) 90) :: (.own Sl.nil 92 2 (encs ([] : List Parcel))) :: (.own s54 92 2 (encs r52.1.Early)) :: (.own s56 9 1 (encs r52.2)) :: (.blk b18 (enc (ToR.mk r9.1 s11)) 90) :: (.own Sl.nil 92 2 (encs ([] : List Parcel))) :: (.own s11 92 2 (encs r9.1.Early)) :: (.own s13 9 1 (encs r9.2.1)) :: (.blk b3 (enc a1) 92) :: (.blk b1 (enc (ToR.mk a0 s_a0_1)) 90) :: L) ⟨rfl, trivial⟩ rfl ?_
 replace H := HKo76
 refine Lst.r (Ev.assign rfl) ?_
 refine nt0 ?_
 obtain rfl := some_inj H
 refine Cd.ret ?_
 exact At.ret1 rfl (Res.tmp rfl) (FLe.trans (FLe.trans (FLe.trans (FLe.trans hF16 hF36) hF59) hF75) hF80) (sc1 (sc1 (sc1 (sc1 (sc1 (sc1 (sc1 (sc1 (sc1 (sc1 (.refl _))))))))))) ⟨rfl, rfl⟩
end Go.Proofs.Ytobikknjaomalaa
