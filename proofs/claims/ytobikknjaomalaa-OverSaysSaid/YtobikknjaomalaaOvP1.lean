/-
  The functions compute their specs; printed by a program.
-/
import Derived.Test.YtobikknjaomalaaOvSp
import Derived.Test.YtobikknjaomalaaGoL
import Derived.Test.YtobikknjaomalaaGoK
import Derived.Test.YtobikknjaomalaaGoI
import Derived.Test.YtobikknjaomalaaGoU
import Derived.Test.YtobikknjaomalaaProg
namespace Go.Proofs.Ytobikknjaomalaa
open Go.RowKit Enc
set_option linter.unusedVariables false
set_option linter.unusedSimpArgs false
structure OverR where
  v : Over
  h0 : Sl
  h1 : Sl
instance : Enc OverR := ⟨fun p => enc p.h0 ++ (enc p.h1), 2, fun p => by simp only [List.length_append, Enc.len]; rfl, fun p => by simp only [List.all_append, Enc.one, Bool.and_self]⟩
theorem OverR.get_Hands {p : OverR} {k : Nat} {ch : List Value} (h : Get (enc p.h0) k ch) : Get (enc p) (0 + k) ch := Get.off (Get.left h) (by omega)
theorem OverR.put_Hands {p : OverR} {k : Nat} {vs : List Value} {y : Sl} {l : List Hand} (h : Put (enc p.h0) k vs (enc y)) : Put (enc p) (0 + k) vs (enc ({ p with v := { p.v with Hands := l }, h0 := y } : OverR)) := Put.off (cs' := enc ({ p with v := { p.v with Hands := l }, h0 := y } : OverR)) (Put.left h) (by omega)
theorem OverR.get_Way {p : OverR} {k : Nat} {ch : List Value} (h : Get (enc p.h1) k ch) : Get (enc p) (1 + k) ch := Get.off (Get.right (m := 1) (Enc.len _) h) (by omega)
theorem OverR.put_Way {p : OverR} {k : Nat} {vs : List Value} {y : Sl} {l : List Word} (h : Put (enc p.h1) k vs (enc y)) : Put (enc p) (1 + k) vs (enc ({ p with v := { p.v with Way := l }, h1 := y } : OverR)) := Put.off (cs' := enc ({ p with v := { p.v with Way := l }, h1 := y } : OverR)) (Put.right (m := 1) (Enc.len _) h) (by omega)
def OverR.rel (w0 : World) (F : Frz) (L : List Item) (x : OverR) : Prop := Rd w0 F L x.h0 x.v.Hands ∧ Rd w0 F L x.h1 x.v.Way
theorem OverR.mono {w0 : World} {F F' : Frz} {L L' : List Item} {x : OverR} (h : OverR.rel w0 F L x) (hF : FLe F F') (hL : L.Sublist L') : OverR.rel w0 F' L' x :=
  let ⟨h0, h1⟩ := h
  ⟨h0.mono hF hL, h1.mono hF hL⟩
theorem All.monoOver {w0 : World} {F F' : Frz} {L L' : List Item} {rs : List OverR} (h : All OverR.rel w0 F L rs) (hF : FLe F F') (hL : L.Sublist L') : All OverR.rel w0 F' L' rs := fun x hx => OverR.mono (h x hx) hF hL
set_option maxRecDepth 20000 in
theorem eq135 (x y : Hand) : ∀ w, (Op.equal 135 (.agg (enc x).toArray) (.agg (enc y).toArray)).run Try.prog w = .ok (decide (x = y)) w :=
  EqT.top (d := 10000) Try.isAgg135 Try.sizeOf135 rfl rfl (EqT.struct Try.isAgg135 Try.sizeOf135 rfl Try.runUnderlying135 (by kernel_rfl) (fun x y w => by
  refine Eq.trans (eqField (p := x.Busy) (q := y.Busy) rfl (EqT.bool Try.isAgg4 Try.runUnderlying4) rfl ((Hand.get_Busy (Get.here _)).off rfl) ((Hand.get_Busy (Get.here _)).off rfl) (eqField (p := x.Boss) (q := y.Boss) rfl (EqT.int Try.isAgg3 Try.runUnderlying3) rfl ((Hand.get_Boss (Get.here _)).off rfl) ((Hand.get_Boss (Get.here _)).off rfl) (eqField (p := x.Owed) (q := y.Owed) rfl (EqT.int Try.isAgg3 Try.runUnderlying3) rfl ((Hand.get_Owed (Get.here _)).off rfl) ((Hand.get_Owed (Get.here _)).off rfl) (by rfl)))) ?_
  congr 1
  rw [Bool.eq_iff_iff]; cases x; cases y; simp)) x y
set_option maxRecDepth 20000 in
theorem eq209 (x y : Word) : ∀ w, (Op.equal 209 (.agg (enc x).toArray) (.agg (enc y).toArray)).run Try.prog w = .ok (decide (x = y)) w :=
  EqT.top (d := 10000) Try.isAgg209 Try.sizeOf209 rfl rfl (EqT.struct Try.isAgg209 Try.sizeOf209 rfl Try.runUnderlying209 (by kernel_rfl) (fun x y w => by
  refine Eq.trans (eqField (p := x.From) (q := y.From) rfl (EqT.int Try.isAgg3 Try.runUnderlying3) rfl ((Word.get_From (Get.here _)).off rfl) ((Word.get_From (Get.here _)).off rfl) (eqField (p := x.To) (q := y.To) rfl (EqT.int Try.isAgg3 Try.runUnderlying3) rfl ((Word.get_To (Get.here _)).off rfl) ((Word.get_To (Get.here _)).off rfl) (eqField (p := x.At) (q := y.At) rfl (EqT.int Try.isAgg3 Try.runUnderlying3) rfl ((Word.get_At (Get.here _)).off rfl) ((Word.get_At (Get.here _)).off rfl) (by rfl)))) ?_
  congr 1
  rw [Bool.eq_iff_iff]; cases x; cases y; simp)) x y
set_option maxRecDepth 20000 in
theorem partref_wordsErr_sim {a0 : Int} {a1 : List Word} {a2 : Int} {s_a1 : Sl} {r : Int} (H : partref_wordsErr a0 a1 a2 = some r) (w0 : World) (F : Frz) (M L : List Item) (hM : M.Sublist L) (hs_a1 : Rd w0 F M s_a1 a1) : Ok Try.prog w0 154 [.int .i64 a0, Sl.v s_a1, .int .i64 a2] F (L) (Is (.int .i64 r) (L)) := by
  unfold partref_wordsErr at H
  refine Ok.enter (m := 3) (n := 65) Try.func154 rfl rfl rfl (by decide) ?_
  refine Cd.env (e' := [(0, .int .i64 a0), (1, Sl.v s_a1), (2, .int .i64 a2)]) rfl ?_
  refine Cd.seq ?_
  refine Cd.region ?_
  refine Lst.run rfl rfl (by decide) (Ev.assign rfl) ?_
  refine Lst.nil ?_
  refine At.then ?_
  refine Cd.seq ?_
  refine Cd.seq ?_
  refine Cd.region ?_
  refine Lst.run rfl rfl (by decide) (Ev.move rfl) ?_
  refine Lst.run rfl rfl (by decide) (Ev.lenS (α := Word) (xs := a1) (by decide) rfl rfl Try.runUnderlying112 (hs_a1.mono (FLe.refl _) hM)) ?_
  refine Lst.run rfl rfl (by decide) (Ev.gtr rfl rfl) ?_
  refine Lst.nil ?_
  refine At.then ?_
  rcases Bool.eq_false_or_eq_true (decide ((a1.length : Int) > (100 : Int))) with hb1 | hb1
  · replace H := ite_t hb1 H
    refine Cd.condT rfl hb1 ?_
    refine Cd.seq ?_
    refine Cd.region ?_
    refine Lst.run rfl rfl (by decide) (Ev.assign rfl) ?_
    refine Lst.nil ?_
    refine At.then ?_
    obtain rfl := some_inj H
    refine Cd.ret ?_
    refine At.then_ret ?_
    exact At.ret1 rfl (Res.tmp rfl) (FLe.refl _) (List.Sublist.refl _) ⟨rfl, rfl⟩
  replace H := ite_f hb1 H
  refine Cd.condF rfl hb1 ?_
  refine Cd.skip ?_
  refine At.then ?_
  refine Cd.seq ?_
  refine Cd.seq ?_
  refine Cd.region ?_
  refine Lst.run rfl rfl (by decide) (Ev.move rfl) ?_
  refine Lst.run rfl rfl (by decide) (Ev.lenS (α := Word) (xs := a1) (by decide) rfl rfl Try.runUnderlying112 (hs_a1.mono (FLe.refl _) hM)) ?_
  refine Lst.run rfl rfl (by decide) (Ev.move rfl) ?_
  refine Lst.nil ?_
  refine At.then ?_
  refine Cd.block ?_
  refine Cd.bound (Rd.le (α := Word) (xs := a1) (by decide) (hs_a1.mono (FLe.refl _) hM)) (fun hN45 => ?_)
  obtain ⟨ol2, H, HKl2⟩ := andThen_some H
  refine Cd.loop (σ := Nat × Nat × Unit) (fun (i2, k2, _u) => [(0, .int .i64 a0), (2, .int .i64 a2), (12, Sl.v s_a1), (13, .int .i64 (a1.length : Int)), (14, .int .i64 (i2 : Int))]) (fun (i2, k2, _u) => L) (fun _ => (fun (i2, k2, _u) => rangeM (partref_wordsErr_B0 a0 a1 a2) k2 i2 () = some ol2 ∧ i2 + k2 = a1.length)) (fun (i2, k2, _u) => k2) (0, a1.length, ()) ⟨rfl, rfl, rfl, rfl, rfl, trivial⟩ rfl ⟨H, by omega⟩ ?_
  rintro F3 ⟨i2, k2, _u⟩ hF4 ⟨H, hik2⟩
  refine Cd.as (e' := [(0, .int .i64 a0), (2, .int .i64 a2), (12, Sl.v s_a1), (13, .int .i64 (a1.length : Int)), (14, .int .i64 (i2 : Int))]) (L' := L) ⟨rfl, rfl, rfl, rfl, rfl, trivial⟩ rfl ?_
  rcases k2 with _ | k2
  · have hc2 : decide ((i2 : Int) < (a1.length : Int)) = false := decide_eq_false (by omega)
    replace H := rangeM_end H
    refine Cd.seq ?_
    refine Cd.region ?_
    refine Lst.run rfl rfl (by decide) (Ev.lss rfl rfl) ?_
    refine Lst.nil ?_
    refine At.then ?_
    refine Cd.seq ?_
    refine Cd.condF rfl hc2 ?_
    refine Cd.exit ?_
    refine At.then_exit ?_
    refine At.then_exit ?_
    refine At.in_exit ?_
    subst H
    replace H := HKl2
    refine At.then ?_
    refine Cd.seq ?_
    refine Cd.region ?_
    refine Lst.run rfl rfl (by decide) (Ev.assign rfl) ?_
    refine Lst.nil ?_
    refine At.then ?_
    obtain rfl := some_inj H
    refine Cd.ret ?_
    exact At.ret1 rfl (Res.tmp rfl) hF4 (List.Sublist.refl _) ⟨rfl, rfl⟩
  have hc2 : decide ((i2 : Int) < (a1.length : Int)) = true := decide_eq_true (by omega)
  obtain ⟨c2, H, hgo2, hbrk2, hret2⟩ := rangeM_go H
  unfold partref_wordsErr_B0 at H
  try dsimp only at H
  refine Cd.seq ?_
  refine Cd.region ?_
  refine Lst.run rfl rfl (by decide) (Ev.lss rfl rfl) ?_
  refine Lst.nil ?_
  refine At.then ?_
  refine Cd.seq ?_
  refine Cd.condT rfl hc2 ?_
  refine Cd.skip ?_
  refine At.then ?_
  refine Cd.seq ?_
  refine Cd.block ?_
  refine Cd.seq ?_
  refine Cd.region ?_
  obtain ⟨x5, h6, H⟩ := bind_some H
  have g7 := lat_some h6
  refine Lst.run rfl rfl (by decide) (Ev.indexS (α := Word) (xs := a1) rfl rfl Try.runUnderlying112 Try.sizeOf209 rfl (by decide) (hs_a1.mono hF4 hM) g7.1 g7.2.1) ?_
  refine Lst.run rfl rfl (by decide) (Ev.loadSA (α := Word) rfl (hs_a1.mono hF4 hM) Try.isAgg209 Try.sizeOf209 (ch := enc x5) (Enc.len _) (by decide) ((Get.elemN (s := 3) (x := x5) rfl g7.2.2 (Get.here _)).off (by omega))) ?_
  refine Lst.alloc (cs := enc Word.zero) rfl rfl (by decide) Try.zeroValue209 rfl (fun b8 => ?_)
  refine Lst.store (i := 0) rfl rfl rfl rfl rfl Try.sizeOf209 (vs := enc x5) rfl (Enc.len _) (Enc.one _) (cs' := enc x5) (Put.here ((Enc.len _).trans (Enc.len _).symm)) (L' := (.blk b8 (enc x5) 209) :: L) rfl ?_
  refine Lst.nil ?_
  refine At.then ?_
  refine Cd.seq ?_
  refine Cd.seq ?_
  refine Cd.region ?_
  refine Lst.run rfl rfl (by decide) (Ev.fieldAddr (off' := 0) rfl Try.runUnderlying209 rfl Try.sizeOf3 rfl rfl) ?_
  refine Lst.run rfl rfl (by decide) (Ev.load (i := 0) rfl rfl Try.isAgg3 (v := .int .i64 x5.From) ((Word.get_From (Get.here _)).off (by rfl))) ?_
  refine Lst.run rfl rfl (by decide) (Ev.fieldAddr (off' := 1) rfl Try.runUnderlying209 rfl Try.sizeOf3 rfl rfl) ?_
  refine Lst.run rfl rfl (by decide) (Ev.load (i := 0) rfl rfl Try.isAgg3 (v := .int .i64 x5.To) ((Word.get_To (Get.here _)).off (by rfl))) ?_
  refine Lst.run rfl rfl (by decide) (Ev.min2 rfl rfl) ?_
  refine Lst.run rfl rfl (by decide) (Ev.lss rfl rfl) ?_
  refine Lst.run rfl rfl (by decide) (Ev.move rfl) ?_
  obtain ⟨o10, H, HKo10⟩ := bind_some H
  refine Lst.join (σ := Bool) 8 (fun y11 => [(0, .int .i64 a0), (2, .int .i64 a2), (8, .pointer (some ⟨b8, 0, none⟩)), (12, Sl.v s_a1), (13, .int .i64 (a1.length : Int)), (14, .int .i64 (i2 : Int)), (32, .bool y11)]) (fun y11 => (.blk b8 (enc x5) 209) :: L) (fun _ y11 => y11 = o10) ?_ ?_
  · rcases Bool.eq_false_or_eq_true (decide ((min x5.From x5.To) < (0 : Int))) with hb12 | hb12
    · replace H := ite_t hb12 H
      refine Lst.skip rfl rfl rfl hb12 rfl (by decide) ?_
      refine Lst.skip rfl rfl rfl hb12 rfl (by decide) ?_
      refine Lst.skip rfl rfl rfl hb12 rfl (by decide) ?_
      refine Lst.skip rfl rfl rfl hb12 rfl (by decide) ?_
      refine Lst.skip rfl rfl rfl hb12 rfl (by decide) ?_
      refine Lst.skip rfl rfl rfl hb12 rfl (by decide) ?_
      refine Lst.skip rfl rfl rfl hb12 rfl (by decide) ?_
      refine Lst.run rfl rfl (by decide) (Ev.pickT rfl hb12 rfl) ?_
      refine Lst.nil ?_
      exact At.meet true (FLe.refl _) ⟨rfl, rfl, rfl, rfl, rfl, rfl, rfl, trivial⟩ rfl (some_inj H)
    replace H := ite_f hb12 H
    refine Lst.runG rfl rfl rfl hb12 rfl (by decide) (Ev.fieldAddr (off' := 0) rfl Try.runUnderlying209 rfl Try.sizeOf3 rfl rfl) ?_
    refine Lst.runG rfl rfl rfl hb12 rfl (by decide) (Ev.load (i := 0) rfl rfl Try.isAgg3 (v := .int .i64 x5.From) ((Word.get_From (Get.here _)).off (by rfl))) ?_
    refine Lst.runG rfl rfl rfl hb12 rfl (by decide) (Ev.fieldAddr (off' := 1) rfl Try.runUnderlying209 rfl Try.sizeOf3 rfl rfl) ?_
    refine Lst.runG rfl rfl rfl hb12 rfl (by decide) (Ev.load (i := 0) rfl rfl Try.isAgg3 (v := .int .i64 x5.To) ((Word.get_To (Get.here _)).off (by rfl))) ?_
    refine Lst.runG rfl rfl rfl hb12 rfl (by decide) (Ev.max2 rfl rfl) ?_
    refine Lst.runG rfl rfl rfl hb12 rfl (by decide) (Ev.move rfl) ?_
    refine Lst.runG rfl rfl rfl hb12 rfl (by decide) (Ev.geq rfl rfl) ?_
    refine Lst.run rfl rfl (by decide) (Ev.pickF rfl hb12 rfl) ?_
    refine Lst.nil ?_
    exact At.meet (decide ((max x5.From x5.To) ≥ a0)) (FLe.refl _) ⟨rfl, rfl, rfl, rfl, rfl, rfl, rfl, trivial⟩ rfl (some_inj H)
  rintro F13 y11 hF14 hy
  subst hy
  refine Lst.as (e' := [(0, .int .i64 a0), (2, .int .i64 a2), (8, .pointer (some ⟨b8, 0, none⟩)), (12, Sl.v s_a1), (13, .int .i64 (a1.length : Int)), (14, .int .i64 (i2 : Int)), (32, .bool y11)]) (L' := (.blk b8 (enc x5) 209) :: L) ⟨rfl, rfl, rfl, rfl, rfl, rfl, rfl, trivial⟩ rfl ?_
  replace H := HKo10
  refine Lst.run rfl rfl (by decide) (Ev.move rfl) ?_
  rcases Bool.eq_false_or_eq_true y11 with hb15 | hb15
  · replace H := ite_t hb15 H
    refine Lst.skip rfl rfl rfl hb15 rfl (by decide) ?_
    refine Lst.skip rfl rfl rfl hb15 rfl (by decide) ?_
    refine Lst.skip rfl rfl rfl hb15 rfl (by decide) ?_
    refine Lst.skipU rfl rfl rfl rfl (by decide) ?_
    refine Lst.skipU rfl rfl rfl rfl (by decide) ?_
    refine Lst.skipU rfl rfl rfl rfl (by decide) ?_
    refine Lst.skipU rfl rfl rfl rfl (by decide) ?_
    refine Lst.skipU rfl rfl rfl rfl (by decide) ?_
    refine Lst.skipU rfl rfl rfl rfl (by decide) ?_
    refine Lst.skipU rfl rfl rfl rfl (by decide) ?_
    refine Lst.skipU rfl rfl rfl rfl (by decide) ?_
    refine Lst.skipU rfl rfl rfl rfl (by decide) ?_
    refine Lst.skip rfl rfl rfl hb15 rfl (by decide) ?_
    refine Lst.run rfl rfl (by decide) (Ev.pickT rfl hb15 rfl) ?_
    refine Lst.nil ?_
    refine At.then ?_
    refine Cd.condT rfl rfl ?_
    refine Cd.seq ?_
    refine Cd.as (e' := []) (L' := (.blk b8 (enc x5) 209) :: L) trivial rfl ?_
    refine Cd.region ?_
    refine Lst.run rfl rfl (by decide) (Ev.assign rfl) ?_
    refine Lst.nil ?_
    refine At.then ?_
    have H := hret2 _ (some_inj H).symm
    subst H
    replace H := HKl2
    obtain rfl := some_inj H
    refine Cd.ret ?_
    refine At.then_ret ?_
    refine At.in_ret ?_
    refine At.then_ret ?_
    refine At.then_ret ?_
    refine At.in_ret ?_
    refine At.then_ret ?_
    exact At.ret1 rfl (Res.tmp rfl) (FLe.trans hF4 hF14) (List.Sublist.cons _ (List.Sublist.refl _)) ⟨rfl, rfl⟩
  replace H := ite_f hb15 H
  refine Lst.runG rfl rfl rfl hb15 rfl (by decide) (Ev.move rfl) ?_
  refine Lst.runG rfl rfl rfl hb15 rfl (by decide) (Ev.gtr rfl rfl) ?_
  refine Lst.runG rfl rfl rfl hb15 rfl (by decide) (Ev.move rfl) ?_
  rcases (Bool.eq_false_or_eq_true (decide (a2 > (1 : Int)))).symm with hb16 | hb16
  · replace H := ite_f hb16 H
    refine Lst.skip rfl rfl rfl hb16 rfl (by decide) ?_
    refine Lst.skip rfl rfl rfl hb16 rfl (by decide) ?_
    refine Lst.skip rfl rfl rfl hb16 rfl (by decide) ?_
    refine Lst.skip rfl rfl rfl hb16 rfl (by decide) ?_
    refine Lst.skipU rfl rfl rfl rfl (by decide) ?_
    refine Lst.skipU rfl rfl rfl rfl (by decide) ?_
    refine Lst.skipU rfl rfl rfl rfl (by decide) ?_
    refine Lst.skipU rfl rfl rfl rfl (by decide) ?_
    refine Lst.skip rfl rfl rfl hb16 rfl (by decide) ?_
    refine Lst.runG rfl rfl rfl hb15 rfl (by decide) (Ev.pickF rfl hb16 rfl) ?_
    refine Lst.run rfl rfl (by decide) (Ev.pickF rfl hb15 rfl) ?_
    refine Lst.nil ?_
    refine At.then ?_
    refine Cd.condF rfl rfl ?_
    refine Cd.skip ?_
    refine At.then ?_
    refine Cd.seq ?_
    refine Cd.as (e' := [(0, .int .i64 a0), (2, .int .i64 a2), (8, .pointer (some ⟨b8, 0, none⟩)), (12, Sl.v s_a1), (13, .int .i64 (a1.length : Int)), (14, .int .i64 (i2 : Int))]) (L' := (.blk b8 (enc x5) 209) :: L) ⟨rfl, rfl, rfl, rfl, rfl, rfl, trivial⟩ rfl ?_
    refine Cd.region ?_
    refine Lst.run rfl rfl (by decide) (Ev.fieldAddr (off' := 0) rfl Try.runUnderlying209 rfl Try.sizeOf3 rfl rfl) ?_
    refine Lst.run rfl rfl (by decide) (Ev.load (i := 0) rfl rfl Try.isAgg3 (v := .int .i64 x5.From) ((Word.get_From (Get.here _)).off (by rfl))) ?_
    refine Lst.run rfl rfl (by decide) (Ev.fieldAddr (off' := 1) rfl Try.runUnderlying209 rfl Try.sizeOf3 rfl rfl) ?_
    refine Lst.run rfl rfl (by decide) (Ev.load (i := 0) rfl rfl Try.isAgg3 (v := .int .i64 x5.To) ((Word.get_To (Get.here _)).off (by rfl))) ?_
    refine Lst.run rfl rfl (by decide) (Ev.eql rfl rfl) ?_
    refine Lst.run rfl rfl (by decide) (Ev.move rfl) ?_
    obtain ⟨o17, H, HKo17⟩ := bind_some H
    refine Lst.join (σ := Bool) 4 (fun y18 => [(0, .int .i64 a0), (2, .int .i64 a2), (8, .pointer (some ⟨b8, 0, none⟩)), (12, Sl.v s_a1), (13, .int .i64 (a1.length : Int)), (14, .int .i64 (i2 : Int)), (57, .bool y18)]) (fun y18 => (.blk b8 (enc x5) 209) :: L) (fun _ y18 => y18 = o17) ?_ ?_
    · rcases Bool.eq_false_or_eq_true (x5.From == x5.To) with hb19 | hb19
      · replace H := ite_t hb19 H
        refine Lst.skip rfl rfl rfl hb19 rfl (by decide) ?_
        refine Lst.skip rfl rfl rfl hb19 rfl (by decide) ?_
        refine Lst.skip rfl rfl rfl hb19 rfl (by decide) ?_
        refine Lst.run rfl rfl (by decide) (Ev.pickT rfl hb19 rfl) ?_
        refine Lst.nil ?_
        exact At.meet true (FLe.refl _) ⟨rfl, rfl, rfl, rfl, rfl, rfl, rfl, trivial⟩ rfl (some_inj H)
      replace H := ite_f hb19 H
      refine Lst.runG rfl rfl rfl hb19 rfl (by decide) (Ev.fieldAddr (off' := 2) rfl Try.runUnderlying209 rfl Try.sizeOf3 rfl rfl) ?_
      refine Lst.runG rfl rfl rfl hb19 rfl (by decide) (Ev.load (i := 0) rfl rfl Try.isAgg3 (v := .int .i64 x5.At) ((Word.get_At (Get.here _)).off (by rfl))) ?_
      refine Lst.runG rfl rfl rfl hb19 rfl (by decide) (Ev.lss rfl rfl) ?_
      refine Lst.run rfl rfl (by decide) (Ev.pickF rfl hb19 rfl) ?_
      refine Lst.nil ?_
      exact At.meet (decide (x5.At < (0 : Int))) (FLe.refl _) ⟨rfl, rfl, rfl, rfl, rfl, rfl, rfl, trivial⟩ rfl (some_inj H)
    rintro F20 y18 hF21 hy
    subst hy
    refine Lst.as (e' := [(0, .int .i64 a0), (2, .int .i64 a2), (8, .pointer (some ⟨b8, 0, none⟩)), (12, Sl.v s_a1), (13, .int .i64 (a1.length : Int)), (14, .int .i64 (i2 : Int)), (57, .bool y18)]) (L' := (.blk b8 (enc x5) 209) :: L) ⟨rfl, rfl, rfl, rfl, rfl, rfl, rfl, trivial⟩ rfl ?_
    replace H := HKo17
    refine Lst.run rfl rfl (by decide) (Ev.move rfl) ?_
    obtain ⟨o22, H, HKo22⟩ := bind_some H
    refine Lst.join (σ := Bool) 5 (fun y23 => [(0, .int .i64 a0), (2, .int .i64 a2), (12, Sl.v s_a1), (13, .int .i64 (a1.length : Int)), (14, .int .i64 (i2 : Int)), (63, .bool y23)]) (fun y23 => (.blk b8 (enc x5) 209) :: L) (fun _ y23 => y23 = o22) ?_ ?_
    · rcases Bool.eq_false_or_eq_true y18 with hb24 | hb24
      · replace H := ite_t hb24 H
        refine Lst.skip rfl rfl rfl hb24 rfl (by decide) ?_
        refine Lst.skip rfl rfl rfl hb24 rfl (by decide) ?_
        refine Lst.skip rfl rfl rfl hb24 rfl (by decide) ?_
        refine Lst.skip rfl rfl rfl hb24 rfl (by decide) ?_
        refine Lst.run rfl rfl (by decide) (Ev.pickT rfl hb24 rfl) ?_
        refine Lst.nil ?_
        exact At.meet true (FLe.refl _) ⟨rfl, rfl, rfl, rfl, rfl, rfl, trivial⟩ rfl (some_inj H)
      replace H := ite_f hb24 H
      refine Lst.runG rfl rfl rfl hb24 rfl (by decide) (Ev.fieldAddr (off' := 2) rfl Try.runUnderlying209 rfl Try.sizeOf3 rfl rfl) ?_
      refine Lst.runG rfl rfl rfl hb24 rfl (by decide) (Ev.load (i := 0) rfl rfl Try.isAgg3 (v := .int .i64 x5.At) ((Word.get_At (Get.here _)).off (by rfl))) ?_
      refine Lst.runG rfl rfl rfl hb24 rfl (by decide) (Ev.move rfl) ?_
      refine Lst.runG rfl rfl rfl hb24 rfl (by decide) (Ev.gtr rfl rfl) ?_
      refine Lst.run rfl rfl (by decide) (Ev.pickF rfl hb24 rfl) ?_
      refine Lst.nil ?_
      exact At.meet (decide (x5.At > a2)) (FLe.refl _) ⟨rfl, rfl, rfl, rfl, rfl, rfl, trivial⟩ rfl (some_inj H)
    rintro F25 y23 hF26 hy
    subst hy
    refine Lst.as (e' := [(0, .int .i64 a0), (2, .int .i64 a2), (12, Sl.v s_a1), (13, .int .i64 (a1.length : Int)), (14, .int .i64 (i2 : Int)), (63, .bool y23)]) (L' := (.blk b8 (enc x5) 209) :: L) ⟨rfl, rfl, rfl, rfl, rfl, rfl, trivial⟩ rfl ?_
    replace H := HKo22
    refine Lst.nil ?_
    refine At.then ?_
    rcases Bool.eq_false_or_eq_true y23 with hb27 | hb27
    · replace H := ite_t hb27 H
      refine Cd.condT rfl hb27 ?_
      refine Cd.seq ?_
      refine Cd.region ?_
      refine Lst.run rfl rfl (by decide) (Ev.assign rfl) ?_
      refine Lst.nil ?_
      refine At.then ?_
      have H := hret2 _ (some_inj H).symm
      subst H
      replace H := HKl2
      obtain rfl := some_inj H
      refine Cd.ret ?_
      refine At.in_ret ?_
      refine At.then_ret ?_
      refine At.then_ret ?_
      refine At.in_ret ?_
      refine At.then_ret ?_
      exact At.ret1 rfl (Res.tmp rfl) (FLe.trans (FLe.trans (FLe.trans hF4 hF14) hF21) hF26) (List.Sublist.cons _ (List.Sublist.refl _)) ⟨rfl, rfl⟩
    replace H := ite_f hb27 H
    refine Cd.condF rfl hb27 ?_
    refine Cd.skip ?_
    refine At.in_normal ?_
    refine At.then ?_
    refine Cd.region ?_
    refine Lst.run rfl rfl (by decide) (Ev.incr (by omega) rfl rfl) ?_
    refine Lst.run rfl rfl (by decide) (Ev.move rfl) ?_
    refine Lst.nil ?_
    refine At.less (L' := L) (List.Sublist.cons _ (List.Sublist.refl _)) ?_
    exact At.meet (i2 + 1, k2, ()) (FLe.trans (FLe.trans (FLe.trans hF4 hF14) hF21) hF26) ⟨rfl, rfl, rfl, rfl, rfl, trivial⟩ rfl ⟨⟨hgo2 _ (some_inj H).symm, by omega⟩, Nat.lt_succ_self _⟩
  replace H := ite_t hb16 H
  refine Lst.runG rfl rfl rfl hb16 rfl (by decide) (Ev.fieldAddr (off' := 2) rfl Try.runUnderlying209 rfl Try.sizeOf3 rfl rfl) ?_
  refine Lst.runG rfl rfl rfl hb16 rfl (by decide) (Ev.load (i := 0) rfl rfl Try.isAgg3 (v := .int .i64 x5.At) ((Word.get_At (Get.here _)).off (by rfl))) ?_
  refine Lst.runG rfl rfl rfl hb16 rfl (by decide) (Ev.lss rfl rfl) ?_
  refine Lst.runG rfl rfl rfl hb16 rfl (by decide) (Ev.move rfl) ?_
  obtain ⟨o28, H, HKo28⟩ := bind_some H
  refine Lst.join (σ := Bool) 5 (fun y29 => [(0, .int .i64 a0), (2, .int .i64 a2), (8, .pointer (some ⟨b8, 0, none⟩)), (12, Sl.v s_a1), (13, .int .i64 (a1.length : Int)), (14, .int .i64 (i2 : Int)), (33, .bool y11), (36, .bool (decide (a2 > (1 : Int)))), (45, .bool y29)]) (fun y29 => (.blk b8 (enc x5) 209) :: L) (fun _ y29 => y29 = o28) ?_ ?_
  · rcases Bool.eq_false_or_eq_true (decide (x5.At < (0 : Int))) with hb30 | hb30
    · replace H := ite_t hb30 H
      refine Lst.skip rfl rfl rfl hb30 rfl (by decide) ?_
      refine Lst.skip rfl rfl rfl hb30 rfl (by decide) ?_
      refine Lst.skip rfl rfl rfl hb30 rfl (by decide) ?_
      refine Lst.skip rfl rfl rfl hb30 rfl (by decide) ?_
      refine Lst.runG rfl rfl rfl hb16 rfl (by decide) (Ev.pickT rfl hb30 rfl) ?_
      refine Lst.nil ?_
      exact At.meet true (FLe.refl _) ⟨rfl, rfl, rfl, rfl, rfl, rfl, rfl, rfl, rfl, trivial⟩ rfl (some_inj H)
    replace H := ite_f hb30 H
    refine Lst.runG rfl rfl rfl hb30 rfl (by decide) (Ev.fieldAddr (off' := 2) rfl Try.runUnderlying209 rfl Try.sizeOf3 rfl rfl) ?_
    refine Lst.runG rfl rfl rfl hb30 rfl (by decide) (Ev.load (i := 0) rfl rfl Try.isAgg3 (v := .int .i64 x5.At) ((Word.get_At (Get.here _)).off (by rfl))) ?_
    refine Lst.runG rfl rfl rfl hb30 rfl (by decide) (Ev.move rfl) ?_
    refine Lst.runG rfl rfl rfl hb30 rfl (by decide) (Ev.gtr rfl rfl) ?_
    refine Lst.runG rfl rfl rfl hb16 rfl (by decide) (Ev.pickF rfl hb30 rfl) ?_
    refine Lst.nil ?_
    exact At.meet (decide (x5.At > a2)) (FLe.refl _) ⟨rfl, rfl, rfl, rfl, rfl, rfl, rfl, rfl, rfl, trivial⟩ rfl (some_inj H)
  rintro F31 y29 hF32 hy
  subst hy
  refine Lst.as (e' := [(0, .int .i64 a0), (2, .int .i64 a2), (8, .pointer (some ⟨b8, 0, none⟩)), (12, Sl.v s_a1), (13, .int .i64 (a1.length : Int)), (14, .int .i64 (i2 : Int)), (33, .bool y11), (36, .bool (decide (a2 > (1 : Int)))), (45, .bool y29)]) (L' := (.blk b8 (enc x5) 209) :: L) ⟨rfl, rfl, rfl, rfl, rfl, rfl, rfl, rfl, rfl, trivial⟩ rfl ?_
  replace H := HKo28
  refine Lst.runG rfl rfl rfl hb15 rfl (by decide) (Ev.pickT rfl hb16 rfl) ?_
  refine Lst.run rfl rfl (by decide) (Ev.pickF rfl hb15 rfl) ?_
  refine Lst.nil ?_
  refine At.then ?_
  rcases Bool.eq_false_or_eq_true y29 with hb33 | hb33
  · replace H := ite_t hb33 H
    refine Cd.condT rfl hb33 ?_
    refine Cd.seq ?_
    refine Cd.region ?_
    refine Lst.run rfl rfl (by decide) (Ev.assign rfl) ?_
    refine Lst.nil ?_
    refine At.then ?_
    have H := hret2 _ (some_inj H).symm
    subst H
    replace H := HKl2
    obtain rfl := some_inj H
    refine Cd.ret ?_
    refine At.then_ret ?_
    refine At.in_ret ?_
    refine At.then_ret ?_
    refine At.then_ret ?_
    refine At.in_ret ?_
    refine At.then_ret ?_
    exact At.ret1 rfl (Res.tmp rfl) (FLe.trans (FLe.trans hF4 hF14) hF32) (List.Sublist.cons _ (List.Sublist.refl _)) ⟨rfl, rfl⟩
  replace H := ite_f hb33 H
  refine Cd.condF rfl hb33 ?_
  refine Cd.skip ?_
  refine At.then ?_
  refine Cd.seq ?_
  refine Cd.region ?_
  refine Lst.run rfl rfl (by decide) (Ev.fieldAddr (off' := 0) rfl Try.runUnderlying209 rfl Try.sizeOf3 rfl rfl) ?_
  refine Lst.run rfl rfl (by decide) (Ev.load (i := 0) rfl rfl Try.isAgg3 (v := .int .i64 x5.From) ((Word.get_From (Get.here _)).off (by rfl))) ?_
  refine Lst.run rfl rfl (by decide) (Ev.fieldAddr (off' := 1) rfl Try.runUnderlying209 rfl Try.sizeOf3 rfl rfl) ?_
  refine Lst.run rfl rfl (by decide) (Ev.load (i := 0) rfl rfl Try.isAgg3 (v := .int .i64 x5.To) ((Word.get_To (Get.here _)).off (by rfl))) ?_
  refine Lst.run rfl rfl (by decide) (Ev.eql rfl rfl) ?_
  refine Lst.run rfl rfl (by decide) (Ev.move rfl) ?_
  obtain ⟨o34, H, HKo34⟩ := bind_some H
  refine Lst.join (σ := Bool) 4 (fun y35 => [(0, .int .i64 a0), (2, .int .i64 a2), (8, .pointer (some ⟨b8, 0, none⟩)), (12, Sl.v s_a1), (13, .int .i64 (a1.length : Int)), (14, .int .i64 (i2 : Int)), (57, .bool y35)]) (fun y35 => (.blk b8 (enc x5) 209) :: L) (fun _ y35 => y35 = o34) ?_ ?_
  · rcases Bool.eq_false_or_eq_true (x5.From == x5.To) with hb36 | hb36
    · replace H := ite_t hb36 H
      refine Lst.skip rfl rfl rfl hb36 rfl (by decide) ?_
      refine Lst.skip rfl rfl rfl hb36 rfl (by decide) ?_
      refine Lst.skip rfl rfl rfl hb36 rfl (by decide) ?_
      refine Lst.run rfl rfl (by decide) (Ev.pickT rfl hb36 rfl) ?_
      refine Lst.nil ?_
      exact At.meet true (FLe.refl _) ⟨rfl, rfl, rfl, rfl, rfl, rfl, rfl, trivial⟩ rfl (some_inj H)
    replace H := ite_f hb36 H
    refine Lst.runG rfl rfl rfl hb36 rfl (by decide) (Ev.fieldAddr (off' := 2) rfl Try.runUnderlying209 rfl Try.sizeOf3 rfl rfl) ?_
    refine Lst.runG rfl rfl rfl hb36 rfl (by decide) (Ev.load (i := 0) rfl rfl Try.isAgg3 (v := .int .i64 x5.At) ((Word.get_At (Get.here _)).off (by rfl))) ?_
    refine Lst.runG rfl rfl rfl hb36 rfl (by decide) (Ev.lss rfl rfl) ?_
    refine Lst.run rfl rfl (by decide) (Ev.pickF rfl hb36 rfl) ?_
    refine Lst.nil ?_
    exact At.meet (decide (x5.At < (0 : Int))) (FLe.refl _) ⟨rfl, rfl, rfl, rfl, rfl, rfl, rfl, trivial⟩ rfl (some_inj H)
  rintro F37 y35 hF38 hy
  subst hy
  refine Lst.as (e' := [(0, .int .i64 a0), (2, .int .i64 a2), (8, .pointer (some ⟨b8, 0, none⟩)), (12, Sl.v s_a1), (13, .int .i64 (a1.length : Int)), (14, .int .i64 (i2 : Int)), (57, .bool y35)]) (L' := (.blk b8 (enc x5) 209) :: L) ⟨rfl, rfl, rfl, rfl, rfl, rfl, rfl, trivial⟩ rfl ?_
  replace H := HKo34
  refine Lst.run rfl rfl (by decide) (Ev.move rfl) ?_
  obtain ⟨o39, H, HKo39⟩ := bind_some H
  refine Lst.join (σ := Bool) 5 (fun y40 => [(0, .int .i64 a0), (2, .int .i64 a2), (12, Sl.v s_a1), (13, .int .i64 (a1.length : Int)), (14, .int .i64 (i2 : Int)), (63, .bool y40)]) (fun y40 => (.blk b8 (enc x5) 209) :: L) (fun _ y40 => y40 = o39) ?_ ?_
  · rcases Bool.eq_false_or_eq_true y35 with hb41 | hb41
    · replace H := ite_t hb41 H
      refine Lst.skip rfl rfl rfl hb41 rfl (by decide) ?_
      refine Lst.skip rfl rfl rfl hb41 rfl (by decide) ?_
      refine Lst.skip rfl rfl rfl hb41 rfl (by decide) ?_
      refine Lst.skip rfl rfl rfl hb41 rfl (by decide) ?_
      refine Lst.run rfl rfl (by decide) (Ev.pickT rfl hb41 rfl) ?_
      refine Lst.nil ?_
      exact At.meet true (FLe.refl _) ⟨rfl, rfl, rfl, rfl, rfl, rfl, trivial⟩ rfl (some_inj H)
    replace H := ite_f hb41 H
    refine Lst.runG rfl rfl rfl hb41 rfl (by decide) (Ev.fieldAddr (off' := 2) rfl Try.runUnderlying209 rfl Try.sizeOf3 rfl rfl) ?_
    refine Lst.runG rfl rfl rfl hb41 rfl (by decide) (Ev.load (i := 0) rfl rfl Try.isAgg3 (v := .int .i64 x5.At) ((Word.get_At (Get.here _)).off (by rfl))) ?_
    refine Lst.runG rfl rfl rfl hb41 rfl (by decide) (Ev.move rfl) ?_
    refine Lst.runG rfl rfl rfl hb41 rfl (by decide) (Ev.gtr rfl rfl) ?_
    refine Lst.run rfl rfl (by decide) (Ev.pickF rfl hb41 rfl) ?_
    refine Lst.nil ?_
    exact At.meet (decide (x5.At > a2)) (FLe.refl _) ⟨rfl, rfl, rfl, rfl, rfl, rfl, trivial⟩ rfl (some_inj H)
  rintro F42 y40 hF43 hy
  subst hy
  refine Lst.as (e' := [(0, .int .i64 a0), (2, .int .i64 a2), (12, Sl.v s_a1), (13, .int .i64 (a1.length : Int)), (14, .int .i64 (i2 : Int)), (63, .bool y40)]) (L' := (.blk b8 (enc x5) 209) :: L) ⟨rfl, rfl, rfl, rfl, rfl, rfl, trivial⟩ rfl ?_
  replace H := HKo39
  refine Lst.nil ?_
  refine At.then ?_
  rcases Bool.eq_false_or_eq_true y40 with hb44 | hb44
  · replace H := ite_t hb44 H
    refine Cd.condT rfl hb44 ?_
    refine Cd.seq ?_
    refine Cd.region ?_
    refine Lst.run rfl rfl (by decide) (Ev.assign rfl) ?_
    refine Lst.nil ?_
    refine At.then ?_
    have H := hret2 _ (some_inj H).symm
    subst H
    replace H := HKl2
    obtain rfl := some_inj H
    refine Cd.ret ?_
    refine At.in_ret ?_
    refine At.then_ret ?_
    refine At.then_ret ?_
    refine At.in_ret ?_
    refine At.then_ret ?_
    exact At.ret1 rfl (Res.tmp rfl) (FLe.trans (FLe.trans (FLe.trans (FLe.trans hF4 hF14) hF32) hF38) hF43) (List.Sublist.cons _ (List.Sublist.refl _)) ⟨rfl, rfl⟩
  replace H := ite_f hb44 H
  refine Cd.condF rfl hb44 ?_
  refine Cd.skip ?_
  refine At.in_normal ?_
  refine At.then ?_
  refine Cd.region ?_
  refine Lst.run rfl rfl (by decide) (Ev.incr (by omega) rfl rfl) ?_
  refine Lst.run rfl rfl (by decide) (Ev.move rfl) ?_
  refine Lst.nil ?_
  refine At.less (L' := L) (List.Sublist.cons _ (List.Sublist.refl _)) ?_
  exact At.meet (i2 + 1, k2, ()) (FLe.trans (FLe.trans (FLe.trans (FLe.trans hF4 hF14) hF32) hF38) hF43) ⟨rfl, rfl, rfl, rfl, rfl, trivial⟩ rfl ⟨⟨hgo2 _ (some_inj H).symm, by omega⟩, Nat.lt_succ_self _⟩
set_option maxRecDepth 20000 in
theorem partref_OverErr_sim {a0 : Over} {s_a0_0 : Sl} {s_a0_1 : Sl} {r : Int} (H : partref_OverErr a0 = some r) (w0 : World) (F : Frz) (M L : List Item) (hM : M.Sublist L) (hs_a0_0 : Rd w0 F M s_a0_0 a0.Hands) (hs_a0_1 : Rd w0 F M s_a0_1 a0.Way) : Ok Try.prog w0 73 [.agg (enc (OverR.mk a0 s_a0_0 s_a0_1)).toArray] F (L) (Is (.int .i64 r) (L)) := by
  unfold partref_OverErr at H
  refine Ok.enter (m := 1) (n := 79) Try.func73 rfl rfl rfl (by decide) ?_
  refine Cd.env (e' := [(0, .agg (enc (OverR.mk a0 s_a0_0 s_a0_1)).toArray)]) rfl ?_
  refine Cd.seq ?_
  refine Cd.region ?_
  refine Lst.box rfl rfl (by decide) rfl (cs := enc (OverR.mk a0 s_a0_0 s_a0_1)) rfl (fun b1 => ?_)
  refine Lst.run rfl rfl (by decide) (Ev.assign rfl) ?_
  refine Lst.nil ?_
  refine At.then ?_
  refine Cd.seq ?_
  refine Cd.region ?_
  refine Lst.run rfl rfl (by decide) (Ev.fieldAddr (off' := 0) rfl Try.runUnderlying124 rfl Try.sizeOf122 rfl rfl) ?_
  refine Lst.run rfl rfl (by decide) (Ev.load (i := 0) rfl rfl Try.isAgg122 (v := Sl.v s_a0_0) ((OverR.get_Hands (Get.here _)).off (by rfl))) ?_
  refine Lst.run rfl rfl (by decide) (Ev.lenS (α := Hand) (xs := a0.Hands) (by decide) rfl rfl Try.runUnderlying122 (hs_a0_0.mono (FLe.refl _) (List.Sublist.cons _ hM))) ?_
  refine Lst.run rfl rfl (by decide) (Ev.assign rfl) ?_
  refine Lst.nil ?_
  refine At.then ?_
  refine Cd.seq ?_
  refine Cd.seq ?_
  refine Cd.region ?_
  refine Lst.run rfl rfl (by decide) (Ev.move rfl) ?_
  refine Lst.run rfl rfl (by decide) (Ev.lss rfl rfl) ?_
  refine Lst.run rfl rfl (by decide) (Ev.move rfl) ?_
  obtain ⟨o3, H, HKo3⟩ := bind_some H
  refine Lst.join (σ := Bool) 3 (fun y4 => [(1, .pointer (some ⟨b1, 0, none⟩)), (3, .int .i64 (a0.Hands.length : Int)), (15, .bool y4)]) (fun y4 => (.blk b1 (enc (OverR.mk a0 s_a0_0 s_a0_1)) 124) :: L) (fun _ y4 => y4 = o3) ?_ ?_
  · rcases Bool.eq_false_or_eq_true (decide ((a0.Hands.length : Int) < (1 : Int))) with hb5 | hb5
    · replace H := ite_t hb5 H
      refine Lst.skip rfl rfl rfl hb5 rfl (by decide) ?_
      refine Lst.skip rfl rfl rfl hb5 rfl (by decide) ?_
      refine Lst.run rfl rfl (by decide) (Ev.pickT rfl hb5 rfl) ?_
      refine Lst.nil ?_
      exact At.meet true (FLe.refl _) ⟨rfl, rfl, rfl, trivial⟩ rfl (some_inj H)
    replace H := ite_f hb5 H
    refine Lst.runG rfl rfl rfl hb5 rfl (by decide) (Ev.move rfl) ?_
    refine Lst.runG rfl rfl rfl hb5 rfl (by decide) (Ev.gtr rfl rfl) ?_
    refine Lst.run rfl rfl (by decide) (Ev.pickF rfl hb5 rfl) ?_
    refine Lst.nil ?_
    exact At.meet (decide ((a0.Hands.length : Int) > (6 : Int))) (FLe.refl _) ⟨rfl, rfl, rfl, trivial⟩ rfl (some_inj H)
  rintro F6 y4 hF7 hy
  subst hy
  refine Lst.as (e' := [(1, .pointer (some ⟨b1, 0, none⟩)), (3, .int .i64 (a0.Hands.length : Int)), (15, .bool y4)]) (L' := (.blk b1 (enc (OverR.mk a0 s_a0_0 s_a0_1)) 124) :: L) ⟨rfl, rfl, rfl, trivial⟩ rfl ?_
  replace H := HKo3
  refine Lst.nil ?_
  refine At.then ?_
  rcases Bool.eq_false_or_eq_true y4 with hb8 | hb8
  · replace H := ite_t hb8 H
    refine Cd.condT rfl hb8 ?_
    refine Cd.seq ?_
    refine Cd.region ?_
    refine Lst.run rfl rfl (by decide) (Ev.assign rfl) ?_
    refine Lst.nil ?_
    refine At.then ?_
    obtain rfl := some_inj H
    refine Cd.ret ?_
    refine At.then_ret ?_
    exact At.ret1 rfl (Res.tmp rfl) hF7 (List.Sublist.cons _ (List.Sublist.refl _)) ⟨rfl, rfl⟩
  replace H := ite_f hb8 H
  refine Cd.condF rfl hb8 ?_
  refine Cd.skip ?_
  refine At.then ?_
  refine Cd.seq ?_
  refine Cd.seq ?_
  refine Cd.region ?_
  refine Lst.run rfl rfl (by decide) (Ev.fieldAddr (off' := 0) rfl Try.runUnderlying124 rfl Try.sizeOf122 rfl rfl) ?_
  refine Lst.run rfl rfl (by decide) (Ev.load (i := 0) rfl rfl Try.isAgg122 (v := Sl.v s_a0_0) ((OverR.get_Hands (Get.here _)).off (by rfl))) ?_
  refine Lst.run rfl rfl (by decide) (Ev.lenS (α := Hand) (xs := a0.Hands) (by decide) rfl rfl Try.runUnderlying122 (hs_a0_0.mono hF7 (List.Sublist.cons _ hM))) ?_
  refine Lst.run rfl rfl (by decide) (Ev.move rfl) ?_
  refine Lst.nil ?_
  refine At.then ?_
  refine Cd.block ?_
  refine Cd.bound (Rd.le (α := Hand) (xs := a0.Hands) (by decide) (hs_a0_0.mono hF7 (List.Sublist.cons _ hM))) (fun hN56 => ?_)
  obtain ⟨ol9, H, HKl9⟩ := andThen_some H
  refine Cd.loop (σ := Nat × Nat × Unit) (fun (i9, k9, _u) => [(1, .pointer (some ⟨b1, 0, none⟩)), (3, .int .i64 (a0.Hands.length : Int)), (17, Sl.v s_a0_0), (18, .int .i64 (a0.Hands.length : Int)), (19, .int .i64 (i9 : Int))]) (fun (i9, k9, _u) => (.blk b1 (enc (OverR.mk a0 s_a0_0 s_a0_1)) 124) :: L) (fun _ => (fun (i9, k9, _u) => rangeM (partref_OverErr_B0 a0) k9 i9 () = some ol9 ∧ i9 + k9 = a0.Hands.length)) (fun (i9, k9, _u) => k9) (0, a0.Hands.length, ()) ⟨rfl, rfl, rfl, rfl, rfl, trivial⟩ rfl ⟨H, by omega⟩ ?_
  rintro F10 ⟨i9, k9, _u⟩ hF11 ⟨H, hik9⟩
  refine Cd.as (e' := [(1, .pointer (some ⟨b1, 0, none⟩)), (3, .int .i64 (a0.Hands.length : Int)), (17, Sl.v s_a0_0), (18, .int .i64 (a0.Hands.length : Int)), (19, .int .i64 (i9 : Int))]) (L' := (.blk b1 (enc (OverR.mk a0 s_a0_0 s_a0_1)) 124) :: L) ⟨rfl, rfl, rfl, rfl, rfl, trivial⟩ rfl ?_
  rcases k9 with _ | k9
  · have hc9 : decide ((i9 : Int) < (a0.Hands.length : Int)) = false := decide_eq_false (by omega)
    replace H := rangeM_end H
    refine Cd.seq ?_
    refine Cd.region ?_
    refine Lst.run rfl rfl (by decide) (Ev.lss rfl rfl) ?_
    refine Lst.nil ?_
    refine At.then ?_
    refine Cd.seq ?_
    refine Cd.condF rfl hc9 ?_
    refine Cd.exit ?_
    refine At.then_exit ?_
    refine At.then_exit ?_
    refine At.in_exit ?_
    subst H
    replace H := HKl9
    refine At.then ?_
    refine Cd.seq ?_
    refine Cd.region ?_
    refine Lst.run rfl rfl (by decide) (Ev.move rfl) ?_
    refine Lst.run rfl rfl (by decide) (Ev.fieldAddr (off' := 1) rfl Try.runUnderlying124 rfl Try.sizeOf112 rfl rfl) ?_
    refine Lst.run rfl rfl (by decide) (Ev.load (i := 0) rfl rfl Try.isAgg112 (v := Sl.v s_a0_1) ((OverR.get_Way (Get.here _)).off (by rfl))) ?_
    obtain ⟨r52, h53, H⟩ := bind_some H
    refine Lst.call1 rfl rfl (by decide) (vs := [.int .i64 (a0.Hands.length : Int), Sl.v s_a0_1, .int .i64 (1 : Int)]) ⟨rfl, rfl, rfl, trivial⟩ Try.call154 (partref_wordsErr_sim h53 w0 _ M _ (List.Sublist.cons _ hM) (hs_a0_1.mono (FLe.trans hF7 hF11) (List.Sublist.refl _))) ?_
    refine Lst.run rfl rfl (by decide) (Ev.assign rfl) ?_
    refine Lst.nil ?_
    refine At.then ?_
    obtain rfl := some_inj H
    refine Cd.ret ?_
    exact At.ret1 rfl (Res.tmp rfl) (FLe.trans hF7 hF11) (List.Sublist.cons _ (List.Sublist.refl _)) ⟨rfl, rfl⟩
  have hc9 : decide ((i9 : Int) < (a0.Hands.length : Int)) = true := decide_eq_true (by omega)
  obtain ⟨c9, H, hgo9, hbrk9, hret9⟩ := rangeM_go H
  unfold partref_OverErr_B0 at H
  try dsimp only at H
  refine Cd.seq ?_
  refine Cd.region ?_
  refine Lst.run rfl rfl (by decide) (Ev.lss rfl rfl) ?_
  refine Lst.nil ?_
  refine At.then ?_
  refine Cd.seq ?_
  refine Cd.condT rfl hc9 ?_
  refine Cd.skip ?_
  refine At.then ?_
  refine Cd.seq ?_
  refine Cd.block ?_
  refine Cd.seq ?_
  refine Cd.region ?_
  refine Lst.run rfl rfl (by decide) (Ev.move rfl) ?_
  obtain ⟨x12, h13, H⟩ := bind_some H
  have g14 := lat_some h13
  refine Lst.run rfl rfl (by decide) (Ev.indexS (α := Hand) (xs := a0.Hands) rfl rfl Try.runUnderlying122 Try.sizeOf135 rfl (by decide) (hs_a0_0.mono (FLe.trans hF7 hF11) (List.Sublist.cons _ hM)) g14.1 g14.2.1) ?_
  refine Lst.run rfl rfl (by decide) (Ev.loadSA (α := Hand) rfl (hs_a0_0.mono (FLe.trans hF7 hF11) (List.Sublist.cons _ hM)) Try.isAgg135 Try.sizeOf135 (ch := enc x12) (Enc.len _) (by decide) ((Get.elemN (s := 3) (x := x12) rfl g14.2.2 (Get.here _)).off (by omega))) ?_
  refine Lst.alloc (cs := enc Hand.zero) rfl rfl (by decide) Try.zeroValue135 rfl (fun b15 => ?_)
  refine Lst.run rfl rfl (by decide) (Ev.assign rfl) ?_
  refine Lst.store (i := 0) rfl rfl rfl rfl rfl Try.sizeOf135 (vs := enc x12) rfl (Enc.len _) (Enc.one _) (cs' := enc x12) (Put.here ((Enc.len _).trans (Enc.len _).symm)) (L' := (.blk b15 (enc x12) 135) :: (.blk b1 (enc (OverR.mk a0 s_a0_0 s_a0_1)) 124) :: L) rfl ?_
  refine Lst.nil ?_
  refine At.then ?_
  refine Cd.seq ?_
  refine Cd.seq ?_
  refine Cd.region ?_
  refine Lst.run rfl rfl (by decide) (Ev.fieldAddr (off' := 1) rfl Try.runUnderlying135 rfl Try.sizeOf3 rfl rfl) ?_
  refine Lst.run rfl rfl (by decide) (Ev.load (i := 0) rfl rfl Try.isAgg3 (v := .int .i64 x12.Boss) ((Hand.get_Boss (Get.here _)).off (by rfl))) ?_
  refine Lst.run rfl rfl (by decide) (Ev.lss rfl rfl) ?_
  refine Lst.run rfl rfl (by decide) (Ev.move rfl) ?_
  obtain ⟨o17, H, HKo17⟩ := bind_some H
  refine Lst.join (σ := Bool) 5 (fun y18 => [(1, .pointer (some ⟨b1, 0, none⟩)), (3, .int .i64 (a0.Hands.length : Int)), (4, .int .i64 (i9 : Int)), (5, .pointer (some ⟨b15, 0, none⟩)), (17, Sl.v s_a0_0), (18, .int .i64 (a0.Hands.length : Int)), (19, .int .i64 (i9 : Int)), (32, .bool y18)]) (fun y18 => (.blk b15 (enc x12) 135) :: (.blk b1 (enc (OverR.mk a0 s_a0_0 s_a0_1)) 124) :: L) (fun _ y18 => y18 = o17) ?_ ?_
  · rcases Bool.eq_false_or_eq_true (decide (x12.Boss < (-1 : Int))) with hb19 | hb19
    · replace H := ite_t hb19 H
      refine Lst.skip rfl rfl rfl hb19 rfl (by decide) ?_
      refine Lst.skip rfl rfl rfl hb19 rfl (by decide) ?_
      refine Lst.skip rfl rfl rfl hb19 rfl (by decide) ?_
      refine Lst.skip rfl rfl rfl hb19 rfl (by decide) ?_
      refine Lst.run rfl rfl (by decide) (Ev.pickT rfl hb19 rfl) ?_
      refine Lst.nil ?_
      exact At.meet true (FLe.refl _) ⟨rfl, rfl, rfl, rfl, rfl, rfl, rfl, rfl, trivial⟩ rfl (some_inj H)
    replace H := ite_f hb19 H
    refine Lst.runG rfl rfl rfl hb19 rfl (by decide) (Ev.fieldAddr (off' := 1) rfl Try.runUnderlying135 rfl Try.sizeOf3 rfl rfl) ?_
    refine Lst.runG rfl rfl rfl hb19 rfl (by decide) (Ev.load (i := 0) rfl rfl Try.isAgg3 (v := .int .i64 x12.Boss) ((Hand.get_Boss (Get.here _)).off (by rfl))) ?_
    refine Lst.runG rfl rfl rfl hb19 rfl (by decide) (Ev.move rfl) ?_
    refine Lst.runG rfl rfl rfl hb19 rfl (by decide) (Ev.geq rfl rfl) ?_
    refine Lst.run rfl rfl (by decide) (Ev.pickF rfl hb19 rfl) ?_
    refine Lst.nil ?_
    exact At.meet (decide (x12.Boss ≥ (a0.Hands.length : Int))) (FLe.refl _) ⟨rfl, rfl, rfl, rfl, rfl, rfl, rfl, rfl, trivial⟩ rfl (some_inj H)
  rintro F20 y18 hF21 hy
  subst hy
  refine Lst.as (e' := [(1, .pointer (some ⟨b1, 0, none⟩)), (3, .int .i64 (a0.Hands.length : Int)), (4, .int .i64 (i9 : Int)), (5, .pointer (some ⟨b15, 0, none⟩)), (17, Sl.v s_a0_0), (18, .int .i64 (a0.Hands.length : Int)), (19, .int .i64 (i9 : Int)), (32, .bool y18)]) (L' := (.blk b15 (enc x12) 135) :: (.blk b1 (enc (OverR.mk a0 s_a0_0 s_a0_1)) 124) :: L) ⟨rfl, rfl, rfl, rfl, rfl, rfl, rfl, rfl, trivial⟩ rfl ?_
  replace H := HKo17
  refine Lst.run rfl rfl (by decide) (Ev.move rfl) ?_
  obtain ⟨o22, H, HKo22⟩ := bind_some H
  refine Lst.join (σ := Bool) 4 (fun y23 => [(1, .pointer (some ⟨b1, 0, none⟩)), (3, .int .i64 (a0.Hands.length : Int)), (4, .int .i64 (i9 : Int)), (5, .pointer (some ⟨b15, 0, none⟩)), (17, Sl.v s_a0_0), (18, .int .i64 (a0.Hands.length : Int)), (19, .int .i64 (i9 : Int)), (37, .bool y23)]) (fun y23 => (.blk b15 (enc x12) 135) :: (.blk b1 (enc (OverR.mk a0 s_a0_0 s_a0_1)) 124) :: L) (fun _ y23 => y23 = o22) ?_ ?_
  · rcases Bool.eq_false_or_eq_true y18 with hb24 | hb24
    · replace H := ite_t hb24 H
      refine Lst.skip rfl rfl rfl hb24 rfl (by decide) ?_
      refine Lst.skip rfl rfl rfl hb24 rfl (by decide) ?_
      refine Lst.skip rfl rfl rfl hb24 rfl (by decide) ?_
      refine Lst.run rfl rfl (by decide) (Ev.pickT rfl hb24 rfl) ?_
      refine Lst.nil ?_
      exact At.meet true (FLe.refl _) ⟨rfl, rfl, rfl, rfl, rfl, rfl, rfl, rfl, trivial⟩ rfl (some_inj H)
    replace H := ite_f hb24 H
    refine Lst.runG rfl rfl rfl hb24 rfl (by decide) (Ev.fieldAddr (off' := 2) rfl Try.runUnderlying135 rfl Try.sizeOf3 rfl rfl) ?_
    refine Lst.runG rfl rfl rfl hb24 rfl (by decide) (Ev.load (i := 0) rfl rfl Try.isAgg3 (v := .int .i64 x12.Owed) ((Hand.get_Owed (Get.here _)).off (by rfl))) ?_
    refine Lst.runG rfl rfl rfl hb24 rfl (by decide) (Ev.lss rfl rfl) ?_
    refine Lst.run rfl rfl (by decide) (Ev.pickF rfl hb24 rfl) ?_
    refine Lst.nil ?_
    exact At.meet (decide (x12.Owed < (0 : Int))) (FLe.refl _) ⟨rfl, rfl, rfl, rfl, rfl, rfl, rfl, rfl, trivial⟩ rfl (some_inj H)
  rintro F25 y23 hF26 hy
  subst hy
  refine Lst.as (e' := [(1, .pointer (some ⟨b1, 0, none⟩)), (3, .int .i64 (a0.Hands.length : Int)), (4, .int .i64 (i9 : Int)), (5, .pointer (some ⟨b15, 0, none⟩)), (17, Sl.v s_a0_0), (18, .int .i64 (a0.Hands.length : Int)), (19, .int .i64 (i9 : Int)), (37, .bool y23)]) (L' := (.blk b15 (enc x12) 135) :: (.blk b1 (enc (OverR.mk a0 s_a0_0 s_a0_1)) 124) :: L) ⟨rfl, rfl, rfl, rfl, rfl, rfl, rfl, rfl, trivial⟩ rfl ?_
  replace H := HKo22
  refine Lst.run rfl rfl (by decide) (Ev.move rfl) ?_
  obtain ⟨o27, H, HKo27⟩ := bind_some H
  refine Lst.join (σ := Bool) 4 (fun y28 => [(1, .pointer (some ⟨b1, 0, none⟩)), (3, .int .i64 (a0.Hands.length : Int)), (4, .int .i64 (i9 : Int)), (5, .pointer (some ⟨b15, 0, none⟩)), (17, Sl.v s_a0_0), (18, .int .i64 (a0.Hands.length : Int)), (19, .int .i64 (i9 : Int)), (42, .bool y28)]) (fun y28 => (.blk b15 (enc x12) 135) :: (.blk b1 (enc (OverR.mk a0 s_a0_0 s_a0_1)) 124) :: L) (fun _ y28 => y28 = o27) ?_ ?_
  · rcases Bool.eq_false_or_eq_true y23 with hb29 | hb29
    · replace H := ite_t hb29 H
      refine Lst.skip rfl rfl rfl hb29 rfl (by decide) ?_
      refine Lst.skip rfl rfl rfl hb29 rfl (by decide) ?_
      refine Lst.skip rfl rfl rfl hb29 rfl (by decide) ?_
      refine Lst.run rfl rfl (by decide) (Ev.pickT rfl hb29 rfl) ?_
      refine Lst.nil ?_
      exact At.meet true (FLe.refl _) ⟨rfl, rfl, rfl, rfl, rfl, rfl, rfl, rfl, trivial⟩ rfl (some_inj H)
    replace H := ite_f hb29 H
    refine Lst.runG rfl rfl rfl hb29 rfl (by decide) (Ev.fieldAddr (off' := 2) rfl Try.runUnderlying135 rfl Try.sizeOf3 rfl rfl) ?_
    refine Lst.runG rfl rfl rfl hb29 rfl (by decide) (Ev.load (i := 0) rfl rfl Try.isAgg3 (v := .int .i64 x12.Owed) ((Hand.get_Owed (Get.here _)).off (by rfl))) ?_
    refine Lst.runG rfl rfl rfl hb29 rfl (by decide) (Ev.gtr rfl rfl) ?_
    refine Lst.run rfl rfl (by decide) (Ev.pickF rfl hb29 rfl) ?_
    refine Lst.nil ?_
    exact At.meet (decide (x12.Owed > (16777215 : Int))) (FLe.refl _) ⟨rfl, rfl, rfl, rfl, rfl, rfl, rfl, rfl, trivial⟩ rfl (some_inj H)
  rintro F30 y28 hF31 hy
  subst hy
  refine Lst.as (e' := [(1, .pointer (some ⟨b1, 0, none⟩)), (3, .int .i64 (a0.Hands.length : Int)), (4, .int .i64 (i9 : Int)), (5, .pointer (some ⟨b15, 0, none⟩)), (17, Sl.v s_a0_0), (18, .int .i64 (a0.Hands.length : Int)), (19, .int .i64 (i9 : Int)), (42, .bool y28)]) (L' := (.blk b15 (enc x12) 135) :: (.blk b1 (enc (OverR.mk a0 s_a0_0 s_a0_1)) 124) :: L) ⟨rfl, rfl, rfl, rfl, rfl, rfl, rfl, rfl, trivial⟩ rfl ?_
  replace H := HKo27
  refine Lst.nil ?_
  refine At.then ?_
  rcases Bool.eq_false_or_eq_true y28 with hb32 | hb32
  · replace H := ite_t hb32 H
    refine Cd.condT rfl hb32 ?_
    refine Cd.seq ?_
    refine Cd.region ?_
    refine Lst.run rfl rfl (by decide) (Ev.assign rfl) ?_
    refine Lst.nil ?_
    refine At.then ?_
    have H := hret9 _ (some_inj H).symm
    subst H
    replace H := HKl9
    obtain rfl := some_inj H
    refine Cd.ret ?_
    refine At.then_ret ?_
    refine At.in_ret ?_
    refine At.then_ret ?_
    refine At.then_ret ?_
    refine At.in_ret ?_
    refine At.then_ret ?_
    exact At.ret1 rfl (Res.tmp rfl) (FLe.trans (FLe.trans (FLe.trans (FLe.trans hF7 hF11) hF21) hF26) hF31) (List.Sublist.cons _ (List.Sublist.cons _ (List.Sublist.refl _))) ⟨rfl, rfl⟩
  replace H := ite_f hb32 H
  refine Cd.condF rfl hb32 ?_
  refine Cd.skip ?_
  refine At.then ?_
  refine Cd.seq ?_
  refine Cd.region ?_
  refine Lst.run rfl rfl (by decide) (Ev.fieldAddr (off' := 1) rfl Try.runUnderlying135 rfl Try.sizeOf3 rfl rfl) ?_
  refine Lst.run rfl rfl (by decide) (Ev.load (i := 0) rfl rfl Try.isAgg3 (v := .int .i64 x12.Boss) ((Hand.get_Boss (Get.here _)).off (by rfl))) ?_
  refine Lst.run rfl rfl (by decide) (Ev.eql rfl rfl) ?_
  refine Lst.run rfl rfl (by decide) (Ev.assign rfl) ?_
  refine Lst.nil ?_
  refine At.then ?_
  refine Cd.seq ?_
  refine Cd.region ?_
  refine Lst.run rfl rfl (by decide) (Ev.fieldAddr (off' := 1) rfl Try.runUnderlying135 rfl Try.sizeOf3 rfl rfl) ?_
  refine Lst.run rfl rfl (by decide) (Ev.load (i := 0) rfl rfl Try.isAgg3 (v := .int .i64 x12.Boss) ((Hand.get_Boss (Get.here _)).off (by rfl))) ?_
  refine Lst.run rfl rfl (by decide) (Ev.move rfl) ?_
  refine Lst.run rfl rfl (by decide) (Ev.eql rfl rfl) ?_
  refine Lst.run rfl rfl (by decide) (Ev.move rfl) ?_
  rcases Bool.eq_false_or_eq_true (x12.Boss == (i9 : Int)) with hb33 | hb33
  · replace H := ite_t hb33 H
    refine Lst.skip rfl rfl rfl hb33 rfl (by decide) ?_
    refine Lst.skip rfl rfl rfl hb33 rfl (by decide) ?_
    refine Lst.skip rfl rfl rfl hb33 rfl (by decide) ?_
    refine Lst.skipU rfl rfl rfl rfl (by decide) ?_
    refine Lst.skipU rfl rfl rfl rfl (by decide) ?_
    refine Lst.skip rfl rfl rfl hb33 rfl (by decide) ?_
    refine Lst.run rfl rfl (by decide) (Ev.pickT rfl hb33 rfl) ?_
    refine Lst.run rfl rfl (by decide) (Ev.move rfl) ?_
    refine Lst.skip rfl rfl rfl rfl rfl (by decide) ?_
    refine Lst.skip rfl rfl rfl rfl rfl (by decide) ?_
    refine Lst.skip rfl rfl rfl rfl rfl (by decide) ?_
    refine Lst.skipU rfl rfl rfl rfl (by decide) ?_
    refine Lst.skip rfl rfl rfl rfl rfl (by decide) ?_
    refine Lst.skip rfl rfl rfl rfl rfl (by decide) ?_
    refine Lst.skipU rfl rfl rfl rfl (by decide) ?_
    refine Lst.skipU rfl rfl rfl rfl (by decide) ?_
    refine Lst.skipU rfl rfl rfl rfl (by decide) ?_
    refine Lst.skipU rfl rfl rfl rfl (by decide) ?_
    refine Lst.skipU rfl rfl rfl rfl (by decide) ?_
    refine Lst.skipU rfl rfl rfl rfl (by decide) ?_
    refine Lst.skipU rfl rfl rfl rfl (by decide) ?_
    refine Lst.skip rfl rfl rfl rfl rfl (by decide) ?_
    refine Lst.run rfl rfl (by decide) (Ev.pickT rfl rfl rfl) ?_
    refine Lst.nil ?_
    refine At.then ?_
    refine Cd.condT rfl rfl ?_
    refine Cd.seq ?_
    refine Cd.as (e' := []) (L' := (.blk b15 (enc x12) 135) :: (.blk b1 (enc (OverR.mk a0 s_a0_0 s_a0_1)) 124) :: L) trivial rfl ?_
    refine Cd.region ?_
    refine Lst.run rfl rfl (by decide) (Ev.assign rfl) ?_
    refine Lst.nil ?_
    refine At.then ?_
    have H := hret9 _ (some_inj H).symm
    subst H
    replace H := HKl9
    obtain rfl := some_inj H
    refine Cd.ret ?_
    refine At.in_ret ?_
    refine At.then_ret ?_
    refine At.then_ret ?_
    refine At.in_ret ?_
    refine At.then_ret ?_
    exact At.ret1 rfl (Res.tmp rfl) (FLe.trans (FLe.trans (FLe.trans (FLe.trans hF7 hF11) hF21) hF26) hF31) (List.Sublist.cons _ (List.Sublist.cons _ (List.Sublist.refl _))) ⟨rfl, rfl⟩
  replace H := ite_f hb33 H
  refine Lst.runG rfl rfl rfl hb33 rfl (by decide) (Ev.move rfl) ?_
  refine Lst.runG rfl rfl rfl hb33 rfl (by decide) (Ev.eql rfl rfl) ?_
  refine Lst.runG rfl rfl rfl hb33 rfl (by decide) (Ev.move rfl) ?_
  obtain ⟨o34, H, HKo34⟩ := bind_some H
  refine Lst.join (σ := Bool) 3 (fun y35 => [(1, .pointer (some ⟨b1, 0, none⟩)), (3, .int .i64 (a0.Hands.length : Int)), (4, .int .i64 (i9 : Int)), (5, .pointer (some ⟨b15, 0, none⟩)), (6, .bool (x12.Boss == (-1 : Int))), (17, Sl.v s_a0_0), (18, .int .i64 (a0.Hands.length : Int)), (19, .int .i64 (i9 : Int)), (50, .bool (x12.Boss == (i9 : Int))), (56, .bool y35)]) (fun y35 => (.blk b15 (enc x12) 135) :: (.blk b1 (enc (OverR.mk a0 s_a0_0 s_a0_1)) 124) :: L) (fun _ y35 => y35 = o34) ?_ ?_
  · rcases (Bool.eq_false_or_eq_true ((i9 : Int) == (0 : Int))).symm with hb36 | hb36
    · replace H := ite_f hb36 H
      refine Lst.skip rfl rfl rfl hb36 rfl (by decide) ?_
      refine Lst.skip rfl rfl rfl hb36 rfl (by decide) ?_
      refine Lst.runG rfl rfl rfl hb33 rfl (by decide) (Ev.pickF rfl hb36 rfl) ?_
      refine Lst.nil ?_
      exact At.meet false (FLe.refl _) ⟨rfl, rfl, rfl, rfl, rfl, rfl, rfl, rfl, rfl, rfl, trivial⟩ rfl (some_inj H)
    replace H := ite_t hb36 H
    refine Lst.runG rfl rfl rfl hb36 rfl (by decide) (Ev.move rfl) ?_
    refine Lst.runG rfl rfl rfl hb36 rfl (by decide) (Ev.not rfl) ?_
    refine Lst.runG rfl rfl rfl hb33 rfl (by decide) (Ev.pickT rfl hb36 rfl) ?_
    refine Lst.nil ?_
    exact At.meet (!(x12.Boss == (-1 : Int))) (FLe.refl _) ⟨rfl, rfl, rfl, rfl, rfl, rfl, rfl, rfl, rfl, rfl, trivial⟩ rfl (some_inj H)
  rintro F37 y35 hF38 hy
  subst hy
  refine Lst.as (e' := [(1, .pointer (some ⟨b1, 0, none⟩)), (3, .int .i64 (a0.Hands.length : Int)), (4, .int .i64 (i9 : Int)), (5, .pointer (some ⟨b15, 0, none⟩)), (6, .bool (x12.Boss == (-1 : Int))), (17, Sl.v s_a0_0), (18, .int .i64 (a0.Hands.length : Int)), (19, .int .i64 (i9 : Int)), (50, .bool (x12.Boss == (i9 : Int))), (56, .bool y35)]) (L' := (.blk b15 (enc x12) 135) :: (.blk b1 (enc (OverR.mk a0 s_a0_0 s_a0_1)) 124) :: L) ⟨rfl, rfl, rfl, rfl, rfl, rfl, rfl, rfl, rfl, rfl, trivial⟩ rfl ?_
  replace H := HKo34
  refine Lst.run rfl rfl (by decide) (Ev.pickF rfl hb33 rfl) ?_
  refine Lst.run rfl rfl (by decide) (Ev.move rfl) ?_
  rcases Bool.eq_false_or_eq_true y35 with hb39 | hb39
  · replace H := ite_t hb39 H
    refine Lst.skip rfl rfl rfl hb39 rfl (by decide) ?_
    refine Lst.skip rfl rfl rfl hb39 rfl (by decide) ?_
    refine Lst.skip rfl rfl rfl hb39 rfl (by decide) ?_
    refine Lst.skipU rfl rfl rfl rfl (by decide) ?_
    refine Lst.skip rfl rfl rfl hb39 rfl (by decide) ?_
    refine Lst.skip rfl rfl rfl hb39 rfl (by decide) ?_
    refine Lst.skipU rfl rfl rfl rfl (by decide) ?_
    refine Lst.skipU rfl rfl rfl rfl (by decide) ?_
    refine Lst.skipU rfl rfl rfl rfl (by decide) ?_
    refine Lst.skipU rfl rfl rfl rfl (by decide) ?_
    refine Lst.skipU rfl rfl rfl rfl (by decide) ?_
    refine Lst.skipU rfl rfl rfl rfl (by decide) ?_
    refine Lst.skipU rfl rfl rfl rfl (by decide) ?_
    refine Lst.skip rfl rfl rfl hb39 rfl (by decide) ?_
    refine Lst.run rfl rfl (by decide) (Ev.pickT rfl hb39 rfl) ?_
    refine Lst.nil ?_
    refine At.then ?_
    refine Cd.condT rfl rfl ?_
    refine Cd.seq ?_
    refine Cd.as (e' := []) (L' := (.blk b15 (enc x12) 135) :: (.blk b1 (enc (OverR.mk a0 s_a0_0 s_a0_1)) 124) :: L) trivial rfl ?_
    refine Cd.region ?_
    refine Lst.run rfl rfl (by decide) (Ev.assign rfl) ?_
    refine Lst.nil ?_
    refine At.then ?_
    have H := hret9 _ (some_inj H).symm
    subst H
    replace H := HKl9
    obtain rfl := some_inj H
    refine Cd.ret ?_
    refine At.in_ret ?_
    refine At.then_ret ?_
    refine At.then_ret ?_
    refine At.in_ret ?_
    refine At.then_ret ?_
    exact At.ret1 rfl (Res.tmp rfl) (FLe.trans (FLe.trans (FLe.trans (FLe.trans (FLe.trans hF7 hF11) hF21) hF26) hF31) hF38) (List.Sublist.cons _ (List.Sublist.cons _ (List.Sublist.refl _))) ⟨rfl, rfl⟩
  replace H := ite_f hb39 H
  refine Lst.runG rfl rfl rfl hb39 rfl (by decide) (Ev.move rfl) ?_
  refine Lst.runG rfl rfl rfl hb39 rfl (by decide) (Ev.neq rfl rfl) ?_
  refine Lst.runG rfl rfl rfl hb39 rfl (by decide) (Ev.move rfl) ?_
  obtain ⟨o40, H, HKo40⟩ := bind_some H
  refine Lst.join (σ := Bool) 2 (fun y41 => [(1, .pointer (some ⟨b1, 0, none⟩)), (3, .int .i64 (a0.Hands.length : Int)), (5, .pointer (some ⟨b15, 0, none⟩)), (17, Sl.v s_a0_0), (18, .int .i64 (a0.Hands.length : Int)), (19, .int .i64 (i9 : Int)), (58, .bool y35), (63, .bool y41)]) (fun y41 => (.blk b15 (enc x12) 135) :: (.blk b1 (enc (OverR.mk a0 s_a0_0 s_a0_1)) 124) :: L) (fun _ y41 => y41 = o40) ?_ ?_
  · rcases (Bool.eq_false_or_eq_true ((i9 : Int) != (0 : Int))).symm with hb42 | hb42
    · replace H := ite_f hb42 H
      refine Lst.skip rfl rfl rfl hb42 rfl (by decide) ?_
      refine Lst.runG rfl rfl rfl hb39 rfl (by decide) (Ev.pickF rfl hb42 rfl) ?_
      refine Lst.nil ?_
      exact At.meet false (FLe.refl _) ⟨rfl, rfl, rfl, rfl, rfl, rfl, rfl, rfl, trivial⟩ rfl (some_inj H)
    replace H := ite_t hb42 H
    refine Lst.runG rfl rfl rfl hb42 rfl (by decide) (Ev.move rfl) ?_
    refine Lst.runG rfl rfl rfl hb39 rfl (by decide) (Ev.pickT rfl hb42 rfl) ?_
    refine Lst.nil ?_
    exact At.meet (x12.Boss == (-1 : Int)) (FLe.refl _) ⟨rfl, rfl, rfl, rfl, rfl, rfl, rfl, rfl, trivial⟩ rfl (some_inj H)
  rintro F43 y41 hF44 hy
  subst hy
  refine Lst.as (e' := [(1, .pointer (some ⟨b1, 0, none⟩)), (3, .int .i64 (a0.Hands.length : Int)), (5, .pointer (some ⟨b15, 0, none⟩)), (17, Sl.v s_a0_0), (18, .int .i64 (a0.Hands.length : Int)), (19, .int .i64 (i9 : Int)), (58, .bool y35), (63, .bool y41)]) (L' := (.blk b15 (enc x12) 135) :: (.blk b1 (enc (OverR.mk a0 s_a0_0 s_a0_1)) 124) :: L) ⟨rfl, rfl, rfl, rfl, rfl, rfl, rfl, rfl, trivial⟩ rfl ?_
  replace H := HKo40
  refine Lst.runG rfl rfl rfl hb39 rfl (by decide) (Ev.move rfl) ?_
  rcases (Bool.eq_false_or_eq_true y41).symm with hb45 | hb45
  · replace H := ite_f hb45 H
    refine Lst.skip rfl rfl rfl hb45 rfl (by decide) ?_
    refine Lst.skip rfl rfl rfl hb45 rfl (by decide) ?_
    refine Lst.skip rfl rfl rfl hb45 rfl (by decide) ?_
    refine Lst.skipU rfl rfl rfl rfl (by decide) ?_
    refine Lst.skipU rfl rfl rfl rfl (by decide) ?_
    refine Lst.skipU rfl rfl rfl rfl (by decide) ?_
    refine Lst.skip rfl rfl rfl hb45 rfl (by decide) ?_
    refine Lst.runG rfl rfl rfl hb39 rfl (by decide) (Ev.pickF rfl hb45 rfl) ?_
    refine Lst.run rfl rfl (by decide) (Ev.pickF rfl hb39 rfl) ?_
    refine Lst.nil ?_
    refine At.then ?_
    refine Cd.condF rfl rfl ?_
    refine Cd.skip ?_
    refine At.in_normal ?_
    refine At.then ?_
    refine Cd.region ?_
    refine Lst.run rfl rfl (by decide) (Ev.incr (by omega) rfl rfl) ?_
    refine Lst.run rfl rfl (by decide) (Ev.move rfl) ?_
    refine Lst.nil ?_
    refine At.less (L' := (.blk b1 (enc (OverR.mk a0 s_a0_0 s_a0_1)) 124) :: L) (List.Sublist.cons _ (List.Sublist.cons_cons _ (List.Sublist.refl _))) ?_
    exact At.meet (i9 + 1, k9, ()) (FLe.trans (FLe.trans (FLe.trans (FLe.trans (FLe.trans hF11 hF21) hF26) hF31) hF38) hF44) ⟨rfl, rfl, rfl, rfl, rfl, trivial⟩ rfl ⟨⟨hgo9 _ (some_inj H).symm, by omega⟩, Nat.lt_succ_self _⟩
  replace H := ite_t hb45 H
  refine Lst.runG rfl rfl rfl hb45 rfl (by decide) (Ev.fieldAddr (off' := 0) rfl Try.runUnderlying135 rfl Try.sizeOf4 rfl rfl) ?_
  refine Lst.runG rfl rfl rfl hb45 rfl (by decide) (Ev.load (i := 0) rfl rfl Try.isAgg4 (v := .bool x12.Busy) ((Hand.get_Busy (Get.here _)).off (by rfl))) ?_
  refine Lst.runG rfl rfl rfl hb45 rfl (by decide) (Ev.move rfl) ?_
  obtain ⟨o46, H, HKo46⟩ := bind_some H
  refine Lst.join (σ := Bool) 4 (fun y47 => [(1, .pointer (some ⟨b1, 0, none⟩)), (3, .int .i64 (a0.Hands.length : Int)), (17, Sl.v s_a0_0), (18, .int .i64 (a0.Hands.length : Int)), (19, .int .i64 (i9 : Int)), (58, .bool y35), (64, .bool y41), (71, .bool y47)]) (fun y47 => (.blk b15 (enc x12) 135) :: (.blk b1 (enc (OverR.mk a0 s_a0_0 s_a0_1)) 124) :: L) (fun _ y47 => y47 = o46) ?_ ?_
  · rcases Bool.eq_false_or_eq_true x12.Busy with hb48 | hb48
    · replace H := ite_t hb48 H
      refine Lst.skip rfl rfl rfl hb48 rfl (by decide) ?_
      refine Lst.skip rfl rfl rfl hb48 rfl (by decide) ?_
      refine Lst.skip rfl rfl rfl hb48 rfl (by decide) ?_
      refine Lst.runG rfl rfl rfl hb45 rfl (by decide) (Ev.pickT rfl hb48 rfl) ?_
      refine Lst.nil ?_
      exact At.meet true (FLe.refl _) ⟨rfl, rfl, rfl, rfl, rfl, rfl, rfl, rfl, trivial⟩ rfl (some_inj H)
    replace H := ite_f hb48 H
    refine Lst.runG rfl rfl rfl hb48 rfl (by decide) (Ev.fieldAddr (off' := 2) rfl Try.runUnderlying135 rfl Try.sizeOf3 rfl rfl) ?_
    refine Lst.runG rfl rfl rfl hb48 rfl (by decide) (Ev.load (i := 0) rfl rfl Try.isAgg3 (v := .int .i64 x12.Owed) ((Hand.get_Owed (Get.here _)).off (by rfl))) ?_
    refine Lst.runG rfl rfl rfl hb48 rfl (by decide) (Ev.neq rfl rfl) ?_
    refine Lst.runG rfl rfl rfl hb45 rfl (by decide) (Ev.pickF rfl hb48 rfl) ?_
    refine Lst.nil ?_
    exact At.meet (x12.Owed != (0 : Int)) (FLe.refl _) ⟨rfl, rfl, rfl, rfl, rfl, rfl, rfl, rfl, trivial⟩ rfl (some_inj H)
  rintro F49 y47 hF50 hy
  subst hy
  refine Lst.as (e' := [(1, .pointer (some ⟨b1, 0, none⟩)), (3, .int .i64 (a0.Hands.length : Int)), (17, Sl.v s_a0_0), (18, .int .i64 (a0.Hands.length : Int)), (19, .int .i64 (i9 : Int)), (58, .bool y35), (64, .bool y41), (71, .bool y47)]) (L' := (.blk b15 (enc x12) 135) :: (.blk b1 (enc (OverR.mk a0 s_a0_0 s_a0_1)) 124) :: L) ⟨rfl, rfl, rfl, rfl, rfl, rfl, rfl, rfl, trivial⟩ rfl ?_
  replace H := HKo46
  refine Lst.runG rfl rfl rfl hb39 rfl (by decide) (Ev.pickT rfl hb45 rfl) ?_
  refine Lst.run rfl rfl (by decide) (Ev.pickF rfl hb39 rfl) ?_
  refine Lst.nil ?_
  refine At.then ?_
  rcases Bool.eq_false_or_eq_true y47 with hb51 | hb51
  · replace H := ite_t hb51 H
    refine Cd.condT rfl hb51 ?_
    refine Cd.seq ?_
    refine Cd.region ?_
    refine Lst.run rfl rfl (by decide) (Ev.assign rfl) ?_
    refine Lst.nil ?_
    refine At.then ?_
    have H := hret9 _ (some_inj H).symm
    subst H
    replace H := HKl9
    obtain rfl := some_inj H
    refine Cd.ret ?_
    refine At.in_ret ?_
    refine At.then_ret ?_
    refine At.then_ret ?_
    refine At.in_ret ?_
    refine At.then_ret ?_
    exact At.ret1 rfl (Res.tmp rfl) (FLe.trans (FLe.trans (FLe.trans (FLe.trans (FLe.trans (FLe.trans (FLe.trans hF7 hF11) hF21) hF26) hF31) hF38) hF44) hF50) (List.Sublist.cons _ (List.Sublist.cons _ (List.Sublist.refl _))) ⟨rfl, rfl⟩
  replace H := ite_f hb51 H
  refine Cd.condF rfl hb51 ?_
  refine Cd.skip ?_
  refine At.in_normal ?_
  refine At.then ?_
  refine Cd.region ?_
  refine Lst.run rfl rfl (by decide) (Ev.incr (by omega) rfl rfl) ?_
  refine Lst.run rfl rfl (by decide) (Ev.move rfl) ?_
  refine Lst.nil ?_
  refine At.less (L' := (.blk b1 (enc (OverR.mk a0 s_a0_0 s_a0_1)) 124) :: L) (List.Sublist.cons _ (List.Sublist.cons_cons _ (List.Sublist.refl _))) ?_
  exact At.meet (i9 + 1, k9, ()) (FLe.trans (FLe.trans (FLe.trans (FLe.trans (FLe.trans (FLe.trans hF11 hF21) hF26) hF31) hF38) hF44) hF50) ⟨rfl, rfl, rfl, rfl, rfl, trivial⟩ rfl ⟨⟨hgo9 _ (some_inj H).symm, by omega⟩, Nat.lt_succ_self _⟩
set_option maxRecDepth 20000 in
theorem over_in_sim {a0 : Int} {a1 : Int} {a2 : Int} {r : Bool} (H : over_in a0 a1 a2 = some r) (w0 : World) (F : Frz) (M L : List Item) (hM : M.Sublist L) : Ok Try.prog w0 165 [.int .i64 a0, .int .i64 a1, .int .i64 a2] F (L) (Is (.bool r) (L)) := by
  unfold over_in at H
  refine Ok.enter (m := 3) (n := 15) Try.func165 rfl rfl rfl (by decide) ?_
  refine Cd.env (e' := [(0, .int .i64 a0), (1, .int .i64 a1), (2, .int .i64 a2)]) rfl ?_
  refine Cd.seq ?_
  refine Cd.region ?_
  refine Lst.run rfl rfl (by decide) (Ev.assign rfl) ?_
  refine Lst.nil ?_
  refine At.then ?_
  refine Cd.seq ?_
  refine Cd.region ?_
  refine Lst.run rfl rfl (by decide) (Ev.move rfl) ?_
  refine Lst.run rfl rfl (by decide) (Ev.move rfl) ?_
  refine Lst.run rfl rfl (by decide) (Ev.geq rfl rfl) ?_
  refine Lst.run rfl rfl (by decide) (Ev.move rfl) ?_
  obtain ⟨o1, H, HKo1⟩ := bind_some H
  refine Lst.join (σ := Bool) 4 (fun y2 => [(14, .bool y2)]) (fun y2 => L) (fun _ y2 => y2 = o1) ?_ ?_
  · rcases (Bool.eq_false_or_eq_true (decide (a0 ≥ a1))).symm with hb3 | hb3
    · replace H := ite_f hb3 H
      refine Lst.skip rfl rfl rfl hb3 rfl (by decide) ?_
      refine Lst.skip rfl rfl rfl hb3 rfl (by decide) ?_
      refine Lst.skip rfl rfl rfl hb3 rfl (by decide) ?_
      refine Lst.run rfl rfl (by decide) (Ev.pickF rfl hb3 rfl) ?_
      refine Lst.nil ?_
      exact At.meet false (FLe.refl _) ⟨rfl, trivial⟩ rfl (some_inj H)
    replace H := ite_t hb3 H
    refine Lst.runG rfl rfl rfl hb3 rfl (by decide) (Ev.move rfl) ?_
    refine Lst.runG rfl rfl rfl hb3 rfl (by decide) (Ev.move rfl) ?_
    refine Lst.runG rfl rfl rfl hb3 rfl (by decide) (Ev.leq rfl rfl) ?_
    refine Lst.run rfl rfl (by decide) (Ev.pickT rfl hb3 rfl) ?_
    refine Lst.nil ?_
    exact At.meet (decide (a0 ≤ a2)) (FLe.refl _) ⟨rfl, trivial⟩ rfl (some_inj H)
  rintro F4 y2 hF5 hy
  subst hy
  refine Lst.as (e' := [(14, .bool y2)]) (L' := L) ⟨rfl, trivial⟩ rfl ?_
  replace H := HKo1
  refine Lst.run rfl rfl (by decide) (Ev.assign rfl) ?_
  refine Lst.nil ?_
  refine At.then ?_
  obtain rfl := some_inj H
  refine Cd.ret ?_
  exact At.ret1 rfl (Res.tmp rfl) hF5 (List.Sublist.refl _) ⟨rfl, rfl⟩
set_option maxRecDepth 20000 in
theorem math_bits_Mul64_sim {a0 : BitVec 64} {a1 : BitVec 64} {r : (BitVec 64) × (BitVec 64)} (H : math_bits_Mul64 a0 a1 = some r) (w0 : World) (F : Frz) (M L : List Item) (hM : M.Sublist L) : Ok Try.prog w0 188 [.int .u64 a0.toNat, .int .u64 a1.toNat] F (L) (Is (.tuple #[.int .u64 r.1.toNat, .int .u64 r.2.toNat]) (L)) := by
  unfold math_bits_Mul64 at H
  refine Ok.enter (m := 2) (n := 51) Try.func188 rfl rfl rfl (by decide) ?_
  refine Cd.env (e' := [(0, .int .u64 a0.toNat), (1, .int .u64 a1.toNat)]) rfl ?_
  refine Cd.seq ?_
  refine Cd.region ?_
  refine Lst.run rfl rfl (by decide) (Ev.assign rfl) ?_
  refine Lst.run rfl rfl (by decide) (Ev.assign rfl) ?_
  refine Lst.nil ?_
  refine At.then ?_
  refine Cd.seq ?_
  refine Cd.region ?_
  refine Lst.run rfl rfl (by decide) (Ev.move rfl) ?_
  refine Lst.run rfl rfl (by decide) (Ev.andU64 (i := a0) (j := (4294967295 : BitVec 64)) rfl rfl) ?_
  refine Lst.run rfl rfl (by decide) (Ev.assign rfl) ?_
  refine Lst.nil ?_
  refine At.then ?_
  refine Cd.seq ?_
  refine Cd.region ?_
  refine Lst.run rfl rfl (by decide) (Ev.move rfl) ?_
  refine Lst.run rfl rfl (by decide) (Ev.shrU64 (i := a0) (m := 32) rfl rfl) ?_
  refine Lst.run rfl rfl (by decide) (Ev.assign rfl) ?_
  refine Lst.nil ?_
  refine At.then ?_
  refine Cd.seq ?_
  refine Cd.region ?_
  refine Lst.run rfl rfl (by decide) (Ev.move rfl) ?_
  refine Lst.run rfl rfl (by decide) (Ev.andU64 (i := a1) (j := (4294967295 : BitVec 64)) rfl rfl) ?_
  refine Lst.run rfl rfl (by decide) (Ev.assign rfl) ?_
  refine Lst.nil ?_
  refine At.then ?_
  refine Cd.seq ?_
  refine Cd.region ?_
  refine Lst.run rfl rfl (by decide) (Ev.move rfl) ?_
  refine Lst.run rfl rfl (by decide) (Ev.shrU64 (i := a1) (m := 32) rfl rfl) ?_
  refine Lst.run rfl rfl (by decide) (Ev.assign rfl) ?_
  refine Lst.nil ?_
  refine At.then ?_
  refine Cd.seq ?_
  refine Cd.region ?_
  refine Lst.run rfl rfl (by decide) (Ev.move rfl) ?_
  refine Lst.run rfl rfl (by decide) (Ev.move rfl) ?_
  refine Lst.run rfl rfl (by decide) (Ev.mulU64 (i := a0 &&& (4294967295 : BitVec 64)) (j := a1 &&& (4294967295 : BitVec 64)) rfl rfl) ?_
  refine Lst.run rfl rfl (by decide) (Ev.assign rfl) ?_
  refine Lst.nil ?_
  refine At.then ?_
  refine Cd.seq ?_
  refine Cd.region ?_
  refine Lst.run rfl rfl (by decide) (Ev.move rfl) ?_
  refine Lst.run rfl rfl (by decide) (Ev.move rfl) ?_
  refine Lst.run rfl rfl (by decide) (Ev.mulU64 (i := a0 >>> 32) (j := a1 &&& (4294967295 : BitVec 64)) rfl rfl) ?_
  refine Lst.run rfl rfl (by decide) (Ev.move rfl) ?_
  refine Lst.run rfl rfl (by decide) (Ev.shrU64 (i := (a0 &&& (4294967295 : BitVec 64)) * (a1 &&& (4294967295 : BitVec 64))) (m := 32) rfl rfl) ?_
  refine Lst.run rfl rfl (by decide) (Ev.addU64 (i := (a0 >>> 32) * (a1 &&& (4294967295 : BitVec 64))) (j := ((a0 &&& (4294967295 : BitVec 64)) * (a1 &&& (4294967295 : BitVec 64))) >>> 32) rfl rfl) ?_
  refine Lst.run rfl rfl (by decide) (Ev.assign rfl) ?_
  refine Lst.nil ?_
  refine At.then ?_
  refine Cd.seq ?_
  refine Cd.as (e' := [(0, .int .u64 a0.toNat), (1, .int .u64 a1.toNat), (6, .int .u64 (a0 &&& (4294967295 : BitVec 64)).toNat), (7, .int .u64 (a0 >>> 32).toNat), (9, .int .u64 (a1 >>> 32).toNat), (11, .int .u64 (((a0 >>> 32) * (a1 &&& (4294967295 : BitVec 64))) + (((a0 &&& (4294967295 : BitVec 64)) * (a1 &&& (4294967295 : BitVec 64))) >>> 32)).toNat)]) (L' := L) ⟨rfl, rfl, rfl, rfl, rfl, rfl, trivial⟩ rfl ?_
  refine Cd.region ?_
  refine Lst.run rfl rfl (by decide) (Ev.move rfl) ?_
  refine Lst.run rfl rfl (by decide) (Ev.andU64 (i := ((a0 >>> 32) * (a1 &&& (4294967295 : BitVec 64))) + (((a0 &&& (4294967295 : BitVec 64)) * (a1 &&& (4294967295 : BitVec 64))) >>> 32)) (j := (4294967295 : BitVec 64)) rfl rfl) ?_
  refine Lst.run rfl rfl (by decide) (Ev.assign rfl) ?_
  refine Lst.nil ?_
  refine At.then ?_
  refine Cd.seq ?_
  refine Cd.region ?_
  refine Lst.run rfl rfl (by decide) (Ev.move rfl) ?_
  refine Lst.run rfl rfl (by decide) (Ev.shrU64 (i := ((a0 >>> 32) * (a1 &&& (4294967295 : BitVec 64))) + (((a0 &&& (4294967295 : BitVec 64)) * (a1 &&& (4294967295 : BitVec 64))) >>> 32)) (m := 32) rfl rfl) ?_
  refine Lst.run rfl rfl (by decide) (Ev.assign rfl) ?_
  refine Lst.nil ?_
  refine At.then ?_
  refine Cd.seq ?_
  refine Cd.region ?_
  refine Lst.run rfl rfl (by decide) (Ev.move rfl) ?_
  refine Lst.run rfl rfl (by decide) (Ev.move rfl) ?_
  refine Lst.run rfl rfl (by decide) (Ev.move rfl) ?_
  refine Lst.run rfl rfl (by decide) (Ev.mulU64 (i := a0 &&& (4294967295 : BitVec 64)) (j := a1 >>> 32) rfl rfl) ?_
  refine Lst.run rfl rfl (by decide) (Ev.addU64 (i := (((a0 >>> 32) * (a1 &&& (4294967295 : BitVec 64))) + (((a0 &&& (4294967295 : BitVec 64)) * (a1 &&& (4294967295 : BitVec 64))) >>> 32)) &&& (4294967295 : BitVec 64)) (j := (a0 &&& (4294967295 : BitVec 64)) * (a1 >>> 32)) rfl rfl) ?_
  refine Lst.run rfl rfl (by decide) (Ev.assign rfl) ?_
  refine Lst.nil ?_
  refine At.then ?_
  refine Cd.seq ?_
  refine Cd.region ?_
  refine Lst.run rfl rfl (by decide) (Ev.move rfl) ?_
  refine Lst.run rfl rfl (by decide) (Ev.move rfl) ?_
  refine Lst.run rfl rfl (by decide) (Ev.mulU64 (i := a0 >>> 32) (j := a1 >>> 32) rfl rfl) ?_
  refine Lst.run rfl rfl (by decide) (Ev.move rfl) ?_
  refine Lst.run rfl rfl (by decide) (Ev.addU64 (i := (a0 >>> 32) * (a1 >>> 32)) (j := (((a0 >>> 32) * (a1 &&& (4294967295 : BitVec 64))) + (((a0 &&& (4294967295 : BitVec 64)) * (a1 &&& (4294967295 : BitVec 64))) >>> 32)) >>> 32) rfl rfl) ?_
  refine Lst.run rfl rfl (by decide) (Ev.move rfl) ?_
  refine Lst.run rfl rfl (by decide) (Ev.shrU64 (i := ((((a0 >>> 32) * (a1 &&& (4294967295 : BitVec 64))) + (((a0 &&& (4294967295 : BitVec 64)) * (a1 &&& (4294967295 : BitVec 64))) >>> 32)) &&& (4294967295 : BitVec 64)) + ((a0 &&& (4294967295 : BitVec 64)) * (a1 >>> 32))) (m := 32) rfl rfl) ?_
  refine Lst.run rfl rfl (by decide) (Ev.addU64 (i := ((a0 >>> 32) * (a1 >>> 32)) + ((((a0 >>> 32) * (a1 &&& (4294967295 : BitVec 64))) + (((a0 &&& (4294967295 : BitVec 64)) * (a1 &&& (4294967295 : BitVec 64))) >>> 32)) >>> 32)) (j := (((((a0 >>> 32) * (a1 &&& (4294967295 : BitVec 64))) + (((a0 &&& (4294967295 : BitVec 64)) * (a1 &&& (4294967295 : BitVec 64))) >>> 32)) &&& (4294967295 : BitVec 64)) + ((a0 &&& (4294967295 : BitVec 64)) * (a1 >>> 32))) >>> 32) rfl rfl) ?_
  refine Lst.run rfl rfl (by decide) (Ev.assign rfl) ?_
  refine Lst.nil ?_
  refine At.then ?_
  refine Cd.seq ?_
  refine Cd.as (e' := [(0, .int .u64 a0.toNat), (1, .int .u64 a1.toNat), (4, .int .u64 ((((a0 >>> 32) * (a1 >>> 32)) + ((((a0 >>> 32) * (a1 &&& (4294967295 : BitVec 64))) + (((a0 &&& (4294967295 : BitVec 64)) * (a1 &&& (4294967295 : BitVec 64))) >>> 32)) >>> 32)) + ((((((a0 >>> 32) * (a1 &&& (4294967295 : BitVec 64))) + (((a0 &&& (4294967295 : BitVec 64)) * (a1 &&& (4294967295 : BitVec 64))) >>> 32)) &&& (4294967295 : BitVec 64)) + ((a0 &&& (4294967295 : BitVec 64)) * (a1 >>> 32))) >>> 32)).toNat)]) (L' := L) ⟨rfl, rfl, rfl, trivial⟩ rfl ?_
  refine Cd.region ?_
  refine Lst.run rfl rfl (by decide) (Ev.move rfl) ?_
  refine Lst.run rfl rfl (by decide) (Ev.move rfl) ?_
  refine Lst.run rfl rfl (by decide) (Ev.mulU64 (i := a0) (j := a1) rfl rfl) ?_
  refine Lst.run rfl rfl (by decide) (Ev.assign rfl) ?_
  refine Lst.nil ?_
  refine At.then ?_
  obtain rfl := some_inj H
  refine Cd.ret ?_
  exact At.ret2 rfl (Res.tmp rfl) (Res.tmp rfl) (FLe.refl _) (List.Sublist.refl _) ⟨rfl, rfl⟩
set_option maxRecDepth 20000 in
theorem math_bits_Mul_sim {a0 : BitVec 64} {a1 : BitVec 64} {r : (BitVec 64) × (BitVec 64)} (H : math_bits_Mul a0 a1 = some r) (w0 : World) (F : Frz) (M L : List Item) (hM : M.Sublist L) : Ok Try.prog w0 169 [.int .u64 a0.toNat, .int .u64 a1.toNat] F (L) (Is (.tuple #[.int .u64 r.1.toNat, .int .u64 r.2.toNat]) (L)) := by
  unfold math_bits_Mul at H
  refine Ok.enter (m := 2) (n := 30) Try.func169 rfl rfl rfl (by decide) ?_
  refine Cd.env (e' := [(0, .int .u64 a0.toNat), (1, .int .u64 a1.toNat)]) rfl ?_
  refine Cd.seq ?_
  refine Cd.region ?_
  refine Lst.run rfl rfl (by decide) (Ev.assign rfl) ?_
  refine Lst.run rfl rfl (by decide) (Ev.assign rfl) ?_
  refine Lst.nil ?_
  refine At.then ?_
  refine Cd.seq ?_
  refine Cd.condF rfl rfl ?_
  refine Cd.skip ?_
  refine At.then ?_
  refine Cd.seq ?_
  refine Cd.region ?_
  refine Lst.run rfl rfl (by decide) (Ev.move rfl) ?_
  refine Lst.run rfl rfl (by decide) (Ev.move rfl) ?_
  obtain ⟨r1, h2, H⟩ := bind_some H
  refine Lst.call1 rfl rfl (by decide) (vs := [.int .u64 a0.toNat, .int .u64 a1.toNat]) ⟨rfl, rfl, trivial⟩ Try.call188 (math_bits_Mul64_sim h2 w0 _ M _ hM) ?_
  refine Lst.run rfl rfl (by decide) (Ev.move rfl) ?_
  refine Lst.run rfl rfl (by decide) (Ev.extract rfl rfl) ?_
  refine Lst.run rfl rfl (by decide) (Ev.extract rfl rfl) ?_
  refine Lst.run rfl rfl (by decide) (Ev.assign rfl) ?_
  refine Lst.run rfl rfl (by decide) (Ev.assign rfl) ?_
  refine Lst.nil ?_
  refine At.then ?_
  refine Cd.seq ?_
  refine Cd.region ?_
  refine Lst.run rfl rfl (by decide) (Ev.move rfl) ?_
  refine Lst.run rfl rfl (by decide) (Ev.move rfl) ?_
  refine Lst.run rfl rfl (by decide) (Ev.assign rfl) ?_
  refine Lst.run rfl rfl (by decide) (Ev.assign rfl) ?_
  refine Lst.nil ?_
  refine At.then ?_
  obtain rfl := some_inj H
  refine Cd.ret ?_
  exact At.ret2 rfl (Res.tmp rfl) (Res.tmp rfl) (FLe.refl _) (List.Sublist.refl _) ⟨rfl, rfl⟩
set_option maxRecDepth 20000 in
theorem slices_Repeat_api_Hand_api_Hand_sim {fu : Nat} {a0 : List Hand} {a1 : Int} {s_a0 : Sl} {r : (List Hand)} (H : slices_Repeat_api_Hand_api_Hand fu a0 a1 = some r) (w0 : World) (F : Frz) (M L : List Item) (hM : M.Sublist L) (hs_a0 : Rd w0 F M s_a0 a0) : Ok Try.prog w0 80 [Sl.v s_a0, .int .i64 a1] F (L) (fun _ L' v => ∃ (s52 : Sl), v = Sl.v s52 ∧ L' = (.own s52 135 3 (encs r)) :: L) := by
  unfold slices_Repeat_api_Hand_api_Hand at H
  refine Ok.enter (m := 2) (n := 48) Try.func80 rfl rfl rfl (by decide) ?_
  refine Cd.env (e' := [(0, Sl.v s_a0), (1, .int .i64 a1)]) rfl ?_
  refine Cd.seq ?_
  refine Cd.region ?_
  refine Lst.addNil 135 3 ?_
  refine Lst.run rfl rfl (by decide) (Ev.assign rfl) ?_
  refine Lst.nil ?_
  refine At.then ?_
  refine Cd.seq ?_
  refine Cd.seq ?_
  refine Cd.region ?_
  refine Lst.run rfl rfl (by decide) (Ev.move rfl) ?_
  refine Lst.run rfl rfl (by decide) (Ev.lss rfl rfl) ?_
  refine Lst.nil ?_
  refine At.then ?_
  rcases Bool.eq_false_or_eq_true (decide (a1 < (0 : Int))) with hb2 | hb2
  · replace H := ite_t hb2 H
    cases H
  replace H := ite_f hb2 H
  refine Cd.condF rfl hb2 ?_
  refine Cd.skip ?_
  refine At.then ?_
  refine Cd.seq ?_
  refine Cd.region ?_
  refine Lst.run rfl rfl (by decide) (Ev.move rfl) ?_
  refine Lst.run rfl rfl (by decide) (Ev.lenS (α := Hand) (xs := a0) (by decide) rfl rfl Try.runUnderlying122 (hs_a0.mono (FLe.refl _) (List.Sublist.cons _ hM))) ?_
  refine Lst.run rfl rfl (by decide) (Ev.convTo64 rfl Try.runUnderlying3 Try.runUnderlying142) ?_
  refine Lst.run rfl rfl (by decide) (Ev.move rfl) ?_
  refine Lst.run rfl rfl (by decide) (Ev.convTo64 rfl Try.runUnderlying3 Try.runUnderlying142) ?_
  obtain ⟨r3, h4, H⟩ := bind_some H
  refine Lst.call1 rfl rfl (by decide) (vs := [.int .u64 (BitVec.ofInt 64 (a0.length : Int)).toNat, .int .u64 (BitVec.ofInt 64 a1).toNat]) ⟨rfl, rfl, trivial⟩ Try.call169 (math_bits_Mul_sim h4 w0 _ M _ (List.Sublist.cons _ hM)) ?_
  refine Lst.run rfl rfl (by decide) (Ev.move rfl) ?_
  refine Lst.run rfl rfl (by decide) (Ev.extract rfl rfl) ?_
  refine Lst.run rfl rfl (by decide) (Ev.extract rfl rfl) ?_
  refine Lst.run rfl rfl (by decide) (Ev.assign rfl) ?_
  refine Lst.run rfl rfl (by decide) (Ev.assign rfl) ?_
  refine Lst.nil ?_
  refine At.then ?_
  refine Cd.seq ?_
  refine Cd.seq ?_
  refine Cd.region ?_
  refine Lst.run rfl rfl (by decide) (Ev.move rfl) ?_
  refine Lst.run rfl rfl (by decide) (Ev.gtr rfl rfl) ?_
  refine Lst.run rfl rfl (by decide) (Ev.move rfl) ?_
  obtain ⟨o7, H, HKo7⟩ := bind_some H
  refine Lst.join (σ := Bool) 3 (fun y8 => [(0, Sl.v s_a0), (6, .int .u64 r3.2.toNat), (26, .bool y8)]) (fun y8 => (.own Sl.nil 135 3 (encs ([] : List Hand))) :: L) (fun _ y8 => y8 = o7) ?_ ?_
  · rcases Bool.eq_false_or_eq_true (decide ((r3.1.toNat : Int) > ((0 : BitVec 64).toNat : Int))) with hb9 | hb9
    · replace H := ite_t hb9 H
      refine Lst.skip rfl rfl rfl hb9 rfl (by decide) ?_
      refine Lst.skip rfl rfl rfl hb9 rfl (by decide) ?_
      refine Lst.run rfl rfl (by decide) (Ev.pickT rfl hb9 rfl) ?_
      refine Lst.nil ?_
      exact At.meet true (FLe.refl _) ⟨rfl, rfl, rfl, trivial⟩ rfl (some_inj H)
    replace H := ite_f hb9 H
    refine Lst.runG rfl rfl rfl hb9 rfl (by decide) (Ev.move rfl) ?_
    refine Lst.runG rfl rfl rfl hb9 rfl (by decide) (Ev.gtr rfl rfl) ?_
    refine Lst.run rfl rfl (by decide) (Ev.pickF rfl hb9 rfl) ?_
    refine Lst.nil ?_
    exact At.meet (decide ((r3.2.toNat : Int) > ((9223372036854775807 : BitVec 64).toNat : Int))) (FLe.refl _) ⟨rfl, rfl, rfl, trivial⟩ rfl (some_inj H)
  rintro F10 y8 hF11 hy
  subst hy
  refine Lst.as (e' := [(0, Sl.v s_a0), (6, .int .u64 r3.2.toNat), (26, .bool y8)]) (L' := (.own Sl.nil 135 3 (encs ([] : List Hand))) :: L) ⟨rfl, rfl, rfl, trivial⟩ rfl ?_
  replace H := HKo7
  refine Lst.nil ?_
  refine At.then ?_
  rcases Bool.eq_false_or_eq_true y8 with hb12 | hb12
  · replace H := ite_t hb12 H
    cases H
  replace H := ite_f hb12 H
  refine Cd.condF rfl hb12 ?_
  refine Cd.skip ?_
  refine At.then ?_
  refine Cd.seq ?_
  refine Cd.region ?_
  refine Lst.run rfl rfl (by decide) (Ev.move rfl) ?_
  refine Lst.run rfl rfl (by decide) (Ev.conv64 rfl Try.runUnderlying142 Try.runUnderlying3) ?_
  obtain ⟨n13, h14, H⟩ := bind_some H
  have g15 := mkLen_some h14
  refine Lst.make (α := Hand) (z0 := Hand.zero) (k := n13) rfl rfl (by decide) (congrArg some (congrArg (Value.int .i64) g15.1)) (congrArg some (congrArg (Value.int .i64) g15.1)) Try.runUnderlying122 Try.typeInfo135 rfl rfl rfl rfl rfl g15.2 rfl (fun s16 => ?_)
  refine Lst.run rfl rfl (by decide) (Ev.assign rfl) ?_
  refine Lst.nil ?_
  refine At.then ?_
  refine Cd.seq ?_
  refine Cd.region ?_
  refine Lst.run rfl rfl (by decide) (Ev.move rfl) ?_
  refine Lst.run rfl rfl (by decide) (Ev.move rfl) ?_
  obtain ⟨p18, h19, H⟩ := Let_some H
  refine Lst.copyAll (i := 0) (α := Hand) (xs := (List.replicate n13 Hand.zero)) (ys := a0) rfl rfl (by decide) rfl rfl Try.runUnderlying122 Try.sizeOf135 rfl (by decide) rfl rfl (hs_a0.mono hF11 (List.Sublist.cons _ (List.Sublist.cons _ hM))) ?_
  refine Lst.its (L' := (.own s16 135 3 (encs p18)) :: (.own Sl.nil 135 3 (encs ([] : List Hand))) :: L) (by rw [← h19]; rfl) ?_
  refine Lst.run rfl rfl (by decide) (Ev.assign rfl) ?_
  refine Lst.nil ?_
  refine At.then ?_
  refine Cd.seq ?_
  refine Cd.block ?_
  obtain ⟨ol20, H, HKl20⟩ := andThen_some H
  refine Cd.loop (σ := Nat × Int × Sl × (List Hand)) (fun (k20, y21, s22, l23) => [(7, Sl.v s22), (8, .int .i64 y21)]) (fun (k20, y21, s22, l23) => (.own s22 135 3 (encs l23)) :: (.own Sl.nil 135 3 (encs ([] : List Hand))) :: L) (fun _ => (fun (k20, y21, s22, l23) => whileM (slices_Repeat_api_Hand_api_Hand_B0) k20 (y21, l23) = some ol20)) (fun (k20, y21, s22, l23) => k20) (fu, copyN 0 ((List.replicate n13 Hand.zero).length) a0, s16, p18) ⟨rfl, rfl, trivial⟩ rfl H ?_
  rintro F24 ⟨k20, y21, s22, l23⟩ hF25 H
  refine Cd.as (e' := [(7, Sl.v s22), (8, .int .i64 y21)]) (L' := (.own s22 135 3 (encs l23)) :: (.own Sl.nil 135 3 (encs ([] : List Hand))) :: L) ⟨rfl, rfl, trivial⟩ rfl ?_
  rcases k20 with _ | k20
  · cases H
  obtain ⟨c20, H, hgo20, hbrk20, hret20⟩ := whileM_go H
  unfold slices_Repeat_api_Hand_api_Hand_B0 at H
  try dsimp only at H
  refine Cd.seq ?_
  refine Cd.seq ?_
  refine Cd.region ?_
  refine Lst.run rfl rfl (by decide) (Ev.move rfl) ?_
  refine Lst.run rfl rfl (by decide) (Ev.move rfl) ?_
  refine Lst.run rfl rfl (by decide) (Ev.lenS (α := Hand) (xs := l23) (by decide) rfl rfl Try.runUnderlying122 (Rd.own (i := 0) rfl rfl rfl)) ?_
  refine Lst.run rfl rfl (by decide) (Ev.lss rfl rfl) ?_
  refine Lst.nil ?_
  refine At.then ?_
  rcases (Bool.eq_false_or_eq_true (decide (y21 < (l23.length : Int)))).symm with hb26 | hb26
  · replace H := ite_f hb26 H
    refine Cd.condF rfl hb26 ?_
    refine Cd.exit ?_
    refine At.then_exit ?_
    refine At.then_exit ?_
    refine At.in_exit ?_
    have H := hbrk20 _ (some_inj H).symm
    subst H
    replace H := HKl20
    refine At.then ?_
    refine Cd.seq ?_
    refine Cd.region ?_
    refine Lst.run rfl rfl (by decide) (Ev.move rfl) ?_
    refine Lst.run rfl rfl (by decide) (Ev.assign rfl) ?_
    refine Lst.nil ?_
    refine At.then ?_
    obtain rfl := some_inj H
    refine Cd.ret ?_
    exact At.ret1 rfl (Res.tmp rfl) (FLe.trans hF11 hF25) (List.Sublist.cons_cons _ (List.Sublist.cons _ (List.Sublist.refl _))) ⟨s22, rfl, rfl⟩
  replace H := ite_t hb26 H
  refine Cd.condT rfl hb26 ?_
  refine Cd.skip ?_
  refine At.then ?_
  refine Cd.block ?_
  obtain ⟨m27, h28, H⟩ := bind_some H
  obtain ⟨m31, h32, H⟩ := bind_some H
  obtain ⟨p35, h36, H⟩ := Let_some H
  obtain ⟨o40, h41, H⟩ := Let_some H
  refine Cd.headMeet (σ := Sl × (List Hand)) 8 (fun (s38, l39) => [(7, Sl.v s38), (8, .int .i64 y21), (38, .int .i64 y21), (45, .int .i64 (copyN ((y21 : Int).toNat) (((l23.length : Int) : Int).toNat) m31))]) (fun (s38, l39) => (.own s38 135 3 (encs l39)) :: (.own Sl.nil 135 3 (encs ([] : List Hand))) :: L) (fun _ (s38, l39) => l39 = o40) (by kernel_rfl) (by kernel_rfl) (behind_sink (by kernel_rfl) (by kernel_rfl) (by kernel_rfl)) (by kernel_rfl) (fun hsel hlt => ?_) ?_
  · refine HdJ.keep (fun w => St w0 F24 ((.own Sl.nil 135 3 (encs ([] : List Hand))) :: L) w) (fun w h => trivial) ?_
    refine HdJ.takeK hsel hlt 0 (fun w h => h.sublist (List.Sublist.cons _ (List.Sublist.cons_cons _ (List.Sublist.refl _)))) rfl rfl (by decide) (by decide) (by kernel_rfl) (by kernel_rfl) rfl (Ev.move rfl) ?_
    refine HdJ.takeK hsel hlt 1 (fun w h => h.sublist (List.Sublist.cons _ (List.Sublist.cons_cons _ (List.Sublist.refl _)))) rfl rfl (by decide) (by decide) (by kernel_rfl) (by kernel_rfl) rfl (Ev.move rfl) ?_
    refine HdJ.takeK hsel hlt 2 (fun w h => h.sublist (List.Sublist.cons _ (List.Sublist.cons_cons _ (List.Sublist.refl _)))) rfl rfl (by decide) (by decide) (by kernel_rfl) (by kernel_rfl) rfl (Ev.move rfl) ?_
    refine HdJ.takeK hsel hlt 4 (fun w h => h.sublist (List.Sublist.cons _ (List.Sublist.cons_cons _ (List.Sublist.refl _)))) rfl rfl (by decide) (by decide) (by kernel_rfl) (by kernel_rfl) rfl (Ev.move rfl) ?_
    refine HdJ.takeK hsel hlt 5 (fun w h => h.sublist (List.Sublist.cons _ (List.Sublist.cons_cons _ (List.Sublist.refl _)))) rfl rfl (by decide) (by decide) (by kernel_rfl) (by kernel_rfl) rfl (Ev.move rfl) ?_
    refine HdJ.step [3, 6] (by kernel_rfl) rfl ?_
    refine HdStep.cons (by decide) rfl (fun inv => ?_) ?_
    · obtain ⟨g42, gl43⟩ := cutL_some h28
      refine Lst.run rfl rfl (by decide) (Ev.cut (α := Hand) (xs := l23) (i := y21) (j := (l23.length : Int)) rfl rfl rfl Try.runUnderlying122 Try.sizeOf135 rfl (by decide) (Rd.own (i := 0) rfl rfl rfl) g42.1 g42.2.1 g42.2.2) ?_
      refine Lst.nil ?_
      refine At.hd inv (fun w h => (h.weaken (FLe.refl _)).sublist (List.Sublist.cons _ (List.Sublist.cons_cons _ (List.Sublist.refl _)))) ?_
      refine HdJ.step [6] (by kernel_rfl) rfl ?_
      refine HdStep.cons (by decide) rfl (fun inv => ?_) ?_
      · obtain ⟨g44, gl45⟩ := cutL_some h32
        refine Lst.run rfl rfl (by decide) (Ev.cut (α := Hand) (xs := l23) (i := 0) (j := y21) rfl rfl rfl Try.runUnderlying122 Try.sizeOf135 rfl (by decide) (Rd.own (i := 0) rfl rfl rfl) g44.1 g44.2.1 g44.2.2) ?_
        refine Lst.nil ?_
        refine At.hd inv (fun w h => (h.weaken (FLe.refl _)).sublist (List.Sublist.cons _ (List.Sublist.cons_cons _ (List.Sublist.refl _)))) ?_
        refine HdJ.step [7] (by kernel_rfl) rfl ?_
        refine HdStep.cons (by decide) rfl (fun inv => ?_) ?_
        · refine Lst.copy (i := 0) (α := Hand) (lo := ((y21 : Int).toNat)) (hi := (((l23.length : Int) : Int).toNat)) (xs := l23) (ys := m31) rfl rfl (by decide) rfl rfl Try.runUnderlying122 Try.sizeOf135 rfl (by decide) rfl rfl (by rw [← gl45]; exact Rd.cut (by decide) (Rd.own (i := 0) rfl rfl rfl) (by omega) (by omega)) (by omega) (by omega) ?_
          refine Lst.its (L' := (.own s22 135 3 (encs p35)) :: (.own Sl.nil 135 3 (encs ([] : List Hand))) :: L) (by rw [← h36]; rfl) ?_
          refine Lst.nil ?_
          refine At.hd inv (fun w h => (h.weaken (FLe.refl _)).sublist (List.Sublist.cons _ (List.Sublist.cons_cons _ (List.Sublist.refl _)))) ?_
          refine HdJ.done (by kernel_rfl) ?_
          exact At.meetN (s22, p35) (FLe.refl _) ⟨rfl, rfl, rfl, rfl, trivial⟩ rfl h41
        exact trivial
      exact trivial
    refine HdStep.cons (by decide) rfl (fun inv => ?_) ?_
    · obtain ⟨g46, gl47⟩ := cutL_some h32
      refine Lst.run rfl rfl (by decide) (Ev.cut (α := Hand) (xs := l23) (i := 0) (j := y21) rfl rfl rfl Try.runUnderlying122 Try.sizeOf135 rfl (by decide) (Rd.own (i := 0) rfl rfl rfl) g46.1 g46.2.1 g46.2.2) ?_
      refine Lst.nil ?_
      refine At.hd inv (fun w h => (h.weaken (FLe.refl _)).sublist (List.Sublist.cons _ (List.Sublist.cons_cons _ (List.Sublist.refl _)))) ?_
      refine HdJ.step [3] (by kernel_rfl) rfl ?_
      refine HdStep.cons (by decide) rfl (fun inv => ?_) ?_
      · obtain ⟨g48, gl49⟩ := cutL_some h28
        refine Lst.run rfl rfl (by decide) (Ev.cut (α := Hand) (xs := l23) (i := y21) (j := (l23.length : Int)) rfl rfl rfl Try.runUnderlying122 Try.sizeOf135 rfl (by decide) (Rd.own (i := 0) rfl rfl rfl) g48.1 g48.2.1 g48.2.2) ?_
        refine Lst.nil ?_
        refine At.hd inv (fun w h => (h.weaken (FLe.refl _)).sublist (List.Sublist.cons _ (List.Sublist.cons_cons _ (List.Sublist.refl _)))) ?_
        refine HdJ.step [7] (by kernel_rfl) rfl ?_
        refine HdStep.cons (by decide) rfl (fun inv => ?_) ?_
        · refine Lst.copy (i := 0) (α := Hand) (lo := ((y21 : Int).toNat)) (hi := (((l23.length : Int) : Int).toNat)) (xs := l23) (ys := m31) rfl rfl (by decide) rfl rfl Try.runUnderlying122 Try.sizeOf135 rfl (by decide) rfl rfl (by rw [← gl47]; exact Rd.cut (by decide) (Rd.own (i := 0) rfl rfl rfl) (by omega) (by omega)) (by omega) (by omega) ?_
          refine Lst.its (L' := (.own s22 135 3 (encs p35)) :: (.own Sl.nil 135 3 (encs ([] : List Hand))) :: L) (by rw [← h36]; rfl) ?_
          refine Lst.nil ?_
          refine At.hd inv (fun w h => (h.weaken (FLe.refl _)).sublist (List.Sublist.cons _ (List.Sublist.cons_cons _ (List.Sublist.refl _)))) ?_
          refine HdJ.done (by kernel_rfl) ?_
          exact At.meetN (s22, p35) (FLe.refl _) ⟨rfl, rfl, rfl, rfl, trivial⟩ rfl h41
        exact trivial
      exact trivial
    exact trivial
  rintro F50 ⟨s38, l39⟩ hF51 hy
  subst hy
  refine Lst.as (e' := [(7, Sl.v s38), (8, .int .i64 y21), (38, .int .i64 y21), (45, .int .i64 (copyN ((y21 : Int).toNat) (((l23.length : Int) : Int).toNat) m31))]) (L' := (.own s38 135 3 (encs l39)) :: (.own Sl.nil 135 3 (encs ([] : List Hand))) :: L) ⟨rfl, rfl, rfl, rfl, trivial⟩ rfl ?_
  refine Lst.run rfl rfl (by decide) (Ev.add rfl rfl) ?_
  refine Lst.run rfl rfl (by decide) (Ev.assign rfl) ?_
  refine Lst.nil ?_
  refine At.in_normal ?_
  exact At.meet (k20, w64 (y21 + (copyN ((y21 : Int).toNat) (((l23.length : Int) : Int).toNat) m31)), s38, l39) (FLe.trans hF25 hF51) ⟨rfl, rfl, trivial⟩ rfl ⟨hgo20 _ (some_inj H).symm, Nat.lt_succ_self _⟩
set_option maxRecDepth 20000 in
theorem over_New_sim {fu : Nat} {a0 : Int} {r : Over × Int} (H : over_New fu a0 = some r) (w0 : World) (F : Frz) (M L : List Item) (hM : M.Sublist L) : Ok Try.prog w0 74 [.int .i64 a0] F (L) (fun Fx L' v => ∃ (s27 : Sl) (s29 : Sl), v = .tuple #[.agg (enc (OverR.mk r.1 s27 s29)).toArray, .int .i64 r.2] ∧ L' = (.own s27 135 3 (encs r.1.Hands)) :: L ∧ Rd w0 Fx [] s29 r.1.Way) := by
  unfold over_New at H
  refine Ok.enter (m := 1) (n := 19) Try.func74 rfl rfl rfl (by decide) ?_
  refine Cd.env (e' := [(0, .int .i64 a0)]) rfl ?_
  refine Cd.seq ?_
  refine Cd.region ?_
  refine Lst.addNil 135 3 ?_
  refine Lst.addNil 209 3 ?_
  refine Lst.alloc (cs := enc (OverR.mk ({ Over.zero with Hands := ([] : List Hand), Way := ([] : List Word) } : Over) Sl.nil Sl.nil)) rfl rfl (by decide) Try.zeroValue124 rfl (fun b3 => ?_)
  refine Lst.run rfl rfl (by decide) (Ev.assign rfl) ?_
  refine Lst.nil ?_
  refine At.then ?_
  refine Cd.seq ?_
  refine Cd.seq ?_
  refine Cd.region ?_
  refine Lst.run rfl rfl (by decide) (Ev.move rfl) ?_
  obtain ⟨r5, h6, H⟩ := bind_some H
  refine Lst.call1 rfl rfl (by decide) (vs := [.int .i64 a0, .int .i64 (1 : Int), .int .i64 (6 : Int)]) ⟨rfl, rfl, rfl, trivial⟩ Try.call165 (over_in_sim h6 w0 _ M _ (List.Sublist.cons _ (List.Sublist.cons _ (List.Sublist.cons _ hM)))) ?_
  refine Lst.run rfl rfl (by decide) (Ev.not rfl) ?_
  refine Lst.nil ?_
  refine At.then ?_
  rcases Bool.eq_false_or_eq_true (!r5) with hb9 | hb9
  · replace H := ite_t hb9 H
    refine Cd.condT rfl hb9 ?_
    refine Cd.seq ?_
    refine Cd.region ?_
    refine Lst.run rfl rfl (by decide) (Ev.build (v := .agg (enc (OverR.mk Over.zero Sl.nil Sl.nil)).toArray) (pv := []) trivial (fun w => by kernel_rfl)) ?_
    refine Lst.store (i := 0) rfl rfl rfl rfl rfl Try.sizeOf124 (vs := enc (OverR.mk Over.zero Sl.nil Sl.nil)) rfl (Enc.len _) (Enc.one _) (cs' := enc (OverR.mk Over.zero Sl.nil Sl.nil)) (Put.here ((Enc.len _).trans (Enc.len _).symm)) (L' := (.blk b3 (enc (OverR.mk Over.zero Sl.nil Sl.nil)) 124) :: (.own Sl.nil 209 3 (encs ([] : List Word))) :: (.own Sl.nil 135 3 (encs ([] : List Hand))) :: L) rfl ?_
    refine Lst.run rfl rfl (by decide) (Ev.assign rfl) ?_
    refine Lst.nil ?_
    refine At.then ?_
    obtain rfl := some_inj H
    refine Cd.ret ?_
    refine At.then_ret ?_
    refine At.addNil 135 3 ?_
    exact At.ret2 rfl (Res.cellA (i := 1) rfl rfl Try.isAgg124 Try.sizeOf124 (Enc.len _)) (Res.tmp rfl) (FLe.refl _) (List.Sublist.cons_cons _ (List.Sublist.cons _ (List.Sublist.cons _ (List.Sublist.cons _ (List.Sublist.refl _))))) ⟨Sl.nil, Sl.nil, rfl, rfl, Rd.nil⟩
  replace H := ite_f hb9 H
  refine Cd.condF rfl hb9 ?_
  refine Cd.skip ?_
  refine At.then ?_
  refine Cd.seq ?_
  refine Cd.region ?_
  refine Lst.run rfl rfl (by decide) (Ev.build (v := .agg (enc ({ Hand.zero with Boss := (-1 : Int) } : Hand)).toArray) (pv := [(1, .int .i64 (-1 : Int))]) ⟨rfl, rfl, trivial⟩ (fun w => by kernel_rfl)) ?_
  refine Lst.buildSlice (α := Hand) (xs := ([({ Hand.zero with Boss := (-1 : Int) } : Hand)] : List Hand)) (pv := [(0, .agg (enc ({ Hand.zero with Boss := (-1 : Int) } : Hand)).toArray)]) rfl rfl (by decide) ⟨rfl, rfl, trivial⟩ (run_buildSlice (α := Hand) (z0 := Hand.zero) (xs := ([({ Hand.zero with Boss := (-1 : Int) } : Hand)] : List Hand)) Try.runUnderlying122 Try.sizeOf135 Try.zeroValue135 rfl rfl rfl (by decide) rfl (fill_cons (cs := encs (List.replicate 1 Hand.zero)) (cs' := encs ((List.replicate 1 Hand.zero).set 0 ({ Hand.zero with Boss := (-1 : Int) } : Hand))) (vs := enc ({ Hand.zero with Boss := (-1 : Int) } : Hand)) rfl rfl (Enc.len _) ((Put.elemN (s := 3) (i := 0) (x := Hand.zero) (y := ({ Hand.zero with Boss := (-1 : Int) } : Hand)) rfl rfl (Put.here ((Enc.len _).trans (Enc.len _).symm))).off rfl) fill_nil)) rfl rfl (by decide) (fun s11 _ => ?_)
  refine Lst.run rfl rfl (by decide) (Ev.move rfl) ?_
  obtain ⟨r13, h14, H⟩ := bind_some H
  refine Lst.call rfl rfl (by decide) (vs := [Sl.v s11, .int .i64 a0]) ⟨rfl, rfl, trivial⟩ Try.call80 (slices_Repeat_api_Hand_api_Hand_sim h14 w0 _ _ _ (List.Sublist.refl _) (Rd.own (i := 0) rfl rfl rfl)) (fun F17 L' v hF18 hv => ?_)
  obtain ⟨s15, rfl, rfl⟩ := hv
  refine Lst.run rfl rfl (by decide) (Ev.build (v := .agg (enc (OverR.mk ({ Over.zero with Hands := r13 } : Over) s15 Sl.nil)).toArray) (pv := [(0, Sl.v s15)]) ⟨rfl, rfl, trivial⟩ (run_buildStruct (places := #[(0, 1), (1, 1)]) Try.zeroValue124 (zs := enc (OverR.mk Over.zero Sl.nil Sl.nil)) rfl Try.runUnderlying124 (fun w => by kernel_rfl) (fill_cons (cs := enc (OverR.mk Over.zero Sl.nil Sl.nil)) (cs' := enc (OverR.mk ({ Over.zero with Hands := r13 } : Over) s15 Sl.nil)) (vs := [Sl.v s15]) rfl rfl rfl ((OverR.put_Hands (p := (OverR.mk Over.zero Sl.nil Sl.nil)) (y := s15) (Put.here (vs := [Sl.v s15]) rfl)).off rfl) fill_nil))) ?_
  refine Lst.addNil 135 3 ?_
  refine Lst.addNil 209 3 ?_
  refine Lst.alloc (cs := enc (OverR.mk ({ Over.zero with Hands := ([] : List Hand), Way := ([] : List Word) } : Over) Sl.nil Sl.nil)) rfl rfl (by decide) Try.zeroValue124 rfl (fun b21 => ?_)
  refine Lst.store (i := 0) rfl rfl rfl rfl rfl Try.sizeOf124 (vs := enc (OverR.mk ({ Over.zero with Hands := r13 } : Over) s15 Sl.nil)) rfl (Enc.len _) (Enc.one _) (cs' := enc (OverR.mk ({ Over.zero with Hands := r13 } : Over) s15 Sl.nil)) (Put.here ((Enc.len _).trans (Enc.len _).symm)) (L' := (.blk b21 (enc (OverR.mk ({ Over.zero with Hands := r13 } : Over) s15 Sl.nil)) 124) :: (.own Sl.nil 209 3 (encs ([] : List Word))) :: (.own Sl.nil 135 3 (encs ([] : List Hand))) :: (.own s15 135 3 (encs r13)) :: (.own s11 135 3 (encs ([({ Hand.zero with Boss := (-1 : Int) } : Hand)] : List Hand))) :: (.blk b3 (enc (OverR.mk ({ Over.zero with Hands := ([] : List Hand), Way := ([] : List Word) } : Over) Sl.nil Sl.nil)) 124) :: (.own Sl.nil 209 3 (encs ([] : List Word))) :: (.own Sl.nil 135 3 (encs ([] : List Hand))) :: L) rfl ?_
  refine Lst.nil ?_
  refine At.then ?_
  refine Cd.seq ?_
  refine Cd.region ?_
  refine Lst.run rfl rfl (by decide) (Ev.fieldAddr (off' := 0) rfl Try.runUnderlying124 rfl Try.sizeOf122 rfl rfl) ?_
  refine Lst.run rfl rfl (by decide) (Ev.load (i := 0) rfl rfl Try.isAgg122 (v := Sl.v s15) ((OverR.get_Hands (Get.here _)).off (by rfl))) ?_
  obtain ⟨x23, h24, H⟩ := bind_some H
  have g25 := lat_some h24
  refine Lst.run rfl rfl (by decide) (Ev.indexS (α := Hand) (xs := r13) rfl rfl Try.runUnderlying122 Try.sizeOf135 rfl (by decide) (Rd.own (i := 3) rfl rfl rfl) g25.1 g25.2.1) ?_
  refine Lst.run rfl rfl (by decide) (Ev.fieldS (α := Hand) (f' := (0 : Int).toNat * 3 + 0) rfl (Rd.own (i := 3) rfl rfl rfl) ((Get.elemN (s := 3) (x := x23) rfl g25.2.2 (Get.here _)).off (by omega)) rfl Try.runUnderlying135 rfl Try.sizeOf4 rfl rfl rfl) ?_
  obtain ⟨p26, h27, H⟩ := Let_some H
  refine Lst.storeS (i := 3) rfl rfl rfl rfl rfl Try.sizeOf4 (vs := [.bool true]) rfl rfl (by decide) rfl (xs' := encs p26) (by rw [← h27]; exact (Put.elemN (s := 3) (x := x23) rfl g25.2.2 (Hand.put_Busy (Put.here (vs := [.bool true]) rfl))).off (by omega)) (L' := (.blk b21 (enc (OverR.mk ({ Over.zero with Hands := p26 } : Over) s15 Sl.nil)) 124) :: (.own Sl.nil 209 3 (encs ([] : List Word))) :: (.own Sl.nil 135 3 (encs ([] : List Hand))) :: (.own s15 135 3 (encs p26)) :: (.own s11 135 3 (encs ([({ Hand.zero with Boss := (-1 : Int) } : Hand)] : List Hand))) :: (.blk b3 (enc (OverR.mk ({ Over.zero with Hands := ([] : List Hand), Way := ([] : List Word) } : Over) Sl.nil Sl.nil)) 124) :: (.own Sl.nil 209 3 (encs ([] : List Word))) :: (.own Sl.nil 135 3 (encs ([] : List Hand))) :: L) rfl ?_
  refine Lst.nil ?_
  refine At.then ?_
  refine Cd.seq ?_
  refine Cd.region ?_
  refine Lst.run rfl rfl (by decide) (Ev.loadA (i := 0) rfl rfl Try.isAgg124 Try.sizeOf124 (ch := enc (OverR.mk ({ Over.zero with Hands := p26 } : Over) s15 Sl.nil)) (Enc.len _) (Get.here _)) ?_
  refine Lst.store (i := 5) rfl rfl rfl rfl rfl Try.sizeOf124 (vs := enc (OverR.mk ({ Over.zero with Hands := p26 } : Over) s15 Sl.nil)) rfl (Enc.len _) (Enc.one _) (cs' := enc (OverR.mk ({ Over.zero with Hands := p26 } : Over) s15 Sl.nil)) (Put.here ((Enc.len _).trans (Enc.len _).symm)) (L' := (.blk b21 (enc (OverR.mk ({ Over.zero with Hands := p26 } : Over) s15 Sl.nil)) 124) :: (.own Sl.nil 209 3 (encs ([] : List Word))) :: (.own Sl.nil 135 3 (encs ([] : List Hand))) :: (.own s15 135 3 (encs p26)) :: (.own s11 135 3 (encs ([({ Hand.zero with Boss := (-1 : Int) } : Hand)] : List Hand))) :: (.blk b3 (enc (OverR.mk ({ Over.zero with Hands := p26 } : Over) s15 Sl.nil)) 124) :: (.own Sl.nil 209 3 (encs ([] : List Word))) :: (.own Sl.nil 135 3 (encs ([] : List Hand))) :: L) rfl ?_
  refine Lst.run rfl rfl (by decide) (Ev.assign rfl) ?_
  refine Lst.nil ?_
  refine At.then ?_
  obtain rfl := some_inj H
  refine Cd.ret ?_
  exact At.ret2 rfl (Res.cellA (i := 5) rfl rfl Try.isAgg124 Try.sizeOf124 (Enc.len _)) (Res.tmp rfl) hF18 (List.Sublist.cons _ (List.Sublist.cons _ (List.Sublist.cons _ (List.Sublist.cons_cons _ (List.Sublist.cons _ (List.Sublist.cons _ (List.Sublist.cons _ (List.Sublist.cons _ (List.Sublist.refl _))))))))) ⟨s15, Sl.nil, rfl, rfl, Rd.nil⟩
set_option maxRecDepth 20000 in
theorem over_hand_sim {a0 : Hand} {a1 : Int} {a2 : Int} {r : Int} (H : over_hand a0 a1 a2 = some r) (w0 : World) (F : Frz) (M L : List Item) (hM : M.Sublist L) : Ok Try.prog w0 170 [.agg (enc a0).toArray, .int .i64 a1, .int .i64 a2] F (L) (Is (.int .i64 r) (L)) := by
  unfold over_hand at H
  refine Ok.enter (m := 3) (n := 52) Try.func170 rfl rfl rfl (by decide) ?_
  refine Cd.env (e' := [(0, .agg (enc a0).toArray), (1, .int .i64 a1), (2, .int .i64 a2)]) rfl ?_
  refine Cd.seq ?_
  refine Cd.region ?_
  refine Lst.box rfl rfl (by decide) rfl (cs := enc a0) rfl (fun b1 => ?_)
  refine Lst.run rfl rfl (by decide) (Ev.assign rfl) ?_
  refine Lst.nil ?_
  refine At.then ?_
  refine Cd.seq ?_
  refine Cd.block ?_
  refine Cd.seq ?_
  refine Cd.region ?_
  refine Lst.run rfl rfl (by decide) (Ev.fieldAddr (off' := 1) rfl Try.runUnderlying135 rfl Try.sizeOf3 rfl rfl) ?_
  refine Lst.run rfl rfl (by decide) (Ev.load (i := 0) rfl rfl Try.isAgg3 (v := .int .i64 a0.Boss) ((Hand.get_Boss (Get.here _)).off (by rfl))) ?_
  refine Lst.run rfl rfl (by decide) (Ev.move rfl) ?_
  refine Lst.run rfl rfl (by decide) (Ev.sub rfl rfl) ?_
  obtain ⟨r3, h4, H⟩ := bind_some H
  refine Lst.call1 rfl rfl (by decide) (vs := [.int .i64 a0.Boss, .int .i64 (-1 : Int), .int .i64 (w64 (a2 - (1 : Int)))]) ⟨rfl, rfl, rfl, trivial⟩ Try.call165 (over_in_sim h4 w0 _ M _ (List.Sublist.cons _ hM)) ?_
  refine Lst.run rfl rfl (by decide) (Ev.not rfl) ?_
  refine Lst.run rfl rfl (by decide) (Ev.move rfl) ?_
  obtain ⟨o7, H, HKo7⟩ := bind_some H
  refine Lst.join (σ := Bool) 5 (fun y8 => [(1, .int .i64 a1), (3, .pointer (some ⟨b1, 0, none⟩)), (19, .bool y8)]) (fun y8 => (.blk b1 (enc a0) 135) :: L) (fun _ y8 => y8 = o7) ?_ ?_
  · rcases Bool.eq_false_or_eq_true (!r3) with hb9 | hb9
    · replace H := ite_t hb9 H
      refine Lst.skip rfl rfl rfl hb9 rfl (by decide) ?_
      refine Lst.skip rfl rfl rfl hb9 rfl (by decide) ?_
      refine Lst.skip rfl rfl rfl hb9 rfl (by decide) ?_
      refine Lst.skip rfl rfl rfl hb9 rfl (by decide) ?_
      refine Lst.run rfl rfl (by decide) (Ev.pickT rfl hb9 rfl) ?_
      refine Lst.nil ?_
      exact At.meet true (FLe.refl _) ⟨rfl, rfl, rfl, trivial⟩ rfl (some_inj H)
    replace H := ite_f hb9 H
    refine Lst.runG rfl rfl rfl hb9 rfl (by decide) (Ev.fieldAddr (off' := 2) rfl Try.runUnderlying135 rfl Try.sizeOf3 rfl rfl) ?_
    refine Lst.runG rfl rfl rfl hb9 rfl (by decide) (Ev.load (i := 0) rfl rfl Try.isAgg3 (v := .int .i64 a0.Owed) ((Hand.get_Owed (Get.here _)).off (by rfl))) ?_
    obtain ⟨r10, h11, H⟩ := bind_some H
    refine Lst.call1G rfl rfl rfl hb9 rfl (by decide) (vs := [.int .i64 a0.Owed, .int .i64 (0 : Int), .int .i64 (16777215 : Int)]) ⟨rfl, rfl, rfl, trivial⟩ Try.call165 (over_in_sim h11 w0 _ M _ (List.Sublist.cons _ hM)) ?_
    refine Lst.runG rfl rfl rfl hb9 rfl (by decide) (Ev.not rfl) ?_
    refine Lst.run rfl rfl (by decide) (Ev.pickF rfl hb9 rfl) ?_
    refine Lst.nil ?_
    exact At.meet (!r10) (FLe.refl _) ⟨rfl, rfl, rfl, trivial⟩ rfl (some_inj H)
  rintro F14 y8 hF15 hy
  subst hy
  refine Lst.as (e' := [(1, .int .i64 a1), (3, .pointer (some ⟨b1, 0, none⟩)), (19, .bool y8)]) (L' := (.blk b1 (enc a0) 135) :: L) ⟨rfl, rfl, rfl, trivial⟩ rfl ?_
  replace H := HKo7
  refine Lst.run rfl rfl (by decide) (Ev.assign rfl) ?_
  refine Lst.nil ?_
  refine At.then ?_
  rcases Bool.eq_false_or_eq_true y8 with hb16 | hb16
  · replace H := ite_t hb16 H
    refine Cd.condT rfl hb16 ?_
    refine Cd.seq ?_
    refine Cd.region ?_
    refine Lst.run rfl rfl (by decide) (Ev.assign rfl) ?_
    refine Lst.nil ?_
    refine At.then ?_
    obtain rfl := some_inj H
    refine Cd.ret ?_
    refine At.in_ret ?_
    refine At.then_ret ?_
    exact At.ret1 rfl (Res.tmp rfl) hF15 (List.Sublist.cons _ (List.Sublist.refl _)) ⟨rfl, rfl⟩
  replace H := ite_f hb16 H
  refine Cd.condF rfl hb16 ?_
  refine Cd.seq ?_
  refine Cd.region ?_
  refine Lst.run rfl rfl (by decide) (Ev.fieldAddr (off' := 1) rfl Try.runUnderlying135 rfl Try.sizeOf3 rfl rfl) ?_
  refine Lst.run rfl rfl (by decide) (Ev.load (i := 0) rfl rfl Try.isAgg3 (v := .int .i64 a0.Boss) ((Hand.get_Boss (Get.here _)).off (by rfl))) ?_
  refine Lst.run rfl rfl (by decide) (Ev.move rfl) ?_
  refine Lst.run rfl rfl (by decide) (Ev.eql rfl rfl) ?_
  refine Lst.run rfl rfl (by decide) (Ev.move rfl) ?_
  rcases Bool.eq_false_or_eq_true (a0.Boss == a1) with hb17 | hb17
  · replace H := ite_t hb17 H
    refine Lst.skip rfl rfl rfl hb17 rfl (by decide) ?_
    refine Lst.skip rfl rfl rfl hb17 rfl (by decide) ?_
    refine Lst.skip rfl rfl rfl hb17 rfl (by decide) ?_
    refine Lst.skipU rfl rfl rfl rfl (by decide) ?_
    refine Lst.skipU rfl rfl rfl rfl (by decide) ?_
    refine Lst.skipU rfl rfl rfl rfl (by decide) ?_
    refine Lst.skip rfl rfl rfl hb17 rfl (by decide) ?_
    refine Lst.run rfl rfl (by decide) (Ev.pickT rfl hb17 rfl) ?_
    refine Lst.run rfl rfl (by decide) (Ev.move rfl) ?_
    refine Lst.skip rfl rfl rfl rfl rfl (by decide) ?_
    refine Lst.skip rfl rfl rfl rfl rfl (by decide) ?_
    refine Lst.skip rfl rfl rfl rfl rfl (by decide) ?_
    refine Lst.skipU rfl rfl rfl rfl (by decide) ?_
    refine Lst.skipU rfl rfl rfl rfl (by decide) ?_
    refine Lst.skipU rfl rfl rfl rfl (by decide) ?_
    refine Lst.skip rfl rfl rfl rfl rfl (by decide) ?_
    refine Lst.skip rfl rfl rfl rfl rfl (by decide) ?_
    refine Lst.skipU rfl rfl rfl rfl (by decide) ?_
    refine Lst.skipU rfl rfl rfl rfl (by decide) ?_
    refine Lst.skipU rfl rfl rfl rfl (by decide) ?_
    refine Lst.skipU rfl rfl rfl rfl (by decide) ?_
    refine Lst.skipU rfl rfl rfl rfl (by decide) ?_
    refine Lst.skipU rfl rfl rfl rfl (by decide) ?_
    refine Lst.skipU rfl rfl rfl rfl (by decide) ?_
    refine Lst.skip rfl rfl rfl rfl rfl (by decide) ?_
    refine Lst.run rfl rfl (by decide) (Ev.pickT rfl rfl rfl) ?_
    refine Lst.run rfl rfl (by decide) (Ev.assign rfl) ?_
    refine Lst.nil ?_
    refine At.then ?_
    refine Cd.condT rfl rfl ?_
    refine Cd.seq ?_
    refine Cd.as (e' := []) (L' := (.blk b1 (enc a0) 135) :: L) trivial rfl ?_
    refine Cd.region ?_
    refine Lst.run rfl rfl (by decide) (Ev.assign rfl) ?_
    refine Lst.nil ?_
    refine At.then ?_
    obtain rfl := some_inj H
    refine Cd.ret ?_
    refine At.in_ret ?_
    refine At.then_ret ?_
    exact At.ret1 rfl (Res.tmp rfl) hF15 (List.Sublist.cons _ (List.Sublist.refl _)) ⟨rfl, rfl⟩
  replace H := ite_f hb17 H
  refine Lst.runG rfl rfl rfl hb17 rfl (by decide) (Ev.move rfl) ?_
  refine Lst.runG rfl rfl rfl hb17 rfl (by decide) (Ev.eql rfl rfl) ?_
  refine Lst.runG rfl rfl rfl hb17 rfl (by decide) (Ev.move rfl) ?_
  obtain ⟨o18, H, HKo18⟩ := bind_some H
  refine Lst.join (σ := Bool) 4 (fun y19 => [(1, .int .i64 a1), (3, .pointer (some ⟨b1, 0, none⟩)), (25, .bool (a0.Boss == a1)), (32, .bool y19)]) (fun y19 => (.blk b1 (enc a0) 135) :: L) (fun _ y19 => y19 = o18) ?_ ?_
  · rcases (Bool.eq_false_or_eq_true (a1 == (0 : Int))).symm with hb20 | hb20
    · replace H := ite_f hb20 H
      refine Lst.skip rfl rfl rfl hb20 rfl (by decide) ?_
      refine Lst.skip rfl rfl rfl hb20 rfl (by decide) ?_
      refine Lst.skip rfl rfl rfl hb20 rfl (by decide) ?_
      refine Lst.runG rfl rfl rfl hb17 rfl (by decide) (Ev.pickF rfl hb20 rfl) ?_
      refine Lst.nil ?_
      exact At.meet false (FLe.refl _) ⟨rfl, rfl, rfl, rfl, trivial⟩ rfl (some_inj H)
    replace H := ite_t hb20 H
    refine Lst.runG rfl rfl rfl hb20 rfl (by decide) (Ev.fieldAddr (off' := 1) rfl Try.runUnderlying135 rfl Try.sizeOf3 rfl rfl) ?_
    refine Lst.runG rfl rfl rfl hb20 rfl (by decide) (Ev.load (i := 0) rfl rfl Try.isAgg3 (v := .int .i64 a0.Boss) ((Hand.get_Boss (Get.here _)).off (by rfl))) ?_
    refine Lst.runG rfl rfl rfl hb20 rfl (by decide) (Ev.neq rfl rfl) ?_
    refine Lst.runG rfl rfl rfl hb17 rfl (by decide) (Ev.pickT rfl hb20 rfl) ?_
    refine Lst.nil ?_
    exact At.meet (a0.Boss != (-1 : Int)) (FLe.refl _) ⟨rfl, rfl, rfl, rfl, trivial⟩ rfl (some_inj H)
  rintro F21 y19 hF22 hy
  subst hy
  refine Lst.as (e' := [(1, .int .i64 a1), (3, .pointer (some ⟨b1, 0, none⟩)), (25, .bool (a0.Boss == a1)), (32, .bool y19)]) (L' := (.blk b1 (enc a0) 135) :: L) ⟨rfl, rfl, rfl, rfl, trivial⟩ rfl ?_
  replace H := HKo18
  refine Lst.run rfl rfl (by decide) (Ev.pickF rfl hb17 rfl) ?_
  refine Lst.run rfl rfl (by decide) (Ev.move rfl) ?_
  rcases Bool.eq_false_or_eq_true y19 with hb23 | hb23
  · replace H := ite_t hb23 H
    refine Lst.skip rfl rfl rfl hb23 rfl (by decide) ?_
    refine Lst.skip rfl rfl rfl hb23 rfl (by decide) ?_
    refine Lst.skip rfl rfl rfl hb23 rfl (by decide) ?_
    refine Lst.skipU rfl rfl rfl rfl (by decide) ?_
    refine Lst.skipU rfl rfl rfl rfl (by decide) ?_
    refine Lst.skipU rfl rfl rfl rfl (by decide) ?_
    refine Lst.skip rfl rfl rfl hb23 rfl (by decide) ?_
    refine Lst.skip rfl rfl rfl hb23 rfl (by decide) ?_
    refine Lst.skipU rfl rfl rfl rfl (by decide) ?_
    refine Lst.skipU rfl rfl rfl rfl (by decide) ?_
    refine Lst.skipU rfl rfl rfl rfl (by decide) ?_
    refine Lst.skipU rfl rfl rfl rfl (by decide) ?_
    refine Lst.skipU rfl rfl rfl rfl (by decide) ?_
    refine Lst.skipU rfl rfl rfl rfl (by decide) ?_
    refine Lst.skipU rfl rfl rfl rfl (by decide) ?_
    refine Lst.skip rfl rfl rfl hb23 rfl (by decide) ?_
    refine Lst.run rfl rfl (by decide) (Ev.pickT rfl hb23 rfl) ?_
    refine Lst.run rfl rfl (by decide) (Ev.assign rfl) ?_
    refine Lst.nil ?_
    refine At.then ?_
    refine Cd.condT rfl rfl ?_
    refine Cd.seq ?_
    refine Cd.as (e' := []) (L' := (.blk b1 (enc a0) 135) :: L) trivial rfl ?_
    refine Cd.region ?_
    refine Lst.run rfl rfl (by decide) (Ev.assign rfl) ?_
    refine Lst.nil ?_
    refine At.then ?_
    obtain rfl := some_inj H
    refine Cd.ret ?_
    refine At.in_ret ?_
    refine At.then_ret ?_
    exact At.ret1 rfl (Res.tmp rfl) (FLe.trans hF15 hF22) (List.Sublist.cons _ (List.Sublist.refl _)) ⟨rfl, rfl⟩
  replace H := ite_f hb23 H
  refine Lst.runG rfl rfl rfl hb23 rfl (by decide) (Ev.move rfl) ?_
  refine Lst.runG rfl rfl rfl hb23 rfl (by decide) (Ev.neq rfl rfl) ?_
  refine Lst.runG rfl rfl rfl hb23 rfl (by decide) (Ev.move rfl) ?_
  obtain ⟨o24, H, HKo24⟩ := bind_some H
  refine Lst.join (σ := Bool) 4 (fun y25 => [(3, .pointer (some ⟨b1, 0, none⟩)), (34, .bool y19), (41, .bool y25)]) (fun y25 => (.blk b1 (enc a0) 135) :: L) (fun _ y25 => y25 = o24) ?_ ?_
  · rcases (Bool.eq_false_or_eq_true (a1 != (0 : Int))).symm with hb26 | hb26
    · replace H := ite_f hb26 H
      refine Lst.skip rfl rfl rfl hb26 rfl (by decide) ?_
      refine Lst.skip rfl rfl rfl hb26 rfl (by decide) ?_
      refine Lst.skip rfl rfl rfl hb26 rfl (by decide) ?_
      refine Lst.runG rfl rfl rfl hb23 rfl (by decide) (Ev.pickF rfl hb26 rfl) ?_
      refine Lst.nil ?_
      exact At.meet false (FLe.refl _) ⟨rfl, rfl, rfl, trivial⟩ rfl (some_inj H)
    replace H := ite_t hb26 H
    refine Lst.runG rfl rfl rfl hb26 rfl (by decide) (Ev.fieldAddr (off' := 1) rfl Try.runUnderlying135 rfl Try.sizeOf3 rfl rfl) ?_
    refine Lst.runG rfl rfl rfl hb26 rfl (by decide) (Ev.load (i := 0) rfl rfl Try.isAgg3 (v := .int .i64 a0.Boss) ((Hand.get_Boss (Get.here _)).off (by rfl))) ?_
    refine Lst.runG rfl rfl rfl hb26 rfl (by decide) (Ev.eql rfl rfl) ?_
    refine Lst.runG rfl rfl rfl hb23 rfl (by decide) (Ev.pickT rfl hb26 rfl) ?_
    refine Lst.nil ?_
    exact At.meet (a0.Boss == (-1 : Int)) (FLe.refl _) ⟨rfl, rfl, rfl, trivial⟩ rfl (some_inj H)
  rintro F27 y25 hF28 hy
  subst hy
  refine Lst.as (e' := [(3, .pointer (some ⟨b1, 0, none⟩)), (34, .bool y19), (41, .bool y25)]) (L' := (.blk b1 (enc a0) 135) :: L) ⟨rfl, rfl, rfl, trivial⟩ rfl ?_
  replace H := HKo24
  refine Lst.runG rfl rfl rfl hb23 rfl (by decide) (Ev.move rfl) ?_
  rcases (Bool.eq_false_or_eq_true y25).symm with hb29 | hb29
  · replace H := ite_f hb29 H
    refine Lst.skip rfl rfl rfl hb29 rfl (by decide) ?_
    refine Lst.skip rfl rfl rfl hb29 rfl (by decide) ?_
    refine Lst.skip rfl rfl rfl hb29 rfl (by decide) ?_
    refine Lst.skipU rfl rfl rfl rfl (by decide) ?_
    refine Lst.skipU rfl rfl rfl rfl (by decide) ?_
    refine Lst.skipU rfl rfl rfl rfl (by decide) ?_
    refine Lst.skip rfl rfl rfl hb29 rfl (by decide) ?_
    refine Lst.runG rfl rfl rfl hb23 rfl (by decide) (Ev.pickF rfl hb29 rfl) ?_
    refine Lst.run rfl rfl (by decide) (Ev.pickF rfl hb23 rfl) ?_
    refine Lst.run rfl rfl (by decide) (Ev.assign rfl) ?_
    refine Lst.nil ?_
    refine At.then ?_
    refine Cd.condF rfl rfl ?_
    refine Cd.skip ?_
    refine At.in_normal ?_
    refine At.then ?_
    refine Cd.seq ?_
    refine Cd.region ?_
    refine Lst.run rfl rfl (by decide) (Ev.assign rfl) ?_
    refine Lst.nil ?_
    refine At.then ?_
    obtain rfl := some_inj H
    refine Cd.ret ?_
    exact At.ret1 rfl (Res.tmp rfl) (FLe.trans (FLe.trans hF15 hF22) hF28) (List.Sublist.cons _ (List.Sublist.refl _)) ⟨rfl, rfl⟩
  replace H := ite_t hb29 H
  refine Lst.runG rfl rfl rfl hb29 rfl (by decide) (Ev.fieldAddr (off' := 0) rfl Try.runUnderlying135 rfl Try.sizeOf4 rfl rfl) ?_
  refine Lst.runG rfl rfl rfl hb29 rfl (by decide) (Ev.load (i := 0) rfl rfl Try.isAgg4 (v := .bool a0.Busy) ((Hand.get_Busy (Get.here _)).off (by rfl))) ?_
  refine Lst.runG rfl rfl rfl hb29 rfl (by decide) (Ev.move rfl) ?_
  obtain ⟨o30, H, HKo30⟩ := bind_some H
  refine Lst.join (σ := Bool) 4 (fun y31 => [(34, .bool y19), (42, .bool y25), (49, .bool y31)]) (fun y31 => (.blk b1 (enc a0) 135) :: L) (fun _ y31 => y31 = o30) ?_ ?_
  · rcases Bool.eq_false_or_eq_true a0.Busy with hb32 | hb32
    · replace H := ite_t hb32 H
      refine Lst.skip rfl rfl rfl hb32 rfl (by decide) ?_
      refine Lst.skip rfl rfl rfl hb32 rfl (by decide) ?_
      refine Lst.skip rfl rfl rfl hb32 rfl (by decide) ?_
      refine Lst.runG rfl rfl rfl hb29 rfl (by decide) (Ev.pickT rfl hb32 rfl) ?_
      refine Lst.nil ?_
      exact At.meet true (FLe.refl _) ⟨rfl, rfl, rfl, trivial⟩ rfl (some_inj H)
    replace H := ite_f hb32 H
    refine Lst.runG rfl rfl rfl hb32 rfl (by decide) (Ev.fieldAddr (off' := 2) rfl Try.runUnderlying135 rfl Try.sizeOf3 rfl rfl) ?_
    refine Lst.runG rfl rfl rfl hb32 rfl (by decide) (Ev.load (i := 0) rfl rfl Try.isAgg3 (v := .int .i64 a0.Owed) ((Hand.get_Owed (Get.here _)).off (by rfl))) ?_
    refine Lst.runG rfl rfl rfl hb32 rfl (by decide) (Ev.gtr rfl rfl) ?_
    refine Lst.runG rfl rfl rfl hb29 rfl (by decide) (Ev.pickF rfl hb32 rfl) ?_
    refine Lst.nil ?_
    exact At.meet (decide (a0.Owed > (0 : Int))) (FLe.refl _) ⟨rfl, rfl, rfl, trivial⟩ rfl (some_inj H)
  rintro F33 y31 hF34 hy
  subst hy
  refine Lst.as (e' := [(34, .bool y19), (42, .bool y25), (49, .bool y31)]) (L' := (.blk b1 (enc a0) 135) :: L) ⟨rfl, rfl, rfl, trivial⟩ rfl ?_
  replace H := HKo30
  refine Lst.runG rfl rfl rfl hb23 rfl (by decide) (Ev.pickT rfl hb29 rfl) ?_
  refine Lst.run rfl rfl (by decide) (Ev.pickF rfl hb23 rfl) ?_
  refine Lst.run rfl rfl (by decide) (Ev.assign rfl) ?_
  refine Lst.nil ?_
  refine At.then ?_
  rcases Bool.eq_false_or_eq_true y31 with hb35 | hb35
  · replace H := ite_t hb35 H
    refine Cd.condT rfl hb35 ?_
    refine Cd.seq ?_
    refine Cd.region ?_
    refine Lst.run rfl rfl (by decide) (Ev.assign rfl) ?_
    refine Lst.nil ?_
    refine At.then ?_
    obtain rfl := some_inj H
    refine Cd.ret ?_
    refine At.in_ret ?_
    refine At.then_ret ?_
    exact At.ret1 rfl (Res.tmp rfl) (FLe.trans (FLe.trans (FLe.trans hF15 hF22) hF28) hF34) (List.Sublist.cons _ (List.Sublist.refl _)) ⟨rfl, rfl⟩
  replace H := ite_f hb35 H
  refine Cd.condF rfl hb35 ?_
  refine Cd.skip ?_
  refine At.in_normal ?_
  refine At.then ?_
  refine Cd.seq ?_
  refine Cd.region ?_
  refine Lst.run rfl rfl (by decide) (Ev.assign rfl) ?_
  refine Lst.nil ?_
  refine At.then ?_
  obtain rfl := some_inj H
  refine Cd.ret ?_
  exact At.ret1 rfl (Res.tmp rfl) (FLe.trans (FLe.trans (FLe.trans hF15 hF22) hF28) hF34) (List.Sublist.cons _ (List.Sublist.refl _)) ⟨rfl, rfl⟩
set_option maxRecDepth 20000 in
theorem over_Check_sim {a0 : Over} {s_a0_0 : Sl} {s_a0_1 : Sl} {r : Int} (H : over_Check a0 = some r) (w0 : World) (F : Frz) (M L : List Item) (hM : M.Sublist L) (hs_a0_0 : Rd w0 F M s_a0_0 a0.Hands) (hs_a0_1 : Rd w0 F M s_a0_1 a0.Way) : Ok Try.prog w0 81 [.agg (enc (OverR.mk a0 s_a0_0 s_a0_1)).toArray] F (L) (Is (.int .i64 r) (L)) := by
  unfold over_Check at H
  refine Ok.enter (m := 1) (n := 70) Try.func81 rfl rfl rfl (by decide) ?_
  refine Cd.env (e' := [(0, .agg (enc (OverR.mk a0 s_a0_0 s_a0_1)).toArray)]) rfl ?_
  refine Cd.seq ?_
  refine Cd.region ?_
  refine Lst.box rfl rfl (by decide) rfl (cs := enc (OverR.mk a0 s_a0_0 s_a0_1)) rfl (fun b1 => ?_)
  refine Lst.run rfl rfl (by decide) (Ev.assign rfl) ?_
  refine Lst.nil ?_
  refine At.then ?_
  refine Cd.seq ?_
  refine Cd.region ?_
  refine Lst.run rfl rfl (by decide) (Ev.fieldAddr (off' := 0) rfl Try.runUnderlying124 rfl Try.sizeOf122 rfl rfl) ?_
  refine Lst.run rfl rfl (by decide) (Ev.load (i := 0) rfl rfl Try.isAgg122 (v := Sl.v s_a0_0) ((OverR.get_Hands (Get.here _)).off (by rfl))) ?_
  refine Lst.run rfl rfl (by decide) (Ev.lenS (α := Hand) (xs := a0.Hands) (by decide) rfl rfl Try.runUnderlying122 (hs_a0_0.mono (FLe.refl _) (List.Sublist.cons _ hM))) ?_
  refine Lst.run rfl rfl (by decide) (Ev.assign rfl) ?_
  refine Lst.nil ?_
  refine At.then ?_
  refine Cd.seq ?_
  refine Cd.seq ?_
  refine Cd.region ?_
  refine Lst.run rfl rfl (by decide) (Ev.move rfl) ?_
  obtain ⟨r3, h4, H⟩ := bind_some H
  refine Lst.call1 rfl rfl (by decide) (vs := [.int .i64 (a0.Hands.length : Int), .int .i64 (1 : Int), .int .i64 (6 : Int)]) ⟨rfl, rfl, rfl, trivial⟩ Try.call165 (over_in_sim h4 w0 _ M _ (List.Sublist.cons _ hM)) ?_
  refine Lst.run rfl rfl (by decide) (Ev.not rfl) ?_
  refine Lst.nil ?_
  refine At.then ?_
  rcases Bool.eq_false_or_eq_true (!r3) with hb7 | hb7
  · replace H := ite_t hb7 H
    refine Cd.condT rfl hb7 ?_
    refine Cd.seq ?_
    refine Cd.region ?_
    refine Lst.run rfl rfl (by decide) (Ev.assign rfl) ?_
    refine Lst.nil ?_
    refine At.then ?_
    obtain rfl := some_inj H
    refine Cd.ret ?_
    refine At.then_ret ?_
    exact At.ret1 rfl (Res.tmp rfl) (FLe.refl _) (List.Sublist.cons _ (List.Sublist.refl _)) ⟨rfl, rfl⟩
  replace H := ite_f hb7 H
  refine Cd.condF rfl hb7 ?_
  refine Cd.skip ?_
  refine At.then ?_
  refine Cd.seq ?_
  refine Cd.seq ?_
  refine Cd.region ?_
  refine Lst.run rfl rfl (by decide) (Ev.fieldAddr (off' := 0) rfl Try.runUnderlying124 rfl Try.sizeOf122 rfl rfl) ?_
  refine Lst.run rfl rfl (by decide) (Ev.load (i := 0) rfl rfl Try.isAgg122 (v := Sl.v s_a0_0) ((OverR.get_Hands (Get.here _)).off (by rfl))) ?_
  refine Lst.run rfl rfl (by decide) (Ev.lenS (α := Hand) (xs := a0.Hands) (by decide) rfl rfl Try.runUnderlying122 (hs_a0_0.mono (FLe.refl _) (List.Sublist.cons _ hM))) ?_
  refine Lst.run rfl rfl (by decide) (Ev.move rfl) ?_
  refine Lst.nil ?_
  refine At.then ?_
  refine Cd.block ?_
  refine Cd.bound (Rd.le (α := Hand) (xs := a0.Hands) (by decide) (hs_a0_0.mono (FLe.refl _) (List.Sublist.cons _ hM))) (fun hN55 => ?_)
  obtain ⟨ol8, H, HKl8⟩ := andThen_some H
  refine Cd.loop (σ := Nat × Nat × Unit) (fun (i8, k8, _u) => [(1, .pointer (some ⟨b1, 0, none⟩)), (3, .int .i64 (a0.Hands.length : Int)), (16, Sl.v s_a0_0), (17, .int .i64 (a0.Hands.length : Int)), (18, .int .i64 (i8 : Int))]) (fun (i8, k8, _u) => (.blk b1 (enc (OverR.mk a0 s_a0_0 s_a0_1)) 124) :: L) (fun _ => (fun (i8, k8, _u) => rangeM (over_Check_B0 a0) k8 i8 () = some ol8 ∧ i8 + k8 = a0.Hands.length)) (fun (i8, k8, _u) => k8) (0, a0.Hands.length, ()) ⟨rfl, rfl, rfl, rfl, rfl, trivial⟩ rfl ⟨H, by omega⟩ ?_
  rintro F9 ⟨i8, k8, _u⟩ hF10 ⟨H, hik8⟩
  refine Cd.as (e' := [(1, .pointer (some ⟨b1, 0, none⟩)), (3, .int .i64 (a0.Hands.length : Int)), (16, Sl.v s_a0_0), (17, .int .i64 (a0.Hands.length : Int)), (18, .int .i64 (i8 : Int))]) (L' := (.blk b1 (enc (OverR.mk a0 s_a0_0 s_a0_1)) 124) :: L) ⟨rfl, rfl, rfl, rfl, rfl, trivial⟩ rfl ?_
  rcases k8 with _ | k8
  · have hc8 : decide ((i8 : Int) < (a0.Hands.length : Int)) = false := decide_eq_false (by omega)
    replace H := rangeM_end H
    refine Cd.seq ?_
    refine Cd.region ?_
    refine Lst.run rfl rfl (by decide) (Ev.lss rfl rfl) ?_
    refine Lst.nil ?_
    refine At.then ?_
    refine Cd.seq ?_
    refine Cd.condF rfl hc8 ?_
    refine Cd.exit ?_
    refine At.then_exit ?_
    refine At.then_exit ?_
    refine At.in_exit ?_
    subst H
    replace H := HKl8
    refine At.then ?_
    refine Cd.seq ?_
    refine Cd.seq ?_
    refine Cd.region ?_
    refine Lst.run rfl rfl (by decide) (Ev.fieldAddr (off' := 1) rfl Try.runUnderlying124 rfl Try.sizeOf112 rfl rfl) ?_
    refine Lst.run rfl rfl (by decide) (Ev.load (i := 0) rfl rfl Try.isAgg112 (v := Sl.v s_a0_1) ((OverR.get_Way (Get.here _)).off (by rfl))) ?_
    refine Lst.run rfl rfl (by decide) (Ev.lenS (α := Word) (xs := a0.Way) (by decide) rfl rfl Try.runUnderlying112 (hs_a0_1.mono hF10 (List.Sublist.cons _ hM))) ?_
    refine Lst.run rfl rfl (by decide) (Ev.gtr rfl rfl) ?_
    refine Lst.nil ?_
    refine At.then ?_
    rcases Bool.eq_false_or_eq_true (decide ((a0.Way.length : Int) > (100 : Int))) with hb21 | hb21
    · replace H := ite_t hb21 H
      refine Cd.condT rfl hb21 ?_
      refine Cd.seq ?_
      refine Cd.region ?_
      refine Lst.run rfl rfl (by decide) (Ev.assign rfl) ?_
      refine Lst.nil ?_
      refine At.then ?_
      obtain rfl := some_inj H
      refine Cd.ret ?_
      refine At.then_ret ?_
      exact At.ret1 rfl (Res.tmp rfl) hF10 (List.Sublist.cons _ (List.Sublist.refl _)) ⟨rfl, rfl⟩
    replace H := ite_f hb21 H
    refine Cd.condF rfl hb21 ?_
    refine Cd.skip ?_
    refine At.then ?_
    refine Cd.seq ?_
    refine Cd.seq ?_
    refine Cd.region ?_
    refine Lst.run rfl rfl (by decide) (Ev.fieldAddr (off' := 1) rfl Try.runUnderlying124 rfl Try.sizeOf112 rfl rfl) ?_
    refine Lst.run rfl rfl (by decide) (Ev.load (i := 0) rfl rfl Try.isAgg112 (v := Sl.v s_a0_1) ((OverR.get_Way (Get.here _)).off (by rfl))) ?_
    refine Lst.run rfl rfl (by decide) (Ev.lenS (α := Word) (xs := a0.Way) (by decide) rfl rfl Try.runUnderlying112 (hs_a0_1.mono hF10 (List.Sublist.cons _ hM))) ?_
    refine Lst.run rfl rfl (by decide) (Ev.move rfl) ?_
    refine Lst.nil ?_
    refine At.then ?_
    refine Cd.block ?_
    refine Cd.bound (Rd.le (α := Word) (xs := a0.Way) (by decide) (hs_a0_1.mono hF10 (List.Sublist.cons _ hM))) (fun hN54 => ?_)
    obtain ⟨ol22, H, HKl22⟩ := andThen_some H
    refine Cd.loop (σ := Nat × Nat × Unit) (fun (i22, k22, _u) => [(3, .int .i64 (a0.Hands.length : Int)), (36, Sl.v s_a0_1), (37, .int .i64 (a0.Way.length : Int)), (38, .int .i64 (i22 : Int))]) (fun (i22, k22, _u) => (.blk b1 (enc (OverR.mk a0 s_a0_0 s_a0_1)) 124) :: L) (fun _ => (fun (i22, k22, _u) => rangeM (over_Check_B2 a0) k22 i22 () = some ol22 ∧ i22 + k22 = a0.Way.length)) (fun (i22, k22, _u) => k22) (0, a0.Way.length, ()) ⟨rfl, rfl, rfl, rfl, trivial⟩ rfl ⟨H, by omega⟩ ?_
    rintro F23 ⟨i22, k22, _u⟩ hF24 ⟨H, hik22⟩
    refine Cd.as (e' := [(3, .int .i64 (a0.Hands.length : Int)), (36, Sl.v s_a0_1), (37, .int .i64 (a0.Way.length : Int)), (38, .int .i64 (i22 : Int))]) (L' := (.blk b1 (enc (OverR.mk a0 s_a0_0 s_a0_1)) 124) :: L) ⟨rfl, rfl, rfl, rfl, trivial⟩ rfl ?_
    rcases k22 with _ | k22
    · have hc22 : decide ((i22 : Int) < (a0.Way.length : Int)) = false := decide_eq_false (by omega)
      replace H := rangeM_end H
      refine Cd.seq ?_
      refine Cd.region ?_
      refine Lst.run rfl rfl (by decide) (Ev.lss rfl rfl) ?_
      refine Lst.nil ?_
      refine At.then ?_
      refine Cd.seq ?_
      refine Cd.condF rfl hc22 ?_
      refine Cd.exit ?_
      refine At.then_exit ?_
      refine At.then_exit ?_
      refine At.in_exit ?_
      subst H
      replace H := HKl22
      refine At.then ?_
      refine Cd.seq ?_
      refine Cd.region ?_
      refine Lst.run rfl rfl (by decide) (Ev.assign rfl) ?_
      refine Lst.nil ?_
      refine At.then ?_
      obtain rfl := some_inj H
      refine Cd.ret ?_
      exact At.ret1 rfl (Res.tmp rfl) (FLe.trans hF10 hF24) (List.Sublist.cons _ (List.Sublist.refl _)) ⟨rfl, rfl⟩
    have hc22 : decide ((i22 : Int) < (a0.Way.length : Int)) = true := decide_eq_true (by omega)
    obtain ⟨c22, H, hgo22, hbrk22, hret22⟩ := rangeM_go H
    unfold over_Check_B2 at H
    try dsimp only at H
    refine Cd.seq ?_
    refine Cd.region ?_
    refine Lst.run rfl rfl (by decide) (Ev.lss rfl rfl) ?_
    refine Lst.nil ?_
    refine At.then ?_
    refine Cd.seq ?_
    refine Cd.condT rfl hc22 ?_
    refine Cd.skip ?_
    refine At.then ?_
    refine Cd.seq ?_
    refine Cd.block ?_
    refine Cd.seq ?_
    refine Cd.region ?_
    obtain ⟨x25, h26, H⟩ := bind_some H
    have g27 := lat_some h26
    refine Lst.run rfl rfl (by decide) (Ev.indexS (α := Word) (xs := a0.Way) rfl rfl Try.runUnderlying112 Try.sizeOf209 rfl (by decide) (hs_a0_1.mono (FLe.trans hF10 hF24) (List.Sublist.cons _ hM)) g27.1 g27.2.1) ?_
    refine Lst.run rfl rfl (by decide) (Ev.loadSA (α := Word) rfl (hs_a0_1.mono (FLe.trans hF10 hF24) (List.Sublist.cons _ hM)) Try.isAgg209 Try.sizeOf209 (ch := enc x25) (Enc.len _) (by decide) ((Get.elemN (s := 3) (x := x25) rfl g27.2.2 (Get.here _)).off (by omega))) ?_
    refine Lst.alloc (cs := enc Word.zero) rfl rfl (by decide) Try.zeroValue209 rfl (fun b28 => ?_)
    refine Lst.store (i := 0) rfl rfl rfl rfl rfl Try.sizeOf209 (vs := enc x25) rfl (Enc.len _) (Enc.one _) (cs' := enc x25) (Put.here ((Enc.len _).trans (Enc.len _).symm)) (L' := (.blk b28 (enc x25) 209) :: (.blk b1 (enc (OverR.mk a0 s_a0_0 s_a0_1)) 124) :: L) rfl ?_
    refine Lst.nil ?_
    refine At.then ?_
    refine Cd.block ?_
    refine Cd.seq ?_
    refine Cd.region ?_
    refine Lst.run rfl rfl (by decide) (Ev.fieldAddr (off' := 0) rfl Try.runUnderlying209 rfl Try.sizeOf3 rfl rfl) ?_
    refine Lst.run rfl rfl (by decide) (Ev.load (i := 0) rfl rfl Try.isAgg3 (v := .int .i64 x25.From) ((Word.get_From (Get.here _)).off (by rfl))) ?_
    refine Lst.run rfl rfl (by decide) (Ev.move rfl) ?_
    refine Lst.run rfl rfl (by decide) (Ev.sub rfl rfl) ?_
    obtain ⟨r30, h31, H⟩ := bind_some H
    refine Lst.call1 rfl rfl (by decide) (vs := [.int .i64 x25.From, .int .i64 (0 : Int), .int .i64 (w64 ((a0.Hands.length : Int) - (1 : Int)))]) ⟨rfl, rfl, rfl, trivial⟩ Try.call165 (over_in_sim h31 w0 _ M _ (List.Sublist.cons _ (List.Sublist.cons _ hM))) ?_
    refine Lst.run rfl rfl (by decide) (Ev.not rfl) ?_
    refine Lst.run rfl rfl (by decide) (Ev.move rfl) ?_
    obtain ⟨o34, H, HKo34⟩ := bind_some H
    refine Lst.join (σ := Bool) 7 (fun y35 => [(3, .int .i64 (a0.Hands.length : Int)), (8, .pointer (some ⟨b28, 0, none⟩)), (36, Sl.v s_a0_1), (37, .int .i64 (a0.Way.length : Int)), (38, .int .i64 (i22 : Int)), (56, .bool y35)]) (fun y35 => (.blk b28 (enc x25) 209) :: (.blk b1 (enc (OverR.mk a0 s_a0_0 s_a0_1)) 124) :: L) (fun _ y35 => y35 = o34) ?_ ?_
    · rcases Bool.eq_false_or_eq_true (!r30) with hb36 | hb36
      · replace H := ite_t hb36 H
        refine Lst.skip rfl rfl rfl hb36 rfl (by decide) ?_
        refine Lst.skip rfl rfl rfl hb36 rfl (by decide) ?_
        refine Lst.skip rfl rfl rfl hb36 rfl (by decide) ?_
        refine Lst.skip rfl rfl rfl hb36 rfl (by decide) ?_
        refine Lst.skip rfl rfl rfl hb36 rfl (by decide) ?_
        refine Lst.skip rfl rfl rfl hb36 rfl (by decide) ?_
        refine Lst.run rfl rfl (by decide) (Ev.pickT rfl hb36 rfl) ?_
        refine Lst.nil ?_
        exact At.meet true (FLe.refl _) ⟨rfl, rfl, rfl, rfl, rfl, rfl, trivial⟩ rfl (some_inj H)
      replace H := ite_f hb36 H
      refine Lst.runG rfl rfl rfl hb36 rfl (by decide) (Ev.fieldAddr (off' := 1) rfl Try.runUnderlying209 rfl Try.sizeOf3 rfl rfl) ?_
      refine Lst.runG rfl rfl rfl hb36 rfl (by decide) (Ev.load (i := 0) rfl rfl Try.isAgg3 (v := .int .i64 x25.To) ((Word.get_To (Get.here _)).off (by rfl))) ?_
      refine Lst.runG rfl rfl rfl hb36 rfl (by decide) (Ev.move rfl) ?_
      refine Lst.runG rfl rfl rfl hb36 rfl (by decide) (Ev.sub rfl rfl) ?_
      obtain ⟨r37, h38, H⟩ := bind_some H
      refine Lst.call1G rfl rfl rfl hb36 rfl (by decide) (vs := [.int .i64 x25.To, .int .i64 (0 : Int), .int .i64 (w64 ((a0.Hands.length : Int) - (1 : Int)))]) ⟨rfl, rfl, rfl, trivial⟩ Try.call165 (over_in_sim h38 w0 _ M _ (List.Sublist.cons _ (List.Sublist.cons _ hM))) ?_
      refine Lst.runG rfl rfl rfl hb36 rfl (by decide) (Ev.not rfl) ?_
      refine Lst.run rfl rfl (by decide) (Ev.pickF rfl hb36 rfl) ?_
      refine Lst.nil ?_
      exact At.meet (!r37) (FLe.refl _) ⟨rfl, rfl, rfl, rfl, rfl, rfl, trivial⟩ rfl (some_inj H)
    rintro F41 y35 hF42 hy
    subst hy
    refine Lst.as (e' := [(3, .int .i64 (a0.Hands.length : Int)), (8, .pointer (some ⟨b28, 0, none⟩)), (36, Sl.v s_a0_1), (37, .int .i64 (a0.Way.length : Int)), (38, .int .i64 (i22 : Int)), (56, .bool y35)]) (L' := (.blk b28 (enc x25) 209) :: (.blk b1 (enc (OverR.mk a0 s_a0_0 s_a0_1)) 124) :: L) ⟨rfl, rfl, rfl, rfl, rfl, rfl, trivial⟩ rfl ?_
    replace H := HKo34
    refine Lst.run rfl rfl (by decide) (Ev.assign rfl) ?_
    refine Lst.nil ?_
    refine At.then ?_
    rcases Bool.eq_false_or_eq_true y35 with hb43 | hb43
    · replace H := ite_t hb43 H
      refine Cd.condT rfl hb43 ?_
      refine Cd.seq ?_
      refine Cd.region ?_
      refine Lst.run rfl rfl (by decide) (Ev.assign rfl) ?_
      refine Lst.nil ?_
      refine At.then ?_
      have H := hret22 _ (some_inj H).symm
      subst H
      replace H := HKl22
      obtain rfl := some_inj H
      refine Cd.ret ?_
      refine At.in_ret ?_
      refine At.in_ret ?_
      refine At.then_ret ?_
      refine At.then_ret ?_
      refine At.in_ret ?_
      refine At.then_ret ?_
      exact At.ret1 rfl (Res.tmp rfl) (FLe.trans (FLe.trans hF10 hF24) hF42) (List.Sublist.cons _ (List.Sublist.cons _ (List.Sublist.refl _))) ⟨rfl, rfl⟩
    replace H := ite_f hb43 H
    refine Cd.condF rfl hb43 ?_
    refine Cd.seq ?_
    refine Cd.region ?_
    refine Lst.run rfl rfl (by decide) (Ev.fieldAddr (off' := 0) rfl Try.runUnderlying209 rfl Try.sizeOf3 rfl rfl) ?_
    refine Lst.run rfl rfl (by decide) (Ev.load (i := 0) rfl rfl Try.isAgg3 (v := .int .i64 x25.From) ((Word.get_From (Get.here _)).off (by rfl))) ?_
    refine Lst.run rfl rfl (by decide) (Ev.fieldAddr (off' := 1) rfl Try.runUnderlying209 rfl Try.sizeOf3 rfl rfl) ?_
    refine Lst.run rfl rfl (by decide) (Ev.load (i := 0) rfl rfl Try.isAgg3 (v := .int .i64 x25.To) ((Word.get_To (Get.here _)).off (by rfl))) ?_
    refine Lst.run rfl rfl (by decide) (Ev.eql rfl rfl) ?_
    refine Lst.run rfl rfl (by decide) (Ev.move rfl) ?_
    obtain ⟨o44, H, HKo44⟩ := bind_some H
    refine Lst.join (σ := Bool) 5 (fun y45 => [(3, .int .i64 (a0.Hands.length : Int)), (36, Sl.v s_a0_1), (37, .int .i64 (a0.Way.length : Int)), (38, .int .i64 (i22 : Int)), (68, .bool y45)]) (fun y45 => (.blk b28 (enc x25) 209) :: (.blk b1 (enc (OverR.mk a0 s_a0_0 s_a0_1)) 124) :: L) (fun _ y45 => y45 = o44) ?_ ?_
    · rcases Bool.eq_false_or_eq_true (x25.From == x25.To) with hb46 | hb46
      · replace H := ite_t hb46 H
        refine Lst.skip rfl rfl rfl hb46 rfl (by decide) ?_
        refine Lst.skip rfl rfl rfl hb46 rfl (by decide) ?_
        refine Lst.skip rfl rfl rfl hb46 rfl (by decide) ?_
        refine Lst.skip rfl rfl rfl hb46 rfl (by decide) ?_
        refine Lst.run rfl rfl (by decide) (Ev.pickT rfl hb46 rfl) ?_
        refine Lst.nil ?_
        exact At.meet true (FLe.refl _) ⟨rfl, rfl, rfl, rfl, rfl, trivial⟩ rfl (some_inj H)
      replace H := ite_f hb46 H
      refine Lst.runG rfl rfl rfl hb46 rfl (by decide) (Ev.fieldAddr (off' := 2) rfl Try.runUnderlying209 rfl Try.sizeOf3 rfl rfl) ?_
      refine Lst.runG rfl rfl rfl hb46 rfl (by decide) (Ev.load (i := 0) rfl rfl Try.isAgg3 (v := .int .i64 x25.At) ((Word.get_At (Get.here _)).off (by rfl))) ?_
      obtain ⟨r47, h48, H⟩ := bind_some H
      refine Lst.call1G rfl rfl rfl hb46 rfl (by decide) (vs := [.int .i64 x25.At, .int .i64 (0 : Int), .int .i64 (1 : Int)]) ⟨rfl, rfl, rfl, trivial⟩ Try.call165 (over_in_sim h48 w0 _ M _ (List.Sublist.cons _ (List.Sublist.cons _ hM))) ?_
      refine Lst.runG rfl rfl rfl hb46 rfl (by decide) (Ev.not rfl) ?_
      refine Lst.run rfl rfl (by decide) (Ev.pickF rfl hb46 rfl) ?_
      refine Lst.nil ?_
      exact At.meet (!r47) (FLe.refl _) ⟨rfl, rfl, rfl, rfl, rfl, trivial⟩ rfl (some_inj H)
    rintro F51 y45 hF52 hy
    subst hy
    refine Lst.as (e' := [(3, .int .i64 (a0.Hands.length : Int)), (36, Sl.v s_a0_1), (37, .int .i64 (a0.Way.length : Int)), (38, .int .i64 (i22 : Int)), (68, .bool y45)]) (L' := (.blk b28 (enc x25) 209) :: (.blk b1 (enc (OverR.mk a0 s_a0_0 s_a0_1)) 124) :: L) ⟨rfl, rfl, rfl, rfl, rfl, trivial⟩ rfl ?_
    replace H := HKo44
    refine Lst.run rfl rfl (by decide) (Ev.assign rfl) ?_
    refine Lst.nil ?_
    refine At.then ?_
    rcases Bool.eq_false_or_eq_true y45 with hb53 | hb53
    · replace H := ite_t hb53 H
      refine Cd.condT rfl hb53 ?_
      refine Cd.seq ?_
      refine Cd.region ?_
      refine Lst.run rfl rfl (by decide) (Ev.assign rfl) ?_
      refine Lst.nil ?_
      refine At.then ?_
      have H := hret22 _ (some_inj H).symm
      subst H
      replace H := HKl22
      obtain rfl := some_inj H
      refine Cd.ret ?_
      refine At.in_ret ?_
      refine At.in_ret ?_
      refine At.then_ret ?_
      refine At.then_ret ?_
      refine At.in_ret ?_
      refine At.then_ret ?_
      exact At.ret1 rfl (Res.tmp rfl) (FLe.trans (FLe.trans (FLe.trans hF10 hF24) hF42) hF52) (List.Sublist.cons _ (List.Sublist.cons _ (List.Sublist.refl _))) ⟨rfl, rfl⟩
    replace H := ite_f hb53 H
    refine Cd.condF rfl hb53 ?_
    refine Cd.skip ?_
    refine At.in_normal ?_
    refine At.in_normal ?_
    refine At.then ?_
    refine Cd.region ?_
    refine Lst.run rfl rfl (by decide) (Ev.incr (by omega) rfl rfl) ?_
    refine Lst.run rfl rfl (by decide) (Ev.move rfl) ?_
    refine Lst.nil ?_
    refine At.less (L' := (.blk b1 (enc (OverR.mk a0 s_a0_0 s_a0_1)) 124) :: L) (List.Sublist.cons _ (List.Sublist.cons_cons _ (List.Sublist.refl _))) ?_
    exact At.meet (i22 + 1, k22, ()) (FLe.trans (FLe.trans hF24 hF42) hF52) ⟨rfl, rfl, rfl, rfl, trivial⟩ rfl ⟨⟨hgo22 _ (some_inj H).symm, by omega⟩, Nat.lt_succ_self _⟩
  have hc8 : decide ((i8 : Int) < (a0.Hands.length : Int)) = true := decide_eq_true (by omega)
  obtain ⟨c8, H, hgo8, hbrk8, hret8⟩ := rangeM_go H
  unfold over_Check_B0 at H
  try dsimp only at H
  refine Cd.seq ?_
  refine Cd.region ?_
  refine Lst.run rfl rfl (by decide) (Ev.lss rfl rfl) ?_
  refine Lst.nil ?_
  refine At.then ?_
  refine Cd.seq ?_
  refine Cd.condT rfl hc8 ?_
  refine Cd.skip ?_
  refine At.then ?_
  refine Cd.seq ?_
  refine Cd.block ?_
  refine Cd.seq ?_
  refine Cd.region ?_
  refine Lst.run rfl rfl (by decide) (Ev.move rfl) ?_
  obtain ⟨x11, h12, H⟩ := bind_some H
  have g13 := lat_some h12
  refine Lst.run rfl rfl (by decide) (Ev.indexS (α := Hand) (xs := a0.Hands) rfl rfl Try.runUnderlying122 Try.sizeOf135 rfl (by decide) (hs_a0_0.mono hF10 (List.Sublist.cons _ hM)) g13.1 g13.2.1) ?_
  refine Lst.run rfl rfl (by decide) (Ev.loadSA (α := Hand) rfl (hs_a0_0.mono hF10 (List.Sublist.cons _ hM)) Try.isAgg135 Try.sizeOf135 (ch := enc x11) (Enc.len _) (by decide) ((Get.elemN (s := 3) (x := x11) rfl g13.2.2 (Get.here _)).off (by omega))) ?_
  refine Lst.alloc (cs := enc Hand.zero) rfl rfl (by decide) Try.zeroValue135 rfl (fun b14 => ?_)
  refine Lst.run rfl rfl (by decide) (Ev.assign rfl) ?_
  refine Lst.store (i := 0) rfl rfl rfl rfl rfl Try.sizeOf135 (vs := enc x11) rfl (Enc.len _) (Enc.one _) (cs' := enc x11) (Put.here ((Enc.len _).trans (Enc.len _).symm)) (L' := (.blk b14 (enc x11) 135) :: (.blk b1 (enc (OverR.mk a0 s_a0_0 s_a0_1)) 124) :: L) rfl ?_
  refine Lst.nil ?_
  refine At.then ?_
  refine Cd.seq ?_
  refine Cd.region ?_
  refine Lst.run rfl rfl (by decide) (Ev.loadA (i := 0) rfl rfl Try.isAgg135 Try.sizeOf135 (ch := enc x11) (Enc.len _) (Get.here _)) ?_
  refine Lst.run rfl rfl (by decide) (Ev.move rfl) ?_
  refine Lst.run rfl rfl (by decide) (Ev.move rfl) ?_
  obtain ⟨r16, h17, H⟩ := bind_some H
  refine Lst.call1 rfl rfl (by decide) (vs := [.agg (enc x11).toArray, .int .i64 (i8 : Int), .int .i64 (a0.Hands.length : Int)]) ⟨rfl, rfl, rfl, trivial⟩ Try.call170 (over_hand_sim h17 w0 _ M _ (List.Sublist.cons _ (List.Sublist.cons _ hM))) ?_
  refine Lst.run rfl rfl (by decide) (Ev.assign rfl) ?_
  refine Lst.nil ?_
  refine At.then ?_
  refine Cd.seq ?_
  refine Cd.region ?_
  refine Lst.run rfl rfl (by decide) (Ev.move rfl) ?_
  refine Lst.run rfl rfl (by decide) (Ev.neq rfl rfl) ?_
  refine Lst.nil ?_
  refine At.then ?_
  rcases Bool.eq_false_or_eq_true (r16 != (0 : Int)) with hb20 | hb20
  · replace H := ite_t hb20 H
    refine Cd.condT rfl hb20 ?_
    refine Cd.seq ?_
    refine Cd.as (e' := [(6, .int .i64 r16)]) (L' := (.blk b14 (enc x11) 135) :: (.blk b1 (enc (OverR.mk a0 s_a0_0 s_a0_1)) 124) :: L) ⟨rfl, trivial⟩ rfl ?_
    refine Cd.region ?_
    refine Lst.run rfl rfl (by decide) (Ev.move rfl) ?_
    refine Lst.run rfl rfl (by decide) (Ev.assign rfl) ?_
    refine Lst.nil ?_
    refine At.then ?_
    have H := hret8 _ (some_inj H).symm
    subst H
    replace H := HKl8
    obtain rfl := some_inj H
    refine Cd.ret ?_
    refine At.in_ret ?_
    refine At.then_ret ?_
    refine At.then_ret ?_
    refine At.in_ret ?_
    refine At.then_ret ?_
    exact At.ret1 rfl (Res.tmp rfl) hF10 (List.Sublist.cons _ (List.Sublist.cons _ (List.Sublist.refl _))) ⟨rfl, rfl⟩
  replace H := ite_f hb20 H
  refine Cd.condF rfl hb20 ?_
  refine Cd.skip ?_
  refine At.in_normal ?_
  refine At.then ?_
  refine Cd.region ?_
  refine Lst.run rfl rfl (by decide) (Ev.incr (by omega) rfl rfl) ?_
  refine Lst.run rfl rfl (by decide) (Ev.move rfl) ?_
  refine Lst.nil ?_
  refine At.less (L' := (.blk b1 (enc (OverR.mk a0 s_a0_0 s_a0_1)) 124) :: L) (List.Sublist.cons _ (List.Sublist.cons_cons _ (List.Sublist.refl _))) ?_
  exact At.meet (i8 + 1, k8, ()) hF10 ⟨rfl, rfl, rfl, rfl, rfl, trivial⟩ rfl ⟨⟨hgo8 _ (some_inj H).symm, by omega⟩, Nat.lt_succ_self _⟩
set_option maxRecDepth 20000 in
theorem slices_Clone_api_Hand_api_Hand_sim {a0 : List Hand} {s_a0 : Sl} {r : (List Hand)} (H : slices_Clone_api_Hand_api_Hand a0 = some r) (w0 : World) (F : Frz) (M L : List Item) (hM : M.Sublist L) (hs_a0 : Rd w0 F M s_a0 a0) : Ok Try.prog w0 171 [Sl.v s_a0] F (L) (fun _ L' v => ∃ (s10 : Sl), v = Sl.v s10 ∧ L' = (.own s10 135 3 (encs r)) :: L) := by
  unfold slices_Clone_api_Hand_api_Hand at H
  refine Ok.enter (m := 1) (n := 8) Try.func171 rfl rfl rfl (by decide) ?_
  refine Cd.env (e' := [(0, Sl.v s_a0)]) rfl ?_
  refine Cd.seq ?_
  refine Cd.region ?_
  refine Lst.addNil 135 3 ?_
  refine Lst.run rfl rfl (by decide) (Ev.assign rfl) ?_
  refine Lst.nil ?_
  refine At.then ?_
  refine Cd.seq ?_
  refine Cd.seq ?_
  refine Cd.region ?_
  refine Lst.run rfl rfl (by decide) (Ev.move rfl) ?_
  refine Lst.run rfl rfl (by decide) (Ev.eqlNil rfl Try.runUnderlying122) ?_
  refine Lst.nil ?_
  refine At.then ?_
  rcases Bool.eq_false_or_eq_true ((Sl.a s_a0).isNone) with hb2 | hb2
  · refine Cd.bound (Rd.isNil (α := Hand) (by decide) (hs_a0.mono (FLe.refl _) (List.Sublist.cons _ hM)) hb2) (fun hx9 => ?_)
    rw [clone_nil hx9] at H
    refine Cd.condT rfl hb2 ?_
    refine Cd.seq ?_
    refine Cd.region ?_
    refine Lst.addNil 135 3 ?_
    refine Lst.run rfl rfl (by decide) (Ev.assign rfl) ?_
    refine Lst.nil ?_
    refine At.then ?_
    obtain rfl := some_inj H
    refine Cd.ret ?_
    refine At.then_ret ?_
    exact At.ret1 rfl (Res.tmp rfl) (FLe.refl _) (List.Sublist.cons_cons _ (List.Sublist.cons _ (List.Sublist.refl _))) ⟨Sl.nil, rfl, rfl⟩
  refine Cd.condF rfl hb2 ?_
  refine Cd.skip ?_
  refine At.then ?_
  refine Cd.seq ?_
  refine Cd.region ?_
  refine Lst.buildSlice0 rfl rfl (by decide) Try.runUnderlying122 Try.sizeOf135 (fun s3 => ?_)
  refine Lst.its (L' := (.own s3 135 3 (encs ([] : List Hand))) :: (.own Sl.nil 135 3 (encs ([] : List Hand))) :: L) rfl ?_
  refine Lst.run rfl rfl (by decide) (Ev.move rfl) ?_
  obtain ⟨u5, h6, H⟩ := bind_some H
  refine Lst.append (i := 0) (α := Hand) (xs := ([] : List Hand)) (ys := a0) rfl rfl (by decide) rfl rfl Try.runUnderlying122 Try.typeInfo135 rfl rfl rfl rfl rfl rfl (hs_a0.mono (FLe.refl _) (List.Sublist.cons _ (List.Sublist.cons _ hM))) rfl (room_some h6) rfl (fun s7 => ?_)
  refine Lst.its (L' := (.own s7 135 3 (encs (([] : List Hand) ++ a0))) :: (.own Sl.nil 135 3 (encs ([] : List Hand))) :: L) rfl ?_
  refine Lst.run rfl rfl (by decide) (Ev.assign rfl) ?_
  refine Lst.nil ?_
  refine At.then ?_
  obtain rfl := some_inj H
  refine Cd.ret ?_
  exact At.ret1 rfl (Res.tmp rfl) (FLe.refl _) (List.Sublist.cons_cons _ (List.Sublist.cons _ (List.Sublist.refl _))) ⟨s7, rfl, rfl⟩
set_option maxRecDepth 20000 in
theorem slices_Clone_api_Word_api_Word_sim {a0 : List Word} {s_a0 : Sl} {r : (List Word)} (H : slices_Clone_api_Word_api_Word a0 = some r) (w0 : World) (F : Frz) (M L : List Item) (hM : M.Sublist L) (hs_a0 : Rd w0 F M s_a0 a0) : Ok Try.prog w0 173 [Sl.v s_a0] F (L) (fun _ L' v => ∃ (s10 : Sl), v = Sl.v s10 ∧ L' = (.own s10 209 3 (encs r)) :: L) := by
  unfold slices_Clone_api_Word_api_Word at H
  refine Ok.enter (m := 1) (n := 8) Try.func173 rfl rfl rfl (by decide) ?_
  refine Cd.env (e' := [(0, Sl.v s_a0)]) rfl ?_
  refine Cd.seq ?_
  refine Cd.region ?_
  refine Lst.addNil 209 3 ?_
  refine Lst.run rfl rfl (by decide) (Ev.assign rfl) ?_
  refine Lst.nil ?_
  refine At.then ?_
  refine Cd.seq ?_
  refine Cd.seq ?_
  refine Cd.region ?_
  refine Lst.run rfl rfl (by decide) (Ev.move rfl) ?_
  refine Lst.run rfl rfl (by decide) (Ev.eqlNil rfl Try.runUnderlying112) ?_
  refine Lst.nil ?_
  refine At.then ?_
  rcases Bool.eq_false_or_eq_true ((Sl.a s_a0).isNone) with hb2 | hb2
  · refine Cd.bound (Rd.isNil (α := Word) (by decide) (hs_a0.mono (FLe.refl _) (List.Sublist.cons _ hM)) hb2) (fun hx9 => ?_)
    rw [clone_nil hx9] at H
    refine Cd.condT rfl hb2 ?_
    refine Cd.seq ?_
    refine Cd.region ?_
    refine Lst.addNil 209 3 ?_
    refine Lst.run rfl rfl (by decide) (Ev.assign rfl) ?_
    refine Lst.nil ?_
    refine At.then ?_
    obtain rfl := some_inj H
    refine Cd.ret ?_
    refine At.then_ret ?_
    exact At.ret1 rfl (Res.tmp rfl) (FLe.refl _) (List.Sublist.cons_cons _ (List.Sublist.cons _ (List.Sublist.refl _))) ⟨Sl.nil, rfl, rfl⟩
  refine Cd.condF rfl hb2 ?_
  refine Cd.skip ?_
  refine At.then ?_
  refine Cd.seq ?_
  refine Cd.region ?_
  refine Lst.buildSlice0 rfl rfl (by decide) Try.runUnderlying112 Try.sizeOf209 (fun s3 => ?_)
  refine Lst.its (L' := (.own s3 209 3 (encs ([] : List Word))) :: (.own Sl.nil 209 3 (encs ([] : List Word))) :: L) rfl ?_
  refine Lst.run rfl rfl (by decide) (Ev.move rfl) ?_
  obtain ⟨u5, h6, H⟩ := bind_some H
  refine Lst.append (i := 0) (α := Word) (xs := ([] : List Word)) (ys := a0) rfl rfl (by decide) rfl rfl Try.runUnderlying112 Try.typeInfo209 rfl rfl rfl rfl rfl rfl (hs_a0.mono (FLe.refl _) (List.Sublist.cons _ (List.Sublist.cons _ hM))) rfl (room_some h6) rfl (fun s7 => ?_)
  refine Lst.its (L' := (.own s7 209 3 (encs (([] : List Word) ++ a0))) :: (.own Sl.nil 209 3 (encs ([] : List Word))) :: L) rfl ?_
  refine Lst.run rfl rfl (by decide) (Ev.assign rfl) ?_
  refine Lst.nil ?_
  refine At.then ?_
  obtain rfl := some_inj H
  refine Cd.ret ?_
  exact At.ret1 rfl (Res.tmp rfl) (FLe.refl _) (List.Sublist.cons_cons _ (List.Sublist.cons _ (List.Sublist.refl _))) ⟨s7, rfl, rfl⟩
set_option maxRecDepth 20000 in
theorem over_clone_sim {a0 : Over} {s_a0_0 : Sl} {s_a0_1 : Sl} {r : Over} (H : over_clone a0 = some r) (w0 : World) (F : Frz) (M L : List Item) (hM : M.Sublist L) (hs_a0_0 : Rd w0 F M s_a0_0 a0.Hands) (hs_a0_1 : Rd w0 F M s_a0_1 a0.Way) : Ok Try.prog w0 166 [.agg (enc (OverR.mk a0 s_a0_0 s_a0_1)).toArray] F (L) (fun _ L' v => ∃ (s32 : Sl) (s34 : Sl), v = .agg (enc (OverR.mk r s32 s34)).toArray ∧ L' = (.own s32 135 3 (encs r.Hands)) :: (.own s34 209 3 (encs r.Way)) :: L) := by
  unfold over_clone at H
  refine Ok.enter (m := 1) (n := 10) Try.func166 rfl rfl rfl (by decide) ?_
  refine Cd.env (e' := [(0, .agg (enc (OverR.mk a0 s_a0_0 s_a0_1)).toArray)]) rfl ?_
  refine Cd.seq ?_
  refine Cd.region ?_
  refine Lst.box rfl rfl (by decide) rfl (cs := enc (OverR.mk a0 s_a0_0 s_a0_1)) rfl (fun b1 => ?_)
  refine Lst.addNil 135 3 ?_
  refine Lst.addNil 209 3 ?_
  refine Lst.alloc (cs := enc (OverR.mk ({ Over.zero with Hands := ([] : List Hand), Way := ([] : List Word) } : Over) Sl.nil Sl.nil)) rfl rfl (by decide) Try.zeroValue124 rfl (fun b5 => ?_)
  refine Lst.nil ?_
  refine At.then ?_
  refine Cd.seq ?_
  obtain ⟨r7, h8, H⟩ := bind_some H
  obtain ⟨o19, h20, H⟩ := Let_some H
  refine Cd.headMeet (σ := Sl × (List Word) × Sl × (List Hand)) 5 (fun (s14, l15, s17, l18) => [(2, .pointer (some ⟨b5, 0, none⟩)), (5, Sl.v s17), (7, Sl.v s14)]) (fun (s14, l15, s17, l18) => (.own s17 135 3 (encs l18)) :: (.blk b5 (enc (OverR.mk ({ Over.zero with Hands := ([] : List Hand), Way := ([] : List Word) } : Over) Sl.nil Sl.nil)) 124) :: (.own Sl.nil 209 3 (encs ([] : List Word))) :: (.own Sl.nil 135 3 (encs ([] : List Hand))) :: (.blk b1 (enc (OverR.mk a0 s_a0_0 s_a0_1)) 124) :: L) (fun Fx (s14, l15, s17, l18) => (l15, l18) = o19 ∧ Rd w0 Fx M s14 l15) (by kernel_rfl) (by kernel_rfl) (behind_sink (by kernel_rfl) (by kernel_rfl) (by kernel_rfl)) (by kernel_rfl) (fun hsel hlt => ?_) ?_
  · refine HdJ.keep (fun w => St w0 F ((.blk b5 (enc (OverR.mk ({ Over.zero with Hands := ([] : List Hand), Way := ([] : List Word) } : Over) Sl.nil Sl.nil)) 124) :: (.own Sl.nil 209 3 (encs ([] : List Word))) :: (.own Sl.nil 135 3 (encs ([] : List Hand))) :: (.blk b1 (enc (OverR.mk a0 s_a0_0 s_a0_1)) 124) :: L) w) (fun w h => trivial) ?_
    refine HdJ.takeK hsel hlt 0 (fun w h => h.sublist (List.Sublist.cons_cons _ (List.Sublist.cons_cons _ (List.Sublist.cons_cons _ (List.Sublist.cons_cons _ (List.Sublist.refl _)))))) rfl rfl (by decide) (by decide) (by kernel_rfl) (by kernel_rfl) rfl (Ev.fieldAddr (off' := 0) rfl Try.runUnderlying124 rfl Try.sizeOf122 rfl rfl) ?_
    refine HdJ.takeK hsel hlt 1 (fun w h => h.sublist (List.Sublist.cons_cons _ (List.Sublist.cons_cons _ (List.Sublist.cons_cons _ (List.Sublist.cons_cons _ (List.Sublist.refl _)))))) rfl rfl (by decide) (by decide) (by kernel_rfl) (by kernel_rfl) rfl (Ev.load (i := 3) rfl rfl Try.isAgg122 (v := Sl.v s_a0_0) ((OverR.get_Hands (Get.here _)).off (by rfl))) ?_
    refine HdJ.takeK hsel hlt 3 (fun w h => h.sublist (List.Sublist.cons_cons _ (List.Sublist.cons_cons _ (List.Sublist.cons_cons _ (List.Sublist.cons_cons _ (List.Sublist.refl _)))))) rfl rfl (by decide) (by decide) (by kernel_rfl) (by kernel_rfl) rfl (Ev.fieldAddr (off' := 1) rfl Try.runUnderlying124 rfl Try.sizeOf112 rfl rfl) ?_
    refine HdJ.takeK hsel hlt 4 (fun w h => h.sublist (List.Sublist.cons_cons _ (List.Sublist.cons_cons _ (List.Sublist.cons_cons _ (List.Sublist.cons_cons _ (List.Sublist.refl _)))))) rfl rfl (by decide) (by decide) (by kernel_rfl) (by kernel_rfl) rfl (Ev.load (i := 3) rfl rfl Try.isAgg112 (v := Sl.v s_a0_1) ((OverR.get_Way (Get.here _)).off (by rfl))) ?_
    refine HdJ.step [2] (by kernel_rfl) rfl ?_
    refine HdStep.cons (by decide) rfl (fun inv => ?_) ?_
    · refine Lst.call rfl rfl (by decide) (vs := [Sl.v s_a0_0]) ⟨rfl, trivial⟩ Try.call171 (slices_Clone_api_Hand_api_Hand_sim h8 w0 _ M _ (List.Sublist.cons _ (List.Sublist.cons _ (List.Sublist.cons _ (List.Sublist.cons _ hM)))) (hs_a0_0.mono (FLe.refl _) (List.Sublist.refl _))) (fun F22 L' v hF23 hv => ?_)
      obtain ⟨s21, rfl, rfl⟩ := hv
      refine Lst.nil ?_
      refine At.hd inv (fun w h => (h.weaken hF23).sublist (List.Sublist.cons _ (List.Sublist.cons_cons _ (List.Sublist.cons_cons _ (List.Sublist.cons_cons _ (List.Sublist.cons_cons _ (List.Sublist.refl _))))))) ?_
      refine HdJ.done (by kernel_rfl) ?_
      exact At.meetN (s_a0_1, a0.Way, s21, r7) hF23 ⟨rfl, rfl, rfl, trivial⟩ rfl ⟨h20, (hs_a0_1.mono hF23 (List.Sublist.refl _))⟩
    exact trivial
  rintro F24 ⟨s14, l15, s17, l18⟩ hF25 ⟨hy, f16⟩
  subst hy
  refine Lst.as (e' := [(2, .pointer (some ⟨b5, 0, none⟩)), (5, Sl.v s17), (7, Sl.v s14)]) (L' := (.own s17 135 3 (encs l18)) :: (.blk b5 (enc (OverR.mk ({ Over.zero with Hands := ([] : List Hand), Way := ([] : List Word) } : Over) Sl.nil Sl.nil)) 124) :: (.own Sl.nil 209 3 (encs ([] : List Word))) :: (.own Sl.nil 135 3 (encs ([] : List Hand))) :: (.blk b1 (enc (OverR.mk a0 s_a0_0 s_a0_1)) 124) :: L) ⟨rfl, rfl, rfl, trivial⟩ rfl ?_
  obtain ⟨r26, h27, H⟩ := bind_some H
  refine Lst.call rfl rfl (by decide) (vs := [Sl.v s14]) ⟨rfl, trivial⟩ Try.call173 (slices_Clone_api_Word_api_Word_sim h27 w0 _ M _ (List.Sublist.cons _ (List.Sublist.cons _ (List.Sublist.cons _ (List.Sublist.cons _ (List.Sublist.cons _ hM))))) (f16.mono (FLe.refl _) (List.Sublist.refl _))) (fun F30 L' v hF31 hv => ?_)
  obtain ⟨s28, rfl, rfl⟩ := hv
  refine Lst.run rfl rfl (by decide) (Ev.build (v := .agg (enc (OverR.mk ({ Over.zero with Hands := l18, Way := r26 } : Over) s17 s28)).toArray) (pv := [(0, Sl.v s17), (1, Sl.v s28)]) ⟨rfl, rfl, ⟨rfl, rfl, trivial⟩⟩ (run_buildStruct (places := #[(0, 1), (1, 1)]) Try.zeroValue124 (zs := enc (OverR.mk Over.zero Sl.nil Sl.nil)) rfl Try.runUnderlying124 (fun w => by kernel_rfl) (fill_cons (cs := enc (OverR.mk Over.zero Sl.nil Sl.nil)) (cs' := enc (OverR.mk ({ Over.zero with Hands := l18 } : Over) s17 Sl.nil)) (vs := [Sl.v s17]) rfl rfl rfl ((OverR.put_Hands (p := (OverR.mk Over.zero Sl.nil Sl.nil)) (y := s17) (Put.here (vs := [Sl.v s17]) rfl)).off rfl) (fill_cons (cs := enc (OverR.mk ({ Over.zero with Hands := l18 } : Over) s17 Sl.nil)) (cs' := enc (OverR.mk ({ Over.zero with Hands := l18, Way := r26 } : Over) s17 s28)) (vs := [Sl.v s28]) rfl rfl rfl ((OverR.put_Way (p := (OverR.mk ({ Over.zero with Hands := l18 } : Over) s17 Sl.nil)) (y := s28) (Put.here (vs := [Sl.v s28]) rfl)).off rfl) fill_nil)))) ?_
  refine Lst.store (i := 2) rfl rfl rfl rfl rfl Try.sizeOf124 (vs := enc (OverR.mk ({ Over.zero with Hands := l18, Way := r26 } : Over) s17 s28)) rfl (Enc.len _) (Enc.one _) (cs' := enc (OverR.mk ({ Over.zero with Hands := l18, Way := r26 } : Over) s17 s28)) (Put.here ((Enc.len _).trans (Enc.len _).symm)) (L' := (.own s28 209 3 (encs r26)) :: (.own s17 135 3 (encs l18)) :: (.blk b5 (enc (OverR.mk ({ Over.zero with Hands := l18, Way := r26 } : Over) s17 s28)) 124) :: (.own Sl.nil 209 3 (encs ([] : List Word))) :: (.own Sl.nil 135 3 (encs ([] : List Hand))) :: (.blk b1 (enc (OverR.mk a0 s_a0_0 s_a0_1)) 124) :: L) rfl ?_
  refine Lst.nil ?_
  refine At.then ?_
  obtain rfl := some_inj H
  refine Cd.ret ?_
  refine At.front (i := 1) rfl rfl ?_
  exact At.ret1 rfl (Res.cellA (i := 2) rfl rfl Try.isAgg124 Try.sizeOf124 (Enc.len _)) (FLe.trans hF25 hF31) (List.Sublist.cons_cons _ (List.Sublist.cons_cons _ (List.Sublist.cons _ (List.Sublist.cons _ (List.Sublist.cons _ (List.Sublist.cons _ (List.Sublist.refl _))))))) ⟨s17, s28, rfl, rfl⟩
set_option maxRecDepth 20000 in
theorem over_Give_sim {a0 : Over} {a1 : Int} {a2 : Int} {s_a0_0 : Sl} {s_a0_1 : Sl} {r : Over × Int} (H : over_Give a0 a1 a2 = some r) (w0 : World) (F : Frz) (M L : List Item) (hM : M.Sublist L) (hs_a0_0 : Rd w0 F M s_a0_0 a0.Hands) (hs_a0_1 : Rd w0 F M s_a0_1 a0.Way) : Ok Try.prog w0 75 [.agg (enc (OverR.mk a0 s_a0_0 s_a0_1)).toArray, .int .i64 a1, .int .i64 a2] F (L) (fun _ L' v => ∃ (s69 : Sl) (s71 : Sl), v = .tuple #[.agg (enc (OverR.mk r.1 s69 s71)).toArray, .int .i64 r.2] ∧ L' = (.own s69 135 3 (encs r.1.Hands)) :: (.own s71 209 3 (encs r.1.Way)) :: L) := by
  unfold over_Give at H
  refine Ok.enter (m := 3) (n := 83) Try.func75 rfl rfl rfl (by decide) ?_
  refine Cd.env (e' := [(0, .agg (enc (OverR.mk a0 s_a0_0 s_a0_1)).toArray), (1, .int .i64 a1), (2, .int .i64 a2)]) rfl ?_
  refine Cd.seq ?_
  refine Cd.region ?_
  refine Lst.box rfl rfl (by decide) rfl (cs := enc (OverR.mk a0 s_a0_0 s_a0_1)) rfl (fun b1 => ?_)
  refine Lst.addNil 135 3 ?_
  refine Lst.addNil 209 3 ?_
  refine Lst.alloc (cs := enc (OverR.mk ({ Over.zero with Hands := ([] : List Hand), Way := ([] : List Word) } : Over) Sl.nil Sl.nil)) rfl rfl (by decide) Try.zeroValue124 rfl (fun b5 => ?_)
  refine Lst.run rfl rfl (by decide) (Ev.assign rfl) ?_
  refine Lst.nil ?_
  refine At.then ?_
  refine Cd.seq ?_
  refine Cd.seq ?_
  refine Cd.region ?_
  refine Lst.run rfl rfl (by decide) (Ev.loadA (i := 3) rfl rfl Try.isAgg124 Try.sizeOf124 (ch := enc (OverR.mk a0 s_a0_0 s_a0_1)) (Enc.len _) (Get.here _)) ?_
  obtain ⟨r7, h8, H⟩ := bind_some H
  refine Lst.call1 rfl rfl (by decide) (vs := [.agg (enc (OverR.mk a0 s_a0_0 s_a0_1)).toArray]) ⟨rfl, trivial⟩ Try.call81 (over_Check_sim h8 w0 _ M _ (List.Sublist.cons _ (List.Sublist.cons _ (List.Sublist.cons _ (List.Sublist.cons _ hM)))) (hs_a0_0.mono (FLe.refl _) (List.Sublist.refl _)) (hs_a0_1.mono (FLe.refl _) (List.Sublist.refl _))) ?_
  refine Lst.run rfl rfl (by decide) (Ev.assign rfl) ?_
  refine Lst.nil ?_
  refine At.then ?_
  refine Cd.seq ?_
  refine Cd.region ?_
  refine Lst.run rfl rfl (by decide) (Ev.move rfl) ?_
  refine Lst.run rfl rfl (by decide) (Ev.neq rfl rfl) ?_
  refine Lst.nil ?_
  refine At.then ?_
  rcases Bool.eq_false_or_eq_true (r7 != (0 : Int)) with hb11 | hb11
  · replace H := ite_t hb11 H
    refine Cd.condT rfl hb11 ?_
    refine Cd.seq ?_
    refine Cd.region ?_
    refine Lst.run rfl rfl (by decide) (Ev.build (v := .agg (enc (OverR.mk Over.zero Sl.nil Sl.nil)).toArray) (pv := []) trivial (fun w => by kernel_rfl)) ?_
    refine Lst.run rfl rfl (by decide) (Ev.move rfl) ?_
    refine Lst.store (i := 0) rfl rfl rfl rfl rfl Try.sizeOf124 (vs := enc (OverR.mk Over.zero Sl.nil Sl.nil)) rfl (Enc.len _) (Enc.one _) (cs' := enc (OverR.mk Over.zero Sl.nil Sl.nil)) (Put.here ((Enc.len _).trans (Enc.len _).symm)) (L' := (.blk b5 (enc (OverR.mk Over.zero Sl.nil Sl.nil)) 124) :: (.own Sl.nil 209 3 (encs ([] : List Word))) :: (.own Sl.nil 135 3 (encs ([] : List Hand))) :: (.blk b1 (enc (OverR.mk a0 s_a0_0 s_a0_1)) 124) :: L) rfl ?_
    refine Lst.run rfl rfl (by decide) (Ev.assign rfl) ?_
    refine Lst.nil ?_
    refine At.then ?_
    obtain rfl := some_inj H
    refine Cd.ret ?_
    refine At.then_ret ?_
    refine At.addNil 135 3 ?_
    refine At.addNil 209 3 ?_
    refine At.front (i := 1) rfl rfl ?_
    exact At.ret2 rfl (Res.cellA (i := 2) rfl rfl Try.isAgg124 Try.sizeOf124 (Enc.len _)) (Res.tmp rfl) (FLe.refl _) (List.Sublist.cons_cons _ (List.Sublist.cons_cons _ (List.Sublist.cons _ (List.Sublist.cons _ (List.Sublist.cons _ (List.Sublist.cons _ (List.Sublist.refl _))))))) ⟨Sl.nil, Sl.nil, rfl, rfl⟩
  replace H := ite_f hb11 H
  refine Cd.condF rfl hb11 ?_
  refine Cd.skip ?_
  refine At.then ?_
  refine Cd.seq ?_
  refine Cd.region ?_
  refine Lst.run rfl rfl (by decide) (Ev.fieldAddr (off' := 0) rfl Try.runUnderlying124 rfl Try.sizeOf122 rfl rfl) ?_
  refine Lst.run rfl rfl (by decide) (Ev.load (i := 3) rfl rfl Try.isAgg122 (v := Sl.v s_a0_0) ((OverR.get_Hands (Get.here _)).off (by rfl))) ?_
  refine Lst.run rfl rfl (by decide) (Ev.lenS (α := Hand) (xs := a0.Hands) (by decide) rfl rfl Try.runUnderlying122 (hs_a0_0.mono (FLe.refl _) (List.Sublist.cons _ (List.Sublist.cons _ (List.Sublist.cons _ (List.Sublist.cons _ hM)))))) ?_
  refine Lst.run rfl rfl (by decide) (Ev.assign rfl) ?_
  refine Lst.nil ?_
  refine At.then ?_
  refine Cd.seq ?_
  refine Cd.block ?_
  refine Cd.seq ?_
  refine Cd.region ?_
  refine Lst.run rfl rfl (by decide) (Ev.move rfl) ?_
  refine Lst.run rfl rfl (by decide) (Ev.move rfl) ?_
  refine Lst.run rfl rfl (by decide) (Ev.sub rfl rfl) ?_
  obtain ⟨r14, h15, H⟩ := bind_some H
  refine Lst.call1 rfl rfl (by decide) (vs := [.int .i64 a1, .int .i64 (0 : Int), .int .i64 (w64 ((a0.Hands.length : Int) - (1 : Int)))]) ⟨rfl, rfl, rfl, trivial⟩ Try.call165 (over_in_sim h15 w0 _ M _ (List.Sublist.cons _ (List.Sublist.cons _ (List.Sublist.cons _ (List.Sublist.cons _ hM))))) ?_
  refine Lst.run rfl rfl (by decide) (Ev.not rfl) ?_
  refine Lst.run rfl rfl (by decide) (Ev.move rfl) ?_
  obtain ⟨o18, H, HKo18⟩ := bind_some H
  refine Lst.join (σ := Bool) 6 (fun y19 => [(1, .int .i64 a1), (2, .int .i64 a2), (3, .pointer (some ⟨b1, 0, none⟩)), (6, .pointer (some ⟨b5, 0, none⟩)), (32, .bool y19)]) (fun y19 => (.blk b5 (enc (OverR.mk ({ Over.zero with Hands := ([] : List Hand), Way := ([] : List Word) } : Over) Sl.nil Sl.nil)) 124) :: (.own Sl.nil 209 3 (encs ([] : List Word))) :: (.own Sl.nil 135 3 (encs ([] : List Hand))) :: (.blk b1 (enc (OverR.mk a0 s_a0_0 s_a0_1)) 124) :: L) (fun _ y19 => y19 = o18) ?_ ?_
  · rcases Bool.eq_false_or_eq_true (!r14) with hb20 | hb20
    · replace H := ite_t hb20 H
      refine Lst.skip rfl rfl rfl hb20 rfl (by decide) ?_
      refine Lst.skip rfl rfl rfl hb20 rfl (by decide) ?_
      refine Lst.skip rfl rfl rfl hb20 rfl (by decide) ?_
      refine Lst.skip rfl rfl rfl hb20 rfl (by decide) ?_
      refine Lst.skip rfl rfl rfl hb20 rfl (by decide) ?_
      refine Lst.run rfl rfl (by decide) (Ev.pickT rfl hb20 rfl) ?_
      refine Lst.nil ?_
      exact At.meet true (FLe.refl _) ⟨rfl, rfl, rfl, rfl, rfl, trivial⟩ rfl (some_inj H)
    replace H := ite_f hb20 H
    refine Lst.runG rfl rfl rfl hb20 rfl (by decide) (Ev.move rfl) ?_
    refine Lst.runG rfl rfl rfl hb20 rfl (by decide) (Ev.move rfl) ?_
    refine Lst.runG rfl rfl rfl hb20 rfl (by decide) (Ev.sub rfl rfl) ?_
    obtain ⟨r21, h22, H⟩ := bind_some H
    refine Lst.call1G rfl rfl rfl hb20 rfl (by decide) (vs := [.int .i64 a2, .int .i64 (0 : Int), .int .i64 (w64 ((a0.Hands.length : Int) - (1 : Int)))]) ⟨rfl, rfl, rfl, trivial⟩ Try.call165 (over_in_sim h22 w0 _ M _ (List.Sublist.cons _ (List.Sublist.cons _ (List.Sublist.cons _ (List.Sublist.cons _ hM))))) ?_
    refine Lst.runG rfl rfl rfl hb20 rfl (by decide) (Ev.not rfl) ?_
    refine Lst.run rfl rfl (by decide) (Ev.pickF rfl hb20 rfl) ?_
    refine Lst.nil ?_
    exact At.meet (!r21) (FLe.refl _) ⟨rfl, rfl, rfl, rfl, rfl, trivial⟩ rfl (some_inj H)
  rintro F25 y19 hF26 hy
  subst hy
  refine Lst.as (e' := [(1, .int .i64 a1), (2, .int .i64 a2), (3, .pointer (some ⟨b1, 0, none⟩)), (6, .pointer (some ⟨b5, 0, none⟩)), (32, .bool y19)]) (L' := (.blk b5 (enc (OverR.mk ({ Over.zero with Hands := ([] : List Hand), Way := ([] : List Word) } : Over) Sl.nil Sl.nil)) 124) :: (.own Sl.nil 209 3 (encs ([] : List Word))) :: (.own Sl.nil 135 3 (encs ([] : List Hand))) :: (.blk b1 (enc (OverR.mk a0 s_a0_0 s_a0_1)) 124) :: L) ⟨rfl, rfl, rfl, rfl, rfl, trivial⟩ rfl ?_
  replace H := HKo18
  refine Lst.run rfl rfl (by decide) (Ev.move rfl) ?_
  obtain ⟨o27, H, HKo27⟩ := bind_some H
  refine Lst.join (σ := Bool) 4 (fun y28 => [(1, .int .i64 a1), (2, .int .i64 a2), (3, .pointer (some ⟨b1, 0, none⟩)), (6, .pointer (some ⟨b5, 0, none⟩)), (37, .bool y28)]) (fun y28 => (.blk b5 (enc (OverR.mk ({ Over.zero with Hands := ([] : List Hand), Way := ([] : List Word) } : Over) Sl.nil Sl.nil)) 124) :: (.own Sl.nil 209 3 (encs ([] : List Word))) :: (.own Sl.nil 135 3 (encs ([] : List Hand))) :: (.blk b1 (enc (OverR.mk a0 s_a0_0 s_a0_1)) 124) :: L) (fun _ y28 => y28 = o27) ?_ ?_
  · rcases Bool.eq_false_or_eq_true y19 with hb29 | hb29
    · replace H := ite_t hb29 H
      refine Lst.skip rfl rfl rfl hb29 rfl (by decide) ?_
      refine Lst.skip rfl rfl rfl hb29 rfl (by decide) ?_
      refine Lst.skip rfl rfl rfl hb29 rfl (by decide) ?_
      refine Lst.run rfl rfl (by decide) (Ev.pickT rfl hb29 rfl) ?_
      refine Lst.nil ?_
      exact At.meet true (FLe.refl _) ⟨rfl, rfl, rfl, rfl, rfl, trivial⟩ rfl (some_inj H)
    replace H := ite_f hb29 H
    refine Lst.runG rfl rfl rfl hb29 rfl (by decide) (Ev.move rfl) ?_
    refine Lst.runG rfl rfl rfl hb29 rfl (by decide) (Ev.move rfl) ?_
    refine Lst.runG rfl rfl rfl hb29 rfl (by decide) (Ev.eql rfl rfl) ?_
    refine Lst.run rfl rfl (by decide) (Ev.pickF rfl hb29 rfl) ?_
    refine Lst.nil ?_
    exact At.meet (a1 == a2) (FLe.refl _) ⟨rfl, rfl, rfl, rfl, rfl, trivial⟩ rfl (some_inj H)
  rintro F30 y28 hF31 hy
  subst hy
  refine Lst.as (e' := [(1, .int .i64 a1), (2, .int .i64 a2), (3, .pointer (some ⟨b1, 0, none⟩)), (6, .pointer (some ⟨b5, 0, none⟩)), (37, .bool y28)]) (L' := (.blk b5 (enc (OverR.mk ({ Over.zero with Hands := ([] : List Hand), Way := ([] : List Word) } : Over) Sl.nil Sl.nil)) 124) :: (.own Sl.nil 209 3 (encs ([] : List Word))) :: (.own Sl.nil 135 3 (encs ([] : List Hand))) :: (.blk b1 (enc (OverR.mk a0 s_a0_0 s_a0_1)) 124) :: L) ⟨rfl, rfl, rfl, rfl, rfl, trivial⟩ rfl ?_
  replace H := HKo27
  refine Lst.run rfl rfl (by decide) (Ev.assign rfl) ?_
  refine Lst.nil ?_
  refine At.then ?_
  rcases Bool.eq_false_or_eq_true y28 with hb32 | hb32
  · replace H := ite_t hb32 H
    refine Cd.condT rfl hb32 ?_
    refine Cd.seq ?_
    refine Cd.region ?_
    refine Lst.run rfl rfl (by decide) (Ev.build (v := .agg (enc (OverR.mk Over.zero Sl.nil Sl.nil)).toArray) (pv := []) trivial (fun w => by kernel_rfl)) ?_
    refine Lst.store (i := 0) rfl rfl rfl rfl rfl Try.sizeOf124 (vs := enc (OverR.mk Over.zero Sl.nil Sl.nil)) rfl (Enc.len _) (Enc.one _) (cs' := enc (OverR.mk Over.zero Sl.nil Sl.nil)) (Put.here ((Enc.len _).trans (Enc.len _).symm)) (L' := (.blk b5 (enc (OverR.mk Over.zero Sl.nil Sl.nil)) 124) :: (.own Sl.nil 209 3 (encs ([] : List Word))) :: (.own Sl.nil 135 3 (encs ([] : List Hand))) :: (.blk b1 (enc (OverR.mk a0 s_a0_0 s_a0_1)) 124) :: L) rfl ?_
    refine Lst.run rfl rfl (by decide) (Ev.assign rfl) ?_
    refine Lst.nil ?_
    refine At.then ?_
    obtain rfl := some_inj H
    refine Cd.ret ?_
    refine At.in_ret ?_
    refine At.then_ret ?_
    refine At.addNil 135 3 ?_
    refine At.addNil 209 3 ?_
    refine At.front (i := 1) rfl rfl ?_
    exact At.ret2 rfl (Res.cellA (i := 2) rfl rfl Try.isAgg124 Try.sizeOf124 (Enc.len _)) (Res.tmp rfl) (FLe.trans hF26 hF31) (List.Sublist.cons_cons _ (List.Sublist.cons_cons _ (List.Sublist.cons _ (List.Sublist.cons _ (List.Sublist.cons _ (List.Sublist.cons _ (List.Sublist.refl _))))))) ⟨Sl.nil, Sl.nil, rfl, rfl⟩
  replace H := ite_f hb32 H
  refine Cd.condF rfl hb32 ?_
  refine Cd.seq ?_
  refine Cd.region ?_
  refine Lst.run rfl rfl (by decide) (Ev.fieldAddr (off' := 0) rfl Try.runUnderlying124 rfl Try.sizeOf122 rfl rfl) ?_
  refine Lst.run rfl rfl (by decide) (Ev.load (i := 3) rfl rfl Try.isAgg122 (v := Sl.v s_a0_0) ((OverR.get_Hands (Get.here _)).off (by rfl))) ?_
  refine Lst.run rfl rfl (by decide) (Ev.move rfl) ?_
  obtain ⟨x35, h36, H⟩ := bind_some H
  have g37 := lat_some h36
  refine Lst.run rfl rfl (by decide) (Ev.indexS (α := Hand) (xs := a0.Hands) rfl rfl Try.runUnderlying122 Try.sizeOf135 rfl (by decide) (hs_a0_0.mono (FLe.trans hF26 hF31) (List.Sublist.cons _ (List.Sublist.cons _ (List.Sublist.cons _ (List.Sublist.cons _ hM))))) g37.1 g37.2.1) ?_
  refine Lst.run rfl rfl (by decide) (Ev.fieldS (α := Hand) (f' := a1.toNat * 3 + 0) rfl (hs_a0_0.mono (FLe.trans hF26 hF31) (List.Sublist.cons _ (List.Sublist.cons _ (List.Sublist.cons _ (List.Sublist.cons _ hM))))) ((Get.elemN (s := 3) (x := x35) rfl g37.2.2 (Get.here _)).off (by omega)) rfl Try.runUnderlying135 rfl Try.sizeOf4 rfl rfl rfl) ?_
  refine Lst.run rfl rfl (by decide) (Ev.loadS (α := Hand) rfl (hs_a0_0.mono (FLe.trans hF26 hF31) (List.Sublist.cons _ (List.Sublist.cons _ (List.Sublist.cons _ (List.Sublist.cons _ hM))))) Try.isAgg4 (v := .bool x35.Busy) ((Get.elemN (s := 3) (x := x35) rfl g37.2.2 (Hand.get_Busy (Get.here _))).off (by omega))) ?_
  refine Lst.run rfl rfl (by decide) (Ev.not rfl) ?_
  refine Lst.run rfl rfl (by decide) (Ev.assign rfl) ?_
  refine Lst.nil ?_
  refine At.then ?_
  rcases Bool.eq_false_or_eq_true (!x35.Busy) with hb38 | hb38
  · replace H := ite_t hb38 H
    refine Cd.condT rfl hb38 ?_
    refine Cd.seq ?_
    refine Cd.region ?_
    refine Lst.run rfl rfl (by decide) (Ev.build (v := .agg (enc (OverR.mk Over.zero Sl.nil Sl.nil)).toArray) (pv := []) trivial (fun w => by kernel_rfl)) ?_
    refine Lst.store (i := 0) rfl rfl rfl rfl rfl Try.sizeOf124 (vs := enc (OverR.mk Over.zero Sl.nil Sl.nil)) rfl (Enc.len _) (Enc.one _) (cs' := enc (OverR.mk Over.zero Sl.nil Sl.nil)) (Put.here ((Enc.len _).trans (Enc.len _).symm)) (L' := (.blk b5 (enc (OverR.mk Over.zero Sl.nil Sl.nil)) 124) :: (.own Sl.nil 209 3 (encs ([] : List Word))) :: (.own Sl.nil 135 3 (encs ([] : List Hand))) :: (.blk b1 (enc (OverR.mk a0 s_a0_0 s_a0_1)) 124) :: L) rfl ?_
    refine Lst.run rfl rfl (by decide) (Ev.assign rfl) ?_
    refine Lst.nil ?_
    refine At.then ?_
    obtain rfl := some_inj H
    refine Cd.ret ?_
    refine At.in_ret ?_
    refine At.then_ret ?_
    refine At.addNil 135 3 ?_
    refine At.addNil 209 3 ?_
    refine At.front (i := 1) rfl rfl ?_
    exact At.ret2 rfl (Res.cellA (i := 2) rfl rfl Try.isAgg124 Try.sizeOf124 (Enc.len _)) (Res.tmp rfl) (FLe.trans hF26 hF31) (List.Sublist.cons_cons _ (List.Sublist.cons_cons _ (List.Sublist.cons _ (List.Sublist.cons _ (List.Sublist.cons _ (List.Sublist.cons _ (List.Sublist.refl _))))))) ⟨Sl.nil, Sl.nil, rfl, rfl⟩
  replace H := ite_f hb38 H
  refine Cd.condF rfl hb38 ?_
  refine Cd.seq ?_
  refine Cd.region ?_
  refine Lst.run rfl rfl (by decide) (Ev.fieldAddr (off' := 0) rfl Try.runUnderlying124 rfl Try.sizeOf122 rfl rfl) ?_
  refine Lst.run rfl rfl (by decide) (Ev.load (i := 3) rfl rfl Try.isAgg122 (v := Sl.v s_a0_0) ((OverR.get_Hands (Get.here _)).off (by rfl))) ?_
  refine Lst.run rfl rfl (by decide) (Ev.move rfl) ?_
  obtain ⟨x41, h42, H⟩ := bind_some H
  have g43 := lat_some h42
  refine Lst.run rfl rfl (by decide) (Ev.indexS (α := Hand) (xs := a0.Hands) rfl rfl Try.runUnderlying122 Try.sizeOf135 rfl (by decide) (hs_a0_0.mono (FLe.trans hF26 hF31) (List.Sublist.cons _ (List.Sublist.cons _ (List.Sublist.cons _ (List.Sublist.cons _ hM))))) g43.1 g43.2.1) ?_
  refine Lst.run rfl rfl (by decide) (Ev.fieldS (α := Hand) (f' := a1.toNat * 3 + 2) rfl (hs_a0_0.mono (FLe.trans hF26 hF31) (List.Sublist.cons _ (List.Sublist.cons _ (List.Sublist.cons _ (List.Sublist.cons _ hM))))) ((Get.elemN (s := 3) (x := x41) rfl g43.2.2 (Get.here _)).off (by omega)) rfl Try.runUnderlying135 rfl Try.sizeOf3 rfl rfl rfl) ?_
  refine Lst.run rfl rfl (by decide) (Ev.loadS (α := Hand) rfl (hs_a0_0.mono (FLe.trans hF26 hF31) (List.Sublist.cons _ (List.Sublist.cons _ (List.Sublist.cons _ (List.Sublist.cons _ hM))))) Try.isAgg3 (v := .int .i64 x41.Owed) ((Get.elemN (s := 3) (x := x41) rfl g43.2.2 (Hand.get_Owed (Get.here _))).off (by omega))) ?_
  refine Lst.run rfl rfl (by decide) (Ev.eql rfl rfl) ?_
  refine Lst.run rfl rfl (by decide) (Ev.move rfl) ?_
  obtain ⟨o44, H, HKo44⟩ := bind_some H
  refine Lst.join (σ := Bool) 5 (fun y45 => [(1, .int .i64 a1), (2, .int .i64 a2), (3, .pointer (some ⟨b1, 0, none⟩)), (6, .pointer (some ⟨b5, 0, none⟩)), (61, .bool y45)]) (fun y45 => (.blk b5 (enc (OverR.mk ({ Over.zero with Hands := ([] : List Hand), Way := ([] : List Word) } : Over) Sl.nil Sl.nil)) 124) :: (.own Sl.nil 209 3 (encs ([] : List Word))) :: (.own Sl.nil 135 3 (encs ([] : List Hand))) :: (.blk b1 (enc (OverR.mk a0 s_a0_0 s_a0_1)) 124) :: L) (fun _ y45 => y45 = o44) ?_ ?_
  · rcases Bool.eq_false_or_eq_true (x41.Owed == (16777215 : Int)) with hb46 | hb46
    · replace H := ite_t hb46 H
      refine Lst.skip rfl rfl rfl hb46 rfl (by decide) ?_
      refine Lst.skip rfl rfl rfl hb46 rfl (by decide) ?_
      refine Lst.skip rfl rfl rfl hb46 rfl (by decide) ?_
      refine Lst.skip rfl rfl rfl hb46 rfl (by decide) ?_
      refine Lst.run rfl rfl (by decide) (Ev.pickT rfl hb46 rfl) ?_
      refine Lst.nil ?_
      exact At.meet true (FLe.refl _) ⟨rfl, rfl, rfl, rfl, rfl, trivial⟩ rfl (some_inj H)
    replace H := ite_f hb46 H
    refine Lst.runG rfl rfl rfl hb46 rfl (by decide) (Ev.fieldAddr (off' := 1) rfl Try.runUnderlying124 rfl Try.sizeOf112 rfl rfl) ?_
    refine Lst.runG rfl rfl rfl hb46 rfl (by decide) (Ev.load (i := 3) rfl rfl Try.isAgg112 (v := Sl.v s_a0_1) ((OverR.get_Way (Get.here _)).off (by rfl))) ?_
    refine Lst.runG rfl rfl rfl hb46 rfl (by decide) (Ev.lenS (α := Word) (xs := a0.Way) (by decide) rfl rfl Try.runUnderlying112 (hs_a0_1.mono (FLe.trans hF26 hF31) (List.Sublist.cons _ (List.Sublist.cons _ (List.Sublist.cons _ (List.Sublist.cons _ hM)))))) ?_
    refine Lst.runG rfl rfl rfl hb46 rfl (by decide) (Ev.eql rfl rfl) ?_
    refine Lst.run rfl rfl (by decide) (Ev.pickF rfl hb46 rfl) ?_
    refine Lst.nil ?_
    exact At.meet ((a0.Way.length : Int) == (100 : Int)) (FLe.refl _) ⟨rfl, rfl, rfl, rfl, rfl, trivial⟩ rfl (some_inj H)
  rintro F47 y45 hF48 hy
  subst hy
  refine Lst.as (e' := [(1, .int .i64 a1), (2, .int .i64 a2), (3, .pointer (some ⟨b1, 0, none⟩)), (6, .pointer (some ⟨b5, 0, none⟩)), (61, .bool y45)]) (L' := (.blk b5 (enc (OverR.mk ({ Over.zero with Hands := ([] : List Hand), Way := ([] : List Word) } : Over) Sl.nil Sl.nil)) 124) :: (.own Sl.nil 209 3 (encs ([] : List Word))) :: (.own Sl.nil 135 3 (encs ([] : List Hand))) :: (.blk b1 (enc (OverR.mk a0 s_a0_0 s_a0_1)) 124) :: L) ⟨rfl, rfl, rfl, rfl, rfl, trivial⟩ rfl ?_
  replace H := HKo44
  refine Lst.run rfl rfl (by decide) (Ev.assign rfl) ?_
  refine Lst.nil ?_
  refine At.then ?_
  rcases Bool.eq_false_or_eq_true y45 with hb49 | hb49
  · replace H := ite_t hb49 H
    refine Cd.condT rfl hb49 ?_
    refine Cd.seq ?_
    refine Cd.region ?_
    refine Lst.run rfl rfl (by decide) (Ev.build (v := .agg (enc (OverR.mk Over.zero Sl.nil Sl.nil)).toArray) (pv := []) trivial (fun w => by kernel_rfl)) ?_
    refine Lst.store (i := 0) rfl rfl rfl rfl rfl Try.sizeOf124 (vs := enc (OverR.mk Over.zero Sl.nil Sl.nil)) rfl (Enc.len _) (Enc.one _) (cs' := enc (OverR.mk Over.zero Sl.nil Sl.nil)) (Put.here ((Enc.len _).trans (Enc.len _).symm)) (L' := (.blk b5 (enc (OverR.mk Over.zero Sl.nil Sl.nil)) 124) :: (.own Sl.nil 209 3 (encs ([] : List Word))) :: (.own Sl.nil 135 3 (encs ([] : List Hand))) :: (.blk b1 (enc (OverR.mk a0 s_a0_0 s_a0_1)) 124) :: L) rfl ?_
    refine Lst.run rfl rfl (by decide) (Ev.assign rfl) ?_
    refine Lst.nil ?_
    refine At.then ?_
    obtain rfl := some_inj H
    refine Cd.ret ?_
    refine At.in_ret ?_
    refine At.then_ret ?_
    refine At.addNil 135 3 ?_
    refine At.addNil 209 3 ?_
    refine At.front (i := 1) rfl rfl ?_
    exact At.ret2 rfl (Res.cellA (i := 2) rfl rfl Try.isAgg124 Try.sizeOf124 (Enc.len _)) (Res.tmp rfl) (FLe.trans (FLe.trans hF26 hF31) hF48) (List.Sublist.cons_cons _ (List.Sublist.cons_cons _ (List.Sublist.cons _ (List.Sublist.cons _ (List.Sublist.cons _ (List.Sublist.cons _ (List.Sublist.refl _))))))) ⟨Sl.nil, Sl.nil, rfl, rfl⟩
  replace H := ite_f hb49 H
  refine Cd.condF rfl hb49 ?_
  refine Cd.skip ?_
  refine At.in_normal ?_
  refine At.then ?_
  refine Cd.seq ?_
  refine Cd.region ?_
  refine Lst.run rfl rfl (by decide) (Ev.loadA (i := 3) rfl rfl Try.isAgg124 Try.sizeOf124 (ch := enc (OverR.mk a0 s_a0_0 s_a0_1)) (Enc.len _) (Get.here _)) ?_
  obtain ⟨r52, h53, H⟩ := bind_some H
  refine Lst.call rfl rfl (by decide) (vs := [.agg (enc (OverR.mk a0 s_a0_0 s_a0_1)).toArray]) ⟨rfl, trivial⟩ Try.call166 (over_clone_sim h53 w0 _ M _ (List.Sublist.cons _ (List.Sublist.cons _ (List.Sublist.cons _ (List.Sublist.cons _ hM)))) (hs_a0_0.mono (FLe.trans (FLe.trans hF26 hF31) hF48) (List.Sublist.refl _)) (hs_a0_1.mono (FLe.trans (FLe.trans hF26 hF31) hF48) (List.Sublist.refl _))) (fun F58 L' v hF59 hv => ?_)
  obtain ⟨s54, s56, rfl, rfl⟩ := hv
  refine Lst.addNil 135 3 ?_
  refine Lst.addNil 209 3 ?_
  refine Lst.alloc (cs := enc (OverR.mk ({ Over.zero with Hands := ([] : List Hand), Way := ([] : List Word) } : Over) Sl.nil Sl.nil)) rfl rfl (by decide) Try.zeroValue124 rfl (fun b62 => ?_)
  refine Lst.store (i := 0) rfl rfl rfl rfl rfl Try.sizeOf124 (vs := enc (OverR.mk r52 s54 s56)) rfl (Enc.len _) (Enc.one _) (cs' := enc (OverR.mk r52 s54 s56)) (Put.here ((Enc.len _).trans (Enc.len _).symm)) (L' := (.blk b62 (enc (OverR.mk r52 s54 s56)) 124) :: (.own Sl.nil 209 3 (encs ([] : List Word))) :: (.own Sl.nil 135 3 (encs ([] : List Hand))) :: (.own s54 135 3 (encs r52.Hands)) :: (.own s56 209 3 (encs r52.Way)) :: (.blk b5 (enc (OverR.mk ({ Over.zero with Hands := ([] : List Hand), Way := ([] : List Word) } : Over) Sl.nil Sl.nil)) 124) :: (.own Sl.nil 209 3 (encs ([] : List Word))) :: (.own Sl.nil 135 3 (encs ([] : List Hand))) :: (.blk b1 (enc (OverR.mk a0 s_a0_0 s_a0_1)) 124) :: L) rfl ?_
  refine Lst.nil ?_
  refine At.then ?_
  refine Cd.seq ?_
  refine Cd.region ?_
  refine Lst.run rfl rfl (by decide) (Ev.fieldAddr (off' := 0) rfl Try.runUnderlying124 rfl Try.sizeOf122 rfl rfl) ?_
  refine Lst.run rfl rfl (by decide) (Ev.load (i := 0) rfl rfl Try.isAgg122 (v := Sl.v s54) ((OverR.get_Hands (Get.here _)).off (by rfl))) ?_
  refine Lst.run rfl rfl (by decide) (Ev.move rfl) ?_
  obtain ⟨x64, h65, H⟩ := bind_some H
  have g66 := lat_some h65
  refine Lst.run rfl rfl (by decide) (Ev.indexS (α := Hand) (xs := r52.Hands) rfl rfl Try.runUnderlying122 Try.sizeOf135 rfl (by decide) (Rd.own (i := 3) rfl rfl rfl) g66.1 g66.2.1) ?_
  refine Lst.run rfl rfl (by decide) (Ev.fieldS (α := Hand) (f' := a1.toNat * 3 + 2) rfl (Rd.own (i := 3) rfl rfl rfl) ((Get.elemN (s := 3) (x := x64) rfl g66.2.2 (Get.here _)).off (by omega)) rfl Try.runUnderlying135 rfl Try.sizeOf3 rfl rfl rfl) ?_
  refine Lst.run rfl rfl (by decide) (Ev.loadS (α := Hand) rfl (Rd.own (i := 3) rfl rfl rfl) Try.isAgg3 (v := .int .i64 x64.Owed) ((Get.elemN (s := 3) (x := x64) rfl g66.2.2 (Hand.get_Owed (Get.here _))).off (by omega))) ?_
  refine Lst.run rfl rfl (by decide) (Ev.add rfl rfl) ?_
  obtain ⟨x67, h68, H⟩ := bind_some H
  have g69 := lat_some h68
  refine Lst.run rfl rfl (by decide) (Ev.indexS (α := Hand) (xs := r52.Hands) rfl rfl Try.runUnderlying122 Try.sizeOf135 rfl (by decide) (Rd.own (i := 3) rfl rfl rfl) g69.1 g69.2.1) ?_
  refine Lst.run rfl rfl (by decide) (Ev.fieldS (α := Hand) (f' := a1.toNat * 3 + 2) rfl (Rd.own (i := 3) rfl rfl rfl) ((Get.elemN (s := 3) (x := x67) rfl g69.2.2 (Get.here _)).off (by omega)) rfl Try.runUnderlying135 rfl Try.sizeOf3 rfl rfl rfl) ?_
  obtain ⟨p70, h71, H⟩ := Let_some H
  refine Lst.storeS (i := 3) rfl rfl rfl rfl rfl Try.sizeOf3 (vs := [.int .i64 (w64 (x64.Owed + (1 : Int)))]) rfl rfl (by decide) rfl (xs' := encs p70) (by rw [← h71]; exact (Put.elemN (s := 3) (x := x67) rfl g69.2.2 (Hand.put_Owed (Put.here (vs := [.int .i64 (w64 (x64.Owed + (1 : Int)))]) rfl))).off (by omega)) (L' := (.blk b62 (enc (OverR.mk ({ r52 with Hands := p70 } : Over) s54 s56)) 124) :: (.own Sl.nil 209 3 (encs ([] : List Word))) :: (.own Sl.nil 135 3 (encs ([] : List Hand))) :: (.own s54 135 3 (encs p70)) :: (.own s56 209 3 (encs r52.Way)) :: (.blk b5 (enc (OverR.mk ({ Over.zero with Hands := ([] : List Hand), Way := ([] : List Word) } : Over) Sl.nil Sl.nil)) 124) :: (.own Sl.nil 209 3 (encs ([] : List Word))) :: (.own Sl.nil 135 3 (encs ([] : List Hand))) :: (.blk b1 (enc (OverR.mk a0 s_a0_0 s_a0_1)) 124) :: L) rfl ?_
  refine Lst.nil ?_
  refine At.then ?_
  refine Cd.seq ?_
  refine Cd.region ?_
  refine Lst.run rfl rfl (by decide) (Ev.fieldAddr (off' := 1) rfl Try.runUnderlying124 rfl Try.sizeOf112 rfl rfl) ?_
  refine Lst.run rfl rfl (by decide) (Ev.load (i := 0) rfl rfl Try.isAgg112 (v := Sl.v s56) ((OverR.get_Way (Get.here _)).off (by rfl))) ?_
  refine Lst.run rfl rfl (by decide) (Ev.move rfl) ?_
  refine Lst.run rfl rfl (by decide) (Ev.move rfl) ?_
  refine Lst.run rfl rfl (by decide) (Ev.build (v := .agg (enc ({ Word.zero with From := a1, To := a2, At := (1 : Int) } : Word)).toArray) (pv := [(0, .int .i64 a1), (1, .int .i64 a2), (2, .int .i64 (1 : Int))]) ⟨rfl, rfl, ⟨rfl, rfl, ⟨rfl, rfl, trivial⟩⟩⟩ (fun w => by kernel_rfl)) ?_
  refine Lst.buildSlice (α := Word) (xs := ([({ Word.zero with From := a1, To := a2, At := (1 : Int) } : Word)] : List Word)) (pv := [(0, .agg (enc ({ Word.zero with From := a1, To := a2, At := (1 : Int) } : Word)).toArray)]) rfl rfl (by decide) ⟨rfl, rfl, trivial⟩ (run_buildSlice (α := Word) (z0 := Word.zero) (xs := ([({ Word.zero with From := a1, To := a2, At := (1 : Int) } : Word)] : List Word)) Try.runUnderlying112 Try.sizeOf209 Try.zeroValue209 rfl rfl rfl (by decide) rfl (fill_cons (cs := encs (List.replicate 1 Word.zero)) (cs' := encs ((List.replicate 1 Word.zero).set 0 ({ Word.zero with From := a1, To := a2, At := (1 : Int) } : Word))) (vs := enc ({ Word.zero with From := a1, To := a2, At := (1 : Int) } : Word)) rfl rfl (Enc.len _) ((Put.elemN (s := 3) (i := 0) (x := Word.zero) (y := ({ Word.zero with From := a1, To := a2, At := (1 : Int) } : Word)) rfl rfl (Put.here ((Enc.len _).trans (Enc.len _).symm))).off rfl) fill_nil)) rfl rfl (by decide) (fun s72 _ => ?_)
  obtain ⟨u74, h75, H⟩ := bind_some H
  refine Lst.append (i := 5) (α := Word) (xs := r52.Way) (ys := ([({ Word.zero with From := a1, To := a2, At := (1 : Int) } : Word)] : List Word)) rfl rfl (by decide) rfl rfl Try.runUnderlying112 Try.typeInfo209 rfl rfl rfl rfl rfl rfl (Rd.own (i := 0) rfl rfl rfl) rfl (room_some h75) rfl (fun s76 => ?_)
  refine Lst.its (L' := (.own s72 209 3 (encs ([({ Word.zero with From := a1, To := a2, At := (1 : Int) } : Word)] : List Word))) :: (.blk b62 (enc (OverR.mk ({ r52 with Hands := p70 } : Over) s54 s56)) 124) :: (.own Sl.nil 209 3 (encs ([] : List Word))) :: (.own Sl.nil 135 3 (encs ([] : List Hand))) :: (.own s54 135 3 (encs p70)) :: (.own s76 209 3 (encs (r52.Way ++ ([({ Word.zero with From := a1, To := a2, At := (1 : Int) } : Word)] : List Word)))) :: (.blk b5 (enc (OverR.mk ({ Over.zero with Hands := ([] : List Hand), Way := ([] : List Word) } : Over) Sl.nil Sl.nil)) 124) :: (.own Sl.nil 209 3 (encs ([] : List Word))) :: (.own Sl.nil 135 3 (encs ([] : List Hand))) :: (.blk b1 (enc (OverR.mk a0 s_a0_0 s_a0_1)) 124) :: L) rfl ?_
  refine Lst.run rfl rfl (by decide) (Ev.fieldAddr (off' := 1) rfl Try.runUnderlying124 rfl Try.sizeOf112 rfl rfl) ?_
  refine Lst.store (i := 1) rfl rfl rfl rfl rfl Try.sizeOf112 (vs := [Sl.v s76]) rfl rfl rfl (cs' := enc (OverR.mk ({ r52 with Hands := p70, Way := r52.Way ++ ([({ Word.zero with From := a1, To := a2, At := (1 : Int) } : Word)] : List Word) } : Over) s54 s76)) ((OverR.put_Way (Put.here (vs := [Sl.v s76]) rfl)).off (by rfl)) (L' := (.own s72 209 3 (encs ([({ Word.zero with From := a1, To := a2, At := (1 : Int) } : Word)] : List Word))) :: (.blk b62 (enc (OverR.mk ({ r52 with Hands := p70, Way := r52.Way ++ ([({ Word.zero with From := a1, To := a2, At := (1 : Int) } : Word)] : List Word) } : Over) s54 s76)) 124) :: (.own Sl.nil 209 3 (encs ([] : List Word))) :: (.own Sl.nil 135 3 (encs ([] : List Hand))) :: (.own s54 135 3 (encs p70)) :: (.own s76 209 3 (encs (r52.Way ++ ([({ Word.zero with From := a1, To := a2, At := (1 : Int) } : Word)] : List Word)))) :: (.blk b5 (enc (OverR.mk ({ Over.zero with Hands := ([] : List Hand), Way := ([] : List Word) } : Over) Sl.nil Sl.nil)) 124) :: (.own Sl.nil 209 3 (encs ([] : List Word))) :: (.own Sl.nil 135 3 (encs ([] : List Hand))) :: (.blk b1 (enc (OverR.mk a0 s_a0_0 s_a0_1)) 124) :: L) rfl ?_
  refine Lst.nil ?_
  refine At.then ?_
  refine Cd.seq ?_
  refine Cd.as (e' := [(6, .pointer (some ⟨b5, 0, none⟩)), (10, .pointer (some ⟨b62, 0, none⟩))]) (L' := (.own s72 209 3 (encs ([({ Word.zero with From := a1, To := a2, At := (1 : Int) } : Word)] : List Word))) :: (.blk b62 (enc (OverR.mk ({ r52 with Hands := p70, Way := r52.Way ++ ([({ Word.zero with From := a1, To := a2, At := (1 : Int) } : Word)] : List Word) } : Over) s54 s76)) 124) :: (.own Sl.nil 209 3 (encs ([] : List Word))) :: (.own Sl.nil 135 3 (encs ([] : List Hand))) :: (.own s54 135 3 (encs p70)) :: (.own s76 209 3 (encs (r52.Way ++ ([({ Word.zero with From := a1, To := a2, At := (1 : Int) } : Word)] : List Word)))) :: (.blk b5 (enc (OverR.mk ({ Over.zero with Hands := ([] : List Hand), Way := ([] : List Word) } : Over) Sl.nil Sl.nil)) 124) :: (.own Sl.nil 209 3 (encs ([] : List Word))) :: (.own Sl.nil 135 3 (encs ([] : List Hand))) :: (.blk b1 (enc (OverR.mk a0 s_a0_0 s_a0_1)) 124) :: L) ⟨rfl, rfl, trivial⟩ rfl ?_
  refine Cd.region ?_
  refine Lst.run rfl rfl (by decide) (Ev.loadA (i := 1) rfl rfl Try.isAgg124 Try.sizeOf124 (ch := enc (OverR.mk ({ r52 with Hands := p70, Way := r52.Way ++ ([({ Word.zero with From := a1, To := a2, At := (1 : Int) } : Word)] : List Word) } : Over) s54 s76)) (Enc.len _) (Get.here _)) ?_
  refine Lst.store (i := 6) rfl rfl rfl rfl rfl Try.sizeOf124 (vs := enc (OverR.mk ({ r52 with Hands := p70, Way := r52.Way ++ ([({ Word.zero with From := a1, To := a2, At := (1 : Int) } : Word)] : List Word) } : Over) s54 s76)) rfl (Enc.len _) (Enc.one _) (cs' := enc (OverR.mk ({ r52 with Hands := p70, Way := r52.Way ++ ([({ Word.zero with From := a1, To := a2, At := (1 : Int) } : Word)] : List Word) } : Over) s54 s76)) (Put.here ((Enc.len _).trans (Enc.len _).symm)) (L' := (.own s72 209 3 (encs ([({ Word.zero with From := a1, To := a2, At := (1 : Int) } : Word)] : List Word))) :: (.blk b62 (enc (OverR.mk ({ r52 with Hands := p70, Way := r52.Way ++ ([({ Word.zero with From := a1, To := a2, At := (1 : Int) } : Word)] : List Word) } : Over) s54 s76)) 124) :: (.own Sl.nil 209 3 (encs ([] : List Word))) :: (.own Sl.nil 135 3 (encs ([] : List Hand))) :: (.own s54 135 3 (encs p70)) :: (.own s76 209 3 (encs (r52.Way ++ ([({ Word.zero with From := a1, To := a2, At := (1 : Int) } : Word)] : List Word)))) :: (.blk b5 (enc (OverR.mk ({ r52 with Hands := p70, Way := r52.Way ++ ([({ Word.zero with From := a1, To := a2, At := (1 : Int) } : Word)] : List Word) } : Over) s54 s76)) 124) :: (.own Sl.nil 209 3 (encs ([] : List Word))) :: (.own Sl.nil 135 3 (encs ([] : List Hand))) :: (.blk b1 (enc (OverR.mk a0 s_a0_0 s_a0_1)) 124) :: L) rfl ?_
  refine Lst.run rfl rfl (by decide) (Ev.assign rfl) ?_
  refine Lst.nil ?_
  refine At.then ?_
  obtain rfl := some_inj H
  refine Cd.ret ?_
  exact At.ret2 rfl (Res.cellA (i := 6) rfl rfl Try.isAgg124 Try.sizeOf124 (Enc.len _)) (Res.tmp rfl) (FLe.trans (FLe.trans (FLe.trans hF26 hF31) hF48) hF59) (List.Sublist.cons _ (List.Sublist.cons _ (List.Sublist.cons _ (List.Sublist.cons _ (List.Sublist.cons_cons _ (List.Sublist.cons_cons _ (List.Sublist.cons _ (List.Sublist.cons _ (List.Sublist.cons _ (List.Sublist.cons _ (List.Sublist.refl _))))))))))) ⟨s54, s76, rfl, rfl⟩
set_option maxRecDepth 20000 in
theorem slices_Delete_api_Word_api_Word_sim {a0 : List Word} {a1 : Int} {a2 : Int} {s_a0 : Sl} {r : (List Word)} (H : slices_Delete_api_Word_api_Word a0 a1 a2 = some r) (w0 : World) (F : Frz) (M L : List Item) (hM : M.Sublist L) : Ok Try.prog w0 157 [Sl.v s_a0, .int .i64 a1, .int .i64 a2] F ((.own s_a0 209 3 (encs a0)) :: L) (fun _ L' v => ∃ (s19 : Sl), v = Sl.v s19 ∧ L' = (.own s19 209 3 (encs r)) :: L) := by
  unfold slices_Delete_api_Word_api_Word at H
  refine Ok.enter (m := 3) (n := 33) Try.func157 rfl rfl rfl (by decide) ?_
  refine Cd.env (e' := [(0, Sl.v s_a0), (1, .int .i64 a1), (2, .int .i64 a2)]) rfl ?_
  refine Cd.seq ?_
  refine Cd.region ?_
  refine Lst.addNil 209 3 ?_
  refine Lst.run rfl rfl (by decide) (Ev.assign rfl) ?_
  refine Lst.nil ?_
  refine At.then ?_
  refine Cd.seq ?_
  refine Cd.region ?_
  refine Lst.run rfl rfl (by decide) (Ev.move rfl) ?_
  refine Lst.run rfl rfl (by decide) (Ev.move rfl) ?_
  refine Lst.run rfl rfl (by decide) (Ev.move rfl) ?_
  refine Lst.run rfl rfl (by decide) (Ev.move rfl) ?_
  refine Lst.run rfl rfl (by decide) (Ev.lenS (α := Word) (xs := a0) (by decide) rfl rfl Try.runUnderlying112 (Rd.own (i := 1) rfl rfl rfl)) ?_
  obtain ⟨m3, h4, H⟩ := bind_some H
  have g5 := cutL_some h4
  refine Lst.capOwn (α := Word) (i := 1) (xs := a0) rfl rfl rfl (by decide) (fun hl6 hc7 => ?_)
  refine Lst.run rfl rfl (by decide) (Ev.cut3 (i := a1) (j := a2) (k := (a0.length : Int)) rfl rfl rfl rfl Try.runUnderlying112 Try.sizeOf209 g5.1.1 g5.1.2.1 g5.1.2.2 (Int.ofNat_le.2 hc7)) ?_
  refine Lst.nil ?_
  refine At.then ?_
  refine Cd.seq ?_
  refine Cd.seq ?_
  refine Cd.region ?_
  refine Lst.run rfl rfl (by decide) (Ev.move rfl) ?_
  refine Lst.run rfl rfl (by decide) (Ev.move rfl) ?_
  refine Lst.run rfl rfl (by decide) (Ev.eql rfl rfl) ?_
  refine Lst.nil ?_
  refine At.then ?_
  rcases Bool.eq_false_or_eq_true (a1 == a2) with hb8 | hb8
  · replace H := ite_t hb8 H
    refine Cd.condT rfl hb8 ?_
    refine Cd.seq ?_
    refine Cd.region ?_
    refine Lst.run rfl rfl (by decide) (Ev.move rfl) ?_
    refine Lst.run rfl rfl (by decide) (Ev.assign rfl) ?_
    refine Lst.nil ?_
    refine At.then ?_
    obtain rfl := some_inj H
    refine Cd.ret ?_
    refine At.then_ret ?_
    exact At.ret1 rfl (Res.tmp rfl) (FLe.refl _) (List.Sublist.cons _ (List.Sublist.cons_cons _ (List.Sublist.refl _))) ⟨s_a0, rfl, rfl⟩
  replace H := ite_f hb8 H
  refine Cd.condF rfl hb8 ?_
  refine Cd.skip ?_
  refine At.then ?_
  refine Cd.seq ?_
  refine Cd.region ?_
  refine Lst.run rfl rfl (by decide) (Ev.move rfl) ?_
  refine Lst.run rfl rfl (by decide) (Ev.lenS (α := Word) (xs := a0) (by decide) rfl rfl Try.runUnderlying112 (Rd.own (i := 1) rfl rfl rfl)) ?_
  refine Lst.run rfl rfl (by decide) (Ev.assign rfl) ?_
  refine Lst.nil ?_
  refine At.then ?_
  refine Cd.seq ?_
  refine Cd.tail 6 (by kernel_rfl) (by kernel_rfl) ?_
  refine Qt.run rfl rfl (by decide) (Ev.move rfl) ?_
  refine Qt.run rfl rfl (by decide) (Ev.move rfl) ?_
  obtain ⟨m9, h10, H⟩ := bind_some H
  obtain ⟨g11, gl12⟩ := cutL_some h10
  refine Qt.run rfl rfl (by decide) (Ev.cut (α := Word) (xs := a0) (i := 0) (j := a1) rfl rfl rfl Try.runUnderlying112 Try.sizeOf209 rfl (by decide) (Rd.own (i := 1) rfl rfl rfl) g11.1 g11.2.1 g11.2.2) ?_
  refine Qt.run rfl rfl (by decide) (Ev.move rfl) ?_
  refine Qt.run rfl rfl (by decide) (Ev.move rfl) ?_
  obtain ⟨m13, h14, H⟩ := bind_some H
  obtain ⟨g15, gl16⟩ := cutL_some h14
  refine Qt.run rfl rfl (by decide) (Ev.cut (α := Word) (xs := a0) (i := a2) (j := (a0.length : Int)) rfl rfl rfl Try.runUnderlying112 Try.sizeOf209 rfl (by decide) (Rd.own (i := 1) rfl rfl rfl) g15.1 g15.2.1 g15.2.2) ?_
  refine Qt.tail ?_
  refine Lst.capOwn (α := Word) (i := 1) (xs := a0) rfl rfl rfl (by decide) (fun hl17 hc18 => ?_)
  refine Lst.shift (α := Word) (k := 1) (i := (a1 : Int).toNat) (j := (a2 : Int).toNat) (xs := a0) rfl rfl (by decide) rfl rfl Try.runUnderlying112 Try.typeInfo209 rfl rfl (by decide) rfl rfl (by omega) (by omega) ?_
  refine Lst.its (L' := (.own Sl.nil 209 3 (encs ([] : List Word))) :: (.own (Sl.mk (Sl.a s_a0) ((a1 : Int).toNat + (a0.length - (a2 : Int).toNat)) (Sl.cap s_a0)) 209 3 (encs (a0.take ((a1 : Int).toNat) ++ a0.drop ((a2 : Int).toNat)))) :: L) rfl ?_
  refine Lst.run rfl rfl (by decide) (Ev.assign rfl) ?_
  refine Lst.nil ?_
  refine At.then ?_
  refine Cd.seq ?_
  refine Cd.as (e' := [(7, .int .i64 (a0.length : Int)), (0, Sl.v (Sl.mk (Sl.a s_a0) ((a1 : Int).toNat + (a0.length - (a2 : Int).toNat)) (Sl.cap s_a0)))]) (L' := (.own Sl.nil 209 3 (encs ([] : List Word))) :: (.own (Sl.mk (Sl.a s_a0) ((a1 : Int).toNat + (a0.length - (a2 : Int).toNat)) (Sl.cap s_a0)) 209 3 (encs (a0.take ((a1 : Int).toNat) ++ a0.drop ((a2 : Int).toNat)))) :: L) ⟨rfl, rfl, trivial⟩ rfl ?_
  refine Cd.region ?_
  refine Lst.run rfl rfl (by decide) (Ev.move rfl) ?_
  refine Lst.run rfl rfl (by decide) (Ev.move rfl) ?_
  refine Lst.run rfl rfl (by decide) (Ev.lenS (α := Word) (xs := (a0.take ((a1 : Int).toNat) ++ a0.drop ((a2 : Int).toNat))) (by decide) rfl rfl Try.runUnderlying112 (Rd.own (i := 1) rfl rfl rfl)) ?_
  refine Lst.run rfl rfl (by decide) (Ev.move rfl) ?_
  refine Lst.run rfl rfl (by decide) (Ev.cutBeyond (i := ((a0.take ((a1 : Int).toNat) ++ a0.drop ((a2 : Int).toNat)).length : Int)) (j := (a0.length : Int)) rfl rfl rfl Try.runUnderlying112 Try.sizeOf209 (Int.natCast_nonneg _) (Int.ofNat_le.2 (shift_len (by omega) (by omega))) (Int.ofNat_le.2 hc18)) ?_
  refine Lst.clearBehind (α := Word) (k := 1) (xs := (a0.take ((a1 : Int).toNat) ++ a0.drop ((a2 : Int).toNat))) rfl rfl rfl Try.runUnderlying112 Try.zeroValue209 Word.zero rfl rfl (by decide) rfl rfl (Nat.le_refl _) hc18 ?_
  refine Lst.nil ?_
  refine At.then ?_
  refine Cd.seq ?_
  refine Cd.region ?_
  refine Lst.run rfl rfl (by decide) (Ev.move rfl) ?_
  refine Lst.run rfl rfl (by decide) (Ev.assign rfl) ?_
  refine Lst.nil ?_
  refine At.then ?_
  obtain rfl := some_inj H
  refine Cd.ret ?_
  exact At.ret1 rfl (Res.tmp rfl) (FLe.refl _) (List.Sublist.cons _ (List.Sublist.cons_cons _ (List.Sublist.refl _))) ⟨(Sl.mk (Sl.a s_a0) ((a1 : Int).toNat + (a0.length - (a2 : Int).toNat)) (Sl.cap s_a0)), rfl, rfl⟩
set_option maxRecDepth 20000 in
theorem over_detach_sim {a0 : Over} {a1 : Int} {s_a0_0 : Sl} {s_a0_1 : Sl} {b_a0 : Nat} {r : (List Hand) × (List Word) × Over} (H : over_detach a0 a1 = some r) (w0 : World) (F : Frz) (M L : List Item) (hM : M.Sublist L) : Ok Try.prog w0 167 [.pointer (some ⟨b_a0, 0, none⟩), .int .i64 a1] F ((.own s_a0_0 135 3 (encs a0.Hands)) :: (.own s_a0_1 209 3 (encs a0.Way)) :: (.blk b_a0 (enc (OverR.mk a0 s_a0_0 s_a0_1)) 124) :: L) (fun _ L' v => ∃ (s45 : Sl) (s46 : Sl), v = .tuple #[] ∧ L' = (.own s45 135 3 (encs r.1)) :: (.own s46 209 3 (encs r.2.1)) :: (.blk b_a0 (enc (OverR.mk ({ r.2.2 with Hands := r.1, Way := r.2.1 } : Over) s45 s46)) 124) :: L) := by
  unfold over_detach at H
  refine Ok.enter (m := 2) (n := 51) Try.func167 rfl rfl rfl (by decide) ?_
  refine Cd.env (e' := [(0, .pointer (some ⟨b_a0, 0, none⟩)), (1, .int .i64 a1)]) rfl ?_
  refine Cd.seq ?_
  refine Cd.region ?_
  refine Lst.run rfl rfl (by decide) (Ev.move rfl) ?_
  refine Lst.run rfl rfl (by decide) (Ev.nilCheck rfl) ?_
  refine Lst.run rfl rfl (by decide) (Ev.fieldAddr (off' := 0) rfl Try.runUnderlying124 rfl Try.sizeOf122 rfl rfl) ?_
  refine Lst.run rfl rfl (by decide) (Ev.load (i := 2) rfl rfl Try.isAgg122 (v := Sl.v s_a0_0) ((OverR.get_Hands (Get.here _)).off (by rfl))) ?_
  refine Lst.run rfl rfl (by decide) (Ev.move rfl) ?_
  obtain ⟨x4, h5, H⟩ := bind_some H
  have g6 := lat_some h5
  refine Lst.run rfl rfl (by decide) (Ev.indexS (α := Hand) (xs := a0.Hands) rfl rfl Try.runUnderlying122 Try.sizeOf135 rfl (by decide) (Rd.own (i := 0) rfl rfl rfl) g6.1 g6.2.1) ?_
  refine Lst.run rfl rfl (by decide) (Ev.assign rfl) ?_
  refine Lst.nil ?_
  refine At.then ?_
  refine Cd.seq ?_
  refine Cd.seq ?_
  refine Cd.region ?_
  refine Lst.run rfl rfl (by decide) (Ev.move rfl) ?_
  refine Lst.run rfl rfl (by decide) (Ev.eql rfl rfl) ?_
  refine Lst.run rfl rfl (by decide) (Ev.move rfl) ?_
  obtain ⟨o7, H, HKo7⟩ := bind_some H
  refine Lst.join (σ := Bool) 6 (fun y8 => [(0, .pointer (some ⟨b_a0, 0, none⟩)), (1, .int .i64 a1), (4, Sl.at s_a0_0 (a1.toNat * 3)), (19, .bool y8)]) (fun y8 => (.own s_a0_0 135 3 (encs a0.Hands)) :: (.own s_a0_1 209 3 (encs a0.Way)) :: (.blk b_a0 (enc (OverR.mk a0 s_a0_0 s_a0_1)) 124) :: L) (fun _ y8 => y8 = o7) ?_ ?_
  · rcases Bool.eq_false_or_eq_true (a1 == (0 : Int)) with hb9 | hb9
    · replace H := ite_t hb9 H
      refine Lst.skip rfl rfl rfl hb9 rfl (by decide) ?_
      refine Lst.skip rfl rfl rfl hb9 rfl (by decide) ?_
      refine Lst.skip rfl rfl rfl hb9 rfl (by decide) ?_
      refine Lst.skip rfl rfl rfl hb9 rfl (by decide) ?_
      refine Lst.skip rfl rfl rfl hb9 rfl (by decide) ?_
      refine Lst.run rfl rfl (by decide) (Ev.pickT rfl hb9 rfl) ?_
      refine Lst.nil ?_
      exact At.meet true (FLe.refl _) ⟨rfl, rfl, rfl, rfl, trivial⟩ rfl (some_inj H)
    replace H := ite_f hb9 H
    refine Lst.runG rfl rfl rfl hb9 rfl (by decide) (Ev.move rfl) ?_
    refine Lst.runG rfl rfl rfl hb9 rfl (by decide) (Ev.nilCheckS (α := Hand) rfl (Rd.own (i := 0) rfl rfl rfl) ((Get.elemN (s := 3) (x := x4) rfl g6.2.2 (Get.here _)).off (by omega)) rfl) ?_
    refine Lst.runG rfl rfl rfl hb9 rfl (by decide) (Ev.fieldS (α := Hand) (f' := a1.toNat * 3 + 1) rfl (Rd.own (i := 0) rfl rfl rfl) ((Get.elemN (s := 3) (x := x4) rfl g6.2.2 (Get.here _)).off (by omega)) rfl Try.runUnderlying135 rfl Try.sizeOf3 rfl rfl rfl) ?_
    refine Lst.runG rfl rfl rfl hb9 rfl (by decide) (Ev.loadS (α := Hand) rfl (Rd.own (i := 0) rfl rfl rfl) Try.isAgg3 (v := .int .i64 x4.Boss) ((Get.elemN (s := 3) (x := x4) rfl g6.2.2 (Hand.get_Boss (Get.here _))).off (by omega))) ?_
    refine Lst.runG rfl rfl rfl hb9 rfl (by decide) (Ev.eql rfl rfl) ?_
    refine Lst.run rfl rfl (by decide) (Ev.pickF rfl hb9 rfl) ?_
    refine Lst.nil ?_
    exact At.meet (x4.Boss == (-1 : Int)) (FLe.refl _) ⟨rfl, rfl, rfl, rfl, trivial⟩ rfl (some_inj H)
  rintro F10 y8 hF11 hy
  subst hy
  refine Lst.as (e' := [(0, .pointer (some ⟨b_a0, 0, none⟩)), (1, .int .i64 a1), (4, Sl.at s_a0_0 (a1.toNat * 3)), (19, .bool y8)]) (L' := (.own s_a0_0 135 3 (encs a0.Hands)) :: (.own s_a0_1 209 3 (encs a0.Way)) :: (.blk b_a0 (enc (OverR.mk a0 s_a0_0 s_a0_1)) 124) :: L) ⟨rfl, rfl, rfl, rfl, trivial⟩ rfl ?_
  replace H := HKo7
  refine Lst.run rfl rfl (by decide) (Ev.move rfl) ?_
  obtain ⟨o12, H, HKo12⟩ := bind_some H
  refine Lst.join (σ := Bool) 5 (fun y13 => [(0, .pointer (some ⟨b_a0, 0, none⟩)), (1, .int .i64 a1), (4, Sl.at s_a0_0 (a1.toNat * 3)), (25, .bool y13)]) (fun y13 => (.own s_a0_0 135 3 (encs a0.Hands)) :: (.own s_a0_1 209 3 (encs a0.Way)) :: (.blk b_a0 (enc (OverR.mk a0 s_a0_0 s_a0_1)) 124) :: L) (fun _ y13 => y13 = o12) ?_ ?_
  · rcases Bool.eq_false_or_eq_true y8 with hb14 | hb14
    · replace H := ite_t hb14 H
      refine Lst.skip rfl rfl rfl hb14 rfl (by decide) ?_
      refine Lst.skip rfl rfl rfl hb14 rfl (by decide) ?_
      refine Lst.skip rfl rfl rfl hb14 rfl (by decide) ?_
      refine Lst.skip rfl rfl rfl hb14 rfl (by decide) ?_
      refine Lst.run rfl rfl (by decide) (Ev.pickT rfl hb14 rfl) ?_
      refine Lst.nil ?_
      exact At.meet true (FLe.refl _) ⟨rfl, rfl, rfl, rfl, trivial⟩ rfl (some_inj H)
    replace H := ite_f hb14 H
    refine Lst.runG rfl rfl rfl hb14 rfl (by decide) (Ev.move rfl) ?_
    refine Lst.runG rfl rfl rfl hb14 rfl (by decide) (Ev.nilCheckS (α := Hand) rfl (Rd.own (i := 0) rfl rfl rfl) ((Get.elemN (s := 3) (x := x4) rfl g6.2.2 (Get.here _)).off (by omega)) rfl) ?_
    refine Lst.runG rfl rfl rfl hb14 rfl (by decide) (Ev.fieldS (α := Hand) (f' := a1.toNat * 3 + 0) rfl (Rd.own (i := 0) rfl rfl rfl) ((Get.elemN (s := 3) (x := x4) rfl g6.2.2 (Get.here _)).off (by omega)) rfl Try.runUnderlying135 rfl Try.sizeOf4 rfl rfl rfl) ?_
    refine Lst.runG rfl rfl rfl hb14 rfl (by decide) (Ev.loadS (α := Hand) rfl (Rd.own (i := 0) rfl rfl rfl) Try.isAgg4 (v := .bool x4.Busy) ((Get.elemN (s := 3) (x := x4) rfl g6.2.2 (Hand.get_Busy (Get.here _))).off (by omega))) ?_
    refine Lst.run rfl rfl (by decide) (Ev.pickF rfl hb14 rfl) ?_
    refine Lst.nil ?_
    exact At.meet x4.Busy (FLe.refl _) ⟨rfl, rfl, rfl, rfl, trivial⟩ rfl (some_inj H)
  rintro F15 y13 hF16 hy
  subst hy
  refine Lst.as (e' := [(0, .pointer (some ⟨b_a0, 0, none⟩)), (1, .int .i64 a1), (4, Sl.at s_a0_0 (a1.toNat * 3)), (25, .bool y13)]) (L' := (.own s_a0_0 135 3 (encs a0.Hands)) :: (.own s_a0_1 209 3 (encs a0.Way)) :: (.blk b_a0 (enc (OverR.mk a0 s_a0_0 s_a0_1)) 124) :: L) ⟨rfl, rfl, rfl, rfl, trivial⟩ rfl ?_
  replace H := HKo12
  refine Lst.run rfl rfl (by decide) (Ev.move rfl) ?_
  obtain ⟨o17, H, HKo17⟩ := bind_some H
  refine Lst.join (σ := Bool) 6 (fun y18 => [(0, .pointer (some ⟨b_a0, 0, none⟩)), (1, .int .i64 a1), (4, Sl.at s_a0_0 (a1.toNat * 3)), (32, .bool y18)]) (fun y18 => (.own s_a0_0 135 3 (encs a0.Hands)) :: (.own s_a0_1 209 3 (encs a0.Way)) :: (.blk b_a0 (enc (OverR.mk a0 s_a0_0 s_a0_1)) 124) :: L) (fun _ y18 => y18 = o17) ?_ ?_
  · rcases Bool.eq_false_or_eq_true y13 with hb19 | hb19
    · replace H := ite_t hb19 H
      refine Lst.skip rfl rfl rfl hb19 rfl (by decide) ?_
      refine Lst.skip rfl rfl rfl hb19 rfl (by decide) ?_
      refine Lst.skip rfl rfl rfl hb19 rfl (by decide) ?_
      refine Lst.skip rfl rfl rfl hb19 rfl (by decide) ?_
      refine Lst.skip rfl rfl rfl hb19 rfl (by decide) ?_
      refine Lst.run rfl rfl (by decide) (Ev.pickT rfl hb19 rfl) ?_
      refine Lst.nil ?_
      exact At.meet true (FLe.refl _) ⟨rfl, rfl, rfl, rfl, trivial⟩ rfl (some_inj H)
    replace H := ite_f hb19 H
    refine Lst.runG rfl rfl rfl hb19 rfl (by decide) (Ev.move rfl) ?_
    refine Lst.runG rfl rfl rfl hb19 rfl (by decide) (Ev.nilCheckS (α := Hand) rfl (Rd.own (i := 0) rfl rfl rfl) ((Get.elemN (s := 3) (x := x4) rfl g6.2.2 (Get.here _)).off (by omega)) rfl) ?_
    refine Lst.runG rfl rfl rfl hb19 rfl (by decide) (Ev.fieldS (α := Hand) (f' := a1.toNat * 3 + 2) rfl (Rd.own (i := 0) rfl rfl rfl) ((Get.elemN (s := 3) (x := x4) rfl g6.2.2 (Get.here _)).off (by omega)) rfl Try.runUnderlying135 rfl Try.sizeOf3 rfl rfl rfl) ?_
    refine Lst.runG rfl rfl rfl hb19 rfl (by decide) (Ev.loadS (α := Hand) rfl (Rd.own (i := 0) rfl rfl rfl) Try.isAgg3 (v := .int .i64 x4.Owed) ((Get.elemN (s := 3) (x := x4) rfl g6.2.2 (Hand.get_Owed (Get.here _))).off (by omega))) ?_
    refine Lst.runG rfl rfl rfl hb19 rfl (by decide) (Ev.gtr rfl rfl) ?_
    refine Lst.run rfl rfl (by decide) (Ev.pickF rfl hb19 rfl) ?_
    refine Lst.nil ?_
    exact At.meet (decide (x4.Owed > (0 : Int))) (FLe.refl _) ⟨rfl, rfl, rfl, rfl, trivial⟩ rfl (some_inj H)
  rintro F20 y18 hF21 hy
  subst hy
  refine Lst.as (e' := [(0, .pointer (some ⟨b_a0, 0, none⟩)), (1, .int .i64 a1), (4, Sl.at s_a0_0 (a1.toNat * 3)), (32, .bool y18)]) (L' := (.own s_a0_0 135 3 (encs a0.Hands)) :: (.own s_a0_1 209 3 (encs a0.Way)) :: (.blk b_a0 (enc (OverR.mk a0 s_a0_0 s_a0_1)) 124) :: L) ⟨rfl, rfl, rfl, rfl, trivial⟩ rfl ?_
  replace H := HKo17
  refine Lst.nil ?_
  refine At.then ?_
  rcases Bool.eq_false_or_eq_true y18 with hb22 | hb22
  · replace H := ite_t hb22 H
    refine Cd.condT rfl hb22 ?_
    obtain rfl := some_inj H
    refine Cd.ret ?_
    refine At.then_ret ?_
    exact At.ret0 (.inl rfl) rfl (FLe.trans (FLe.trans hF11 hF16) hF21) (List.Sublist.cons_cons _ (List.Sublist.cons_cons _ (List.Sublist.cons_cons _ (List.Sublist.refl _)))) ⟨s_a0_0, s_a0_1, rfl, rfl⟩
  replace H := ite_f hb22 H
  refine Cd.condF rfl hb22 ?_
  refine Cd.skip ?_
  refine At.then ?_
  refine Cd.seq ?_
  obtain ⟨u25, h26, H⟩ := bind_some H
  obtain ⟨o35, h36, H⟩ := Let_some H
  refine Cd.headMeet (σ := Sl × (List Word) × Sl × (List Word) × Over × Sl) 13 (fun (s29, l30, s31, l32, y33, s34) => [(4, Sl.at s_a0_0 (a1.toNat * 3)), (33, .pointer (some ⟨b_a0, 0, none⟩)), (45, Sl.v s31)]) (fun (s29, l30, s31, l32, y33, s34) => (.own s29 209 3 (encs l30)) :: (.own s_a0_0 135 3 (encs a0.Hands)) :: (.own s31 209 3 (encs l32)) :: (.blk b_a0 (enc (OverR.mk ({ y33 with Hands := a0.Hands } : Over) s_a0_0 s34)) 124) :: L) (fun _ (s29, l30, s31, l32, y33, s34) => (l30, l32, y33) = o35) (by kernel_rfl) (by kernel_rfl) (behind_sink (by kernel_rfl) (by kernel_rfl) (by kernel_rfl)) (by kernel_rfl) (fun hsel hlt => ?_) ?_
  · refine HdJ.keep (fun w => St w0 F20 ((.own s_a0_0 135 3 (encs a0.Hands)) :: (.blk b_a0 (enc (OverR.mk a0 s_a0_0 s_a0_1)) 124) :: L) w) (fun w h => trivial) ?_
    refine HdJ.takeK hsel hlt 0 (fun w h => h.sublist (List.Sublist.cons_cons _ (List.Sublist.cons _ (List.Sublist.cons_cons _ (List.Sublist.refl _))))) rfl rfl (by decide) (by decide) (by kernel_rfl) (by kernel_rfl) rfl (Ev.move rfl) ?_
    refine HdJ.takeK hsel hlt 1 (fun w h => h.sublist (List.Sublist.cons_cons _ (List.Sublist.cons _ (List.Sublist.cons_cons _ (List.Sublist.refl _))))) rfl rfl (by decide) (by decide) (by kernel_rfl) (by kernel_rfl) rfl (Ev.move rfl) ?_
    refine HdJ.takeK hsel hlt 2 (fun w h => h.sublist (List.Sublist.cons_cons _ (List.Sublist.cons _ (List.Sublist.cons_cons _ (List.Sublist.refl _))))) rfl rfl (by decide) (by decide) (by kernel_rfl) (by kernel_rfl) rfl (Ev.nilCheck rfl) ?_
    refine HdJ.takeK hsel hlt 3 (fun w h => h.sublist (List.Sublist.cons_cons _ (List.Sublist.cons _ (List.Sublist.cons_cons _ (List.Sublist.refl _))))) rfl rfl (by decide) (by decide) (by kernel_rfl) (by kernel_rfl) rfl (Ev.fieldAddr (off' := 1) rfl Try.runUnderlying124 rfl Try.sizeOf112 rfl rfl) ?_
    refine HdJ.takeK hsel hlt 5 (fun w h => h.sublist (List.Sublist.cons_cons _ (List.Sublist.cons _ (List.Sublist.cons_cons _ (List.Sublist.refl _))))) rfl rfl (by decide) (by decide) (by kernel_rfl) (by kernel_rfl) rfl (Ev.move rfl) ?_
    refine HdJ.takeK hsel hlt 6 (fun w h => h.sublist (List.Sublist.cons_cons _ (List.Sublist.cons _ (List.Sublist.cons_cons _ (List.Sublist.refl _))))) rfl rfl (by decide) (by decide) (by kernel_rfl) (by kernel_rfl) rfl (Ev.move rfl) ?_
    refine HdJ.takeK hsel hlt 7 (fun w h => h.sublist (List.Sublist.cons_cons _ (List.Sublist.cons _ (List.Sublist.cons_cons _ (List.Sublist.refl _))))) rfl rfl (by decide) (by decide) (by kernel_rfl) (by kernel_rfl) rfl (Ev.nilCheckS (α := Hand) rfl (Rd.own (i := 0) rfl rfl rfl) ((Get.elemN (s := 3) (x := x4) rfl g6.2.2 (Get.here _)).off (by omega)) rfl) ?_
    refine HdJ.takeK hsel hlt 8 (fun w h => h.sublist (List.Sublist.cons_cons _ (List.Sublist.cons _ (List.Sublist.cons_cons _ (List.Sublist.refl _))))) rfl rfl (by decide) (by decide) (by kernel_rfl) (by kernel_rfl) rfl (Ev.fieldS (α := Hand) (f' := a1.toNat * 3 + 1) rfl (Rd.own (i := 0) rfl rfl rfl) ((Get.elemN (s := 3) (x := x4) rfl g6.2.2 (Get.here _)).off (by omega)) rfl Try.runUnderlying135 rfl Try.sizeOf3 rfl rfl rfl) ?_
    refine HdJ.takeK hsel hlt 9 (fun w h => h.sublist (List.Sublist.cons_cons _ (List.Sublist.cons _ (List.Sublist.cons_cons _ (List.Sublist.refl _))))) rfl rfl (by decide) (by decide) (by kernel_rfl) (by kernel_rfl) rfl (Ev.loadS (α := Hand) rfl (Rd.own (i := 0) rfl rfl rfl) Try.isAgg3 (v := .int .i64 x4.Boss) ((Get.elemN (s := 3) (x := x4) rfl g6.2.2 (Hand.get_Boss (Get.here _))).off (by omega))) ?_
    refine HdJ.takeK hsel hlt 10 (fun w h => h.sublist (List.Sublist.cons_cons _ (List.Sublist.cons _ (List.Sublist.cons_cons _ (List.Sublist.refl _))))) rfl rfl (by decide) (by decide) (by kernel_rfl) (by kernel_rfl) rfl (Ev.build (v := .agg (enc ({ Word.zero with From := a1, To := x4.Boss } : Word)).toArray) (pv := [(0, .int .i64 a1), (1, .int .i64 x4.Boss)]) ⟨rfl, rfl, ⟨rfl, rfl, trivial⟩⟩ (fun w => by kernel_rfl)) ?_
    refine HdJ.step [4, 11] (by kernel_rfl) rfl ?_
    refine HdStep.cons (by decide) rfl (fun inv => ?_) ?_
    · refine Lst.run rfl rfl (by decide) (Ev.load (i := 2) rfl rfl Try.isAgg112 (v := Sl.v s_a0_1) ((OverR.get_Way (Get.here _)).off (by rfl))) ?_
      refine Lst.nil ?_
      refine At.hd inv (fun w h => (h.weaken (FLe.refl _)).sublist (List.Sublist.cons_cons _ (List.Sublist.cons _ (List.Sublist.cons_cons _ (List.Sublist.refl _))))) ?_
      refine HdJ.step [11] (by kernel_rfl) rfl ?_
      refine HdStep.cons (by decide) rfl (fun inv => ?_) ?_
      · refine Lst.buildSlice (α := Word) (xs := ([({ Word.zero with From := a1, To := x4.Boss } : Word)] : List Word)) (pv := [(0, .agg (enc ({ Word.zero with From := a1, To := x4.Boss } : Word)).toArray)]) rfl rfl (by decide) ⟨rfl, rfl, trivial⟩ (run_buildSlice (α := Word) (z0 := Word.zero) (xs := ([({ Word.zero with From := a1, To := x4.Boss } : Word)] : List Word)) Try.runUnderlying112 Try.sizeOf209 Try.zeroValue209 rfl rfl rfl (by decide) rfl (fill_cons (cs := encs (List.replicate 1 Word.zero)) (cs' := encs ((List.replicate 1 Word.zero).set 0 ({ Word.zero with From := a1, To := x4.Boss } : Word))) (vs := enc ({ Word.zero with From := a1, To := x4.Boss } : Word)) rfl rfl (Enc.len _) ((Put.elemN (s := 3) (i := 0) (x := Word.zero) (y := ({ Word.zero with From := a1, To := x4.Boss } : Word)) rfl rfl (Put.here ((Enc.len _).trans (Enc.len _).symm))).off rfl) fill_nil)) rfl rfl (by decide) (fun s37 _ => ?_)
        refine Lst.nil ?_
        refine At.hd inv (fun w h => (h.weaken (FLe.refl _)).sublist (List.Sublist.cons _ (List.Sublist.cons_cons _ (List.Sublist.cons _ (List.Sublist.cons_cons _ (List.Sublist.refl _)))))) ?_
        refine HdJ.step [12] (by kernel_rfl) rfl ?_
        refine HdStep.cons (by decide) rfl (fun inv => ?_) ?_
        · refine Lst.append (i := 2) (α := Word) (xs := a0.Way) (ys := ([({ Word.zero with From := a1, To := x4.Boss } : Word)] : List Word)) rfl rfl (by decide) rfl rfl Try.runUnderlying112 Try.typeInfo209 rfl rfl rfl rfl rfl rfl (Rd.own (i := 0) rfl rfl rfl) rfl (room_some h26) rfl (fun s38 => ?_)
          refine Lst.its (L' := (.own s37 209 3 (encs ([({ Word.zero with From := a1, To := x4.Boss } : Word)] : List Word))) :: (.own s_a0_0 135 3 (encs a0.Hands)) :: (.own s38 209 3 (encs (a0.Way ++ ([({ Word.zero with From := a1, To := x4.Boss } : Word)] : List Word)))) :: (.blk b_a0 (enc (OverR.mk a0 s_a0_0 s_a0_1)) 124) :: L) rfl ?_
          refine Lst.nil ?_
          refine At.hd inv (fun w h => (h.weaken (FLe.refl _)).sublist (List.Sublist.cons _ (List.Sublist.cons_cons _ (List.Sublist.cons _ (List.Sublist.cons_cons _ (List.Sublist.refl _)))))) ?_
          refine HdJ.done (by kernel_rfl) ?_
          exact At.meetN (s37, ([({ Word.zero with From := a1, To := x4.Boss } : Word)] : List Word), s38, a0.Way ++ ([({ Word.zero with From := a1, To := x4.Boss } : Word)] : List Word), a0, s_a0_1) (FLe.refl _) ⟨rfl, rfl, rfl, trivial⟩ rfl h36
        exact trivial
      exact trivial
    refine HdStep.cons (by decide) rfl (fun inv => ?_) ?_
    · refine Lst.buildSlice (α := Word) (xs := ([({ Word.zero with From := a1, To := x4.Boss } : Word)] : List Word)) (pv := [(0, .agg (enc ({ Word.zero with From := a1, To := x4.Boss } : Word)).toArray)]) rfl rfl (by decide) ⟨rfl, rfl, trivial⟩ (run_buildSlice (α := Word) (z0 := Word.zero) (xs := ([({ Word.zero with From := a1, To := x4.Boss } : Word)] : List Word)) Try.runUnderlying112 Try.sizeOf209 Try.zeroValue209 rfl rfl rfl (by decide) rfl (fill_cons (cs := encs (List.replicate 1 Word.zero)) (cs' := encs ((List.replicate 1 Word.zero).set 0 ({ Word.zero with From := a1, To := x4.Boss } : Word))) (vs := enc ({ Word.zero with From := a1, To := x4.Boss } : Word)) rfl rfl (Enc.len _) ((Put.elemN (s := 3) (i := 0) (x := Word.zero) (y := ({ Word.zero with From := a1, To := x4.Boss } : Word)) rfl rfl (Put.here ((Enc.len _).trans (Enc.len _).symm))).off rfl) fill_nil)) rfl rfl (by decide) (fun s39 _ => ?_)
      refine Lst.nil ?_
      refine At.hd inv (fun w h => (h.weaken (FLe.refl _)).sublist (List.Sublist.cons _ (List.Sublist.cons_cons _ (List.Sublist.cons _ (List.Sublist.cons_cons _ (List.Sublist.refl _)))))) ?_
      refine HdJ.step [4] (by kernel_rfl) rfl ?_
      refine HdStep.cons (by decide) rfl (fun inv => ?_) ?_
      · refine Lst.run rfl rfl (by decide) (Ev.load (i := 3) rfl rfl Try.isAgg112 (v := Sl.v s_a0_1) ((OverR.get_Way (Get.here _)).off (by rfl))) ?_
        refine Lst.nil ?_
        refine At.hd inv (fun w h => (h.weaken (FLe.refl _)).sublist (List.Sublist.cons _ (List.Sublist.cons_cons _ (List.Sublist.cons _ (List.Sublist.cons_cons _ (List.Sublist.refl _)))))) ?_
        refine HdJ.step [12] (by kernel_rfl) rfl ?_
        refine HdStep.cons (by decide) rfl (fun inv => ?_) ?_
        · refine Lst.append (i := 2) (α := Word) (xs := a0.Way) (ys := ([({ Word.zero with From := a1, To := x4.Boss } : Word)] : List Word)) rfl rfl (by decide) rfl rfl Try.runUnderlying112 Try.typeInfo209 rfl rfl rfl rfl rfl rfl (Rd.own (i := 0) rfl rfl rfl) rfl (room_some h26) rfl (fun s40 => ?_)
          refine Lst.its (L' := (.own s39 209 3 (encs ([({ Word.zero with From := a1, To := x4.Boss } : Word)] : List Word))) :: (.own s_a0_0 135 3 (encs a0.Hands)) :: (.own s40 209 3 (encs (a0.Way ++ ([({ Word.zero with From := a1, To := x4.Boss } : Word)] : List Word)))) :: (.blk b_a0 (enc (OverR.mk a0 s_a0_0 s_a0_1)) 124) :: L) rfl ?_
          refine Lst.nil ?_
          refine At.hd inv (fun w h => (h.weaken (FLe.refl _)).sublist (List.Sublist.cons _ (List.Sublist.cons_cons _ (List.Sublist.cons _ (List.Sublist.cons_cons _ (List.Sublist.refl _)))))) ?_
          refine HdJ.done (by kernel_rfl) ?_
          exact At.meetN (s39, ([({ Word.zero with From := a1, To := x4.Boss } : Word)] : List Word), s40, a0.Way ++ ([({ Word.zero with From := a1, To := x4.Boss } : Word)] : List Word), a0, s_a0_1) (FLe.refl _) ⟨rfl, rfl, rfl, trivial⟩ rfl h36
        exact trivial
      exact trivial
    exact trivial
  rintro F41 ⟨s29, l30, s31, l32, y33, s34⟩ hF42 hy
  subst hy
  refine Lst.as (e' := [(4, Sl.at s_a0_0 (a1.toNat * 3)), (33, .pointer (some ⟨b_a0, 0, none⟩)), (45, Sl.v s31)]) (L' := (.own s29 209 3 (encs l30)) :: (.own s_a0_0 135 3 (encs a0.Hands)) :: (.own s31 209 3 (encs l32)) :: (.blk b_a0 (enc (OverR.mk ({ y33 with Hands := a0.Hands } : Over) s_a0_0 s34)) 124) :: L) ⟨rfl, rfl, rfl, trivial⟩ rfl ?_
  refine Lst.run rfl rfl (by decide) (Ev.nilCheck rfl) ?_
  refine Lst.run rfl rfl (by decide) (Ev.fieldAddr (off' := 1) rfl Try.runUnderlying124 rfl Try.sizeOf112 rfl rfl) ?_
  refine Lst.store (i := 3) rfl rfl rfl rfl rfl Try.sizeOf112 (vs := [Sl.v s31]) rfl rfl rfl (cs' := enc (OverR.mk ({ y33 with Hands := a0.Hands, Way := l32 } : Over) s_a0_0 s31)) ((OverR.put_Way (Put.here (vs := [Sl.v s31]) rfl)).off (by rfl)) (L' := (.own s29 209 3 (encs l30)) :: (.own s_a0_0 135 3 (encs a0.Hands)) :: (.own s31 209 3 (encs l32)) :: (.blk b_a0 (enc (OverR.mk ({ y33 with Hands := a0.Hands, Way := l32 } : Over) s_a0_0 s31)) 124) :: L) rfl ?_
  refine Lst.nil ?_
  refine At.then ?_
  refine Cd.region ?_
  refine Lst.run rfl rfl (by decide) (Ev.move rfl) ?_
  refine Lst.run rfl rfl (by decide) (Ev.nilCheckS (α := Hand) rfl (Rd.own (i := 1) rfl rfl rfl) ((Get.elemN (s := 3) (x := x4) rfl g6.2.2 (Get.here _)).off (by omega)) rfl) ?_
  refine Lst.run rfl rfl (by decide) (Ev.fieldS (α := Hand) (f' := a1.toNat * 3 + 1) rfl (Rd.own (i := 1) rfl rfl rfl) ((Get.elemN (s := 3) (x := x4) rfl g6.2.2 (Get.here _)).off (by omega)) rfl Try.runUnderlying135 rfl Try.sizeOf3 rfl rfl rfl) ?_
  obtain ⟨p43, h44, H⟩ := Let_some H
  refine Lst.storeS (i := 1) rfl rfl rfl rfl rfl Try.sizeOf3 (vs := [.int .i64 (-1 : Int)]) rfl rfl (by decide) rfl (xs' := encs p43) (by rw [← h44]; exact (Put.elemN (s := 3) (x := x4) rfl g6.2.2 (Hand.put_Boss (Put.here (vs := [.int .i64 (-1 : Int)]) rfl))).off (by omega)) (L' := (.own s29 209 3 (encs l30)) :: (.own s_a0_0 135 3 (encs p43)) :: (.own s31 209 3 (encs l32)) :: (.blk b_a0 (enc (OverR.mk ({ y33 with Hands := p43, Way := l32 } : Over) s_a0_0 s31)) 124) :: L) rfl ?_
  refine Lst.nil ?_
  obtain rfl := some_inj H
  exact At.ret0 (.inr rfl) rfl (FLe.trans (FLe.trans (FLe.trans hF11 hF16) hF21) hF42) (List.Sublist.cons _ (List.Sublist.cons_cons _ (List.Sublist.cons_cons _ (List.Sublist.cons_cons _ (List.Sublist.refl _))))) ⟨s_a0_0, s31, rfl, rfl⟩
set_option maxRecDepth 20000 in
theorem over_Take_sim {a0 : Over} {a1 : Int} {s_a0_0 : Sl} {s_a0_1 : Sl} {r : Over × Int} (H : over_Take a0 a1 = some r) (w0 : World) (F : Frz) (M L : List Item) (hM : M.Sublist L) (hs_a0_0 : Rd w0 F M s_a0_0 a0.Hands) (hs_a0_1 : Rd w0 F M s_a0_1 a0.Way) : Ok Try.prog w0 76 [.agg (enc (OverR.mk a0 s_a0_0 s_a0_1)).toArray, .int .i64 a1] F (L) (fun _ L' v => ∃ (s81 : Sl) (s83 : Sl), v = .tuple #[.agg (enc (OverR.mk r.1 s81 s83)).toArray, .int .i64 r.2] ∧ L' = (.own s81 135 3 (encs r.1.Hands)) :: (.own s83 209 3 (encs r.1.Way)) :: L) := by
  unfold over_Take at H
  refine Ok.enter (m := 2) (n := 88) Try.func76 rfl rfl rfl (by decide) ?_
  refine Cd.env (e' := [(0, .agg (enc (OverR.mk a0 s_a0_0 s_a0_1)).toArray), (1, .int .i64 a1)]) rfl ?_
  refine Cd.seq ?_
  refine Cd.region ?_
  refine Lst.box rfl rfl (by decide) rfl (cs := enc (OverR.mk a0 s_a0_0 s_a0_1)) rfl (fun b1 => ?_)
  refine Lst.addNil 135 3 ?_
  refine Lst.addNil 209 3 ?_
  refine Lst.alloc (cs := enc (OverR.mk ({ Over.zero with Hands := ([] : List Hand), Way := ([] : List Word) } : Over) Sl.nil Sl.nil)) rfl rfl (by decide) Try.zeroValue124 rfl (fun b5 => ?_)
  refine Lst.run rfl rfl (by decide) (Ev.assign rfl) ?_
  refine Lst.nil ?_
  refine At.then ?_
  refine Cd.seq ?_
  refine Cd.seq ?_
  refine Cd.region ?_
  refine Lst.run rfl rfl (by decide) (Ev.loadA (i := 3) rfl rfl Try.isAgg124 Try.sizeOf124 (ch := enc (OverR.mk a0 s_a0_0 s_a0_1)) (Enc.len _) (Get.here _)) ?_
  obtain ⟨r7, h8, H⟩ := bind_some H
  refine Lst.call1 rfl rfl (by decide) (vs := [.agg (enc (OverR.mk a0 s_a0_0 s_a0_1)).toArray]) ⟨rfl, trivial⟩ Try.call81 (over_Check_sim h8 w0 _ M _ (List.Sublist.cons _ (List.Sublist.cons _ (List.Sublist.cons _ (List.Sublist.cons _ hM)))) (hs_a0_0.mono (FLe.refl _) (List.Sublist.refl _)) (hs_a0_1.mono (FLe.refl _) (List.Sublist.refl _))) ?_
  refine Lst.run rfl rfl (by decide) (Ev.assign rfl) ?_
  refine Lst.nil ?_
  refine At.then ?_
  refine Cd.seq ?_
  refine Cd.region ?_
  refine Lst.run rfl rfl (by decide) (Ev.move rfl) ?_
  refine Lst.run rfl rfl (by decide) (Ev.neq rfl rfl) ?_
  refine Lst.nil ?_
  refine At.then ?_
  rcases Bool.eq_false_or_eq_true (r7 != (0 : Int)) with hb11 | hb11
  · replace H := ite_t hb11 H
    refine Cd.condT rfl hb11 ?_
    refine Cd.seq ?_
    refine Cd.region ?_
    refine Lst.run rfl rfl (by decide) (Ev.build (v := .agg (enc (OverR.mk Over.zero Sl.nil Sl.nil)).toArray) (pv := []) trivial (fun w => by kernel_rfl)) ?_
    refine Lst.run rfl rfl (by decide) (Ev.move rfl) ?_
    refine Lst.store (i := 0) rfl rfl rfl rfl rfl Try.sizeOf124 (vs := enc (OverR.mk Over.zero Sl.nil Sl.nil)) rfl (Enc.len _) (Enc.one _) (cs' := enc (OverR.mk Over.zero Sl.nil Sl.nil)) (Put.here ((Enc.len _).trans (Enc.len _).symm)) (L' := (.blk b5 (enc (OverR.mk Over.zero Sl.nil Sl.nil)) 124) :: (.own Sl.nil 209 3 (encs ([] : List Word))) :: (.own Sl.nil 135 3 (encs ([] : List Hand))) :: (.blk b1 (enc (OverR.mk a0 s_a0_0 s_a0_1)) 124) :: L) rfl ?_
    refine Lst.run rfl rfl (by decide) (Ev.assign rfl) ?_
    refine Lst.nil ?_
    refine At.then ?_
    obtain rfl := some_inj H
    refine Cd.ret ?_
    refine At.then_ret ?_
    refine At.addNil 135 3 ?_
    refine At.addNil 209 3 ?_
    refine At.front (i := 1) rfl rfl ?_
    exact At.ret2 rfl (Res.cellA (i := 2) rfl rfl Try.isAgg124 Try.sizeOf124 (Enc.len _)) (Res.tmp rfl) (FLe.refl _) (List.Sublist.cons_cons _ (List.Sublist.cons_cons _ (List.Sublist.cons _ (List.Sublist.cons _ (List.Sublist.cons _ (List.Sublist.cons _ (List.Sublist.refl _))))))) ⟨Sl.nil, Sl.nil, rfl, rfl⟩
  replace H := ite_f hb11 H
  refine Cd.condF rfl hb11 ?_
  refine Cd.skip ?_
  refine At.then ?_
  refine Cd.seq ?_
  refine Cd.seq ?_
  refine Cd.region ?_
  refine Lst.run rfl rfl (by decide) (Ev.move rfl) ?_
  refine Lst.run rfl rfl (by decide) (Ev.fieldAddr (off' := 1) rfl Try.runUnderlying124 rfl Try.sizeOf112 rfl rfl) ?_
  refine Lst.run rfl rfl (by decide) (Ev.load (i := 3) rfl rfl Try.isAgg112 (v := Sl.v s_a0_1) ((OverR.get_Way (Get.here _)).off (by rfl))) ?_
  refine Lst.run rfl rfl (by decide) (Ev.lenS (α := Word) (xs := a0.Way) (by decide) rfl rfl Try.runUnderlying112 (hs_a0_1.mono (FLe.refl _) (List.Sublist.cons _ (List.Sublist.cons _ (List.Sublist.cons _ (List.Sublist.cons _ hM)))))) ?_
  refine Lst.run rfl rfl (by decide) (Ev.sub rfl rfl) ?_
  obtain ⟨r14, h15, H⟩ := bind_some H
  refine Lst.call1 rfl rfl (by decide) (vs := [.int .i64 a1, .int .i64 (0 : Int), .int .i64 (w64 ((a0.Way.length : Int) - (1 : Int)))]) ⟨rfl, rfl, rfl, trivial⟩ Try.call165 (over_in_sim h15 w0 _ M _ (List.Sublist.cons _ (List.Sublist.cons _ (List.Sublist.cons _ (List.Sublist.cons _ hM))))) ?_
  refine Lst.run rfl rfl (by decide) (Ev.not rfl) ?_
  refine Lst.nil ?_
  refine At.then ?_
  rcases Bool.eq_false_or_eq_true (!r14) with hb18 | hb18
  · replace H := ite_t hb18 H
    refine Cd.condT rfl hb18 ?_
    refine Cd.seq ?_
    refine Cd.as (e' := [(4, .pointer (some ⟨b5, 0, none⟩))]) (L' := (.blk b5 (enc (OverR.mk ({ Over.zero with Hands := ([] : List Hand), Way := ([] : List Word) } : Over) Sl.nil Sl.nil)) 124) :: (.own Sl.nil 209 3 (encs ([] : List Word))) :: (.own Sl.nil 135 3 (encs ([] : List Hand))) :: (.blk b1 (enc (OverR.mk a0 s_a0_0 s_a0_1)) 124) :: L) ⟨rfl, trivial⟩ rfl ?_
    refine Cd.region ?_
    refine Lst.run rfl rfl (by decide) (Ev.build (v := .agg (enc (OverR.mk Over.zero Sl.nil Sl.nil)).toArray) (pv := []) trivial (fun w => by kernel_rfl)) ?_
    refine Lst.store (i := 0) rfl rfl rfl rfl rfl Try.sizeOf124 (vs := enc (OverR.mk Over.zero Sl.nil Sl.nil)) rfl (Enc.len _) (Enc.one _) (cs' := enc (OverR.mk Over.zero Sl.nil Sl.nil)) (Put.here ((Enc.len _).trans (Enc.len _).symm)) (L' := (.blk b5 (enc (OverR.mk Over.zero Sl.nil Sl.nil)) 124) :: (.own Sl.nil 209 3 (encs ([] : List Word))) :: (.own Sl.nil 135 3 (encs ([] : List Hand))) :: (.blk b1 (enc (OverR.mk a0 s_a0_0 s_a0_1)) 124) :: L) rfl ?_
    refine Lst.run rfl rfl (by decide) (Ev.assign rfl) ?_
    refine Lst.nil ?_
    refine At.then ?_
    obtain rfl := some_inj H
    refine Cd.ret ?_
    refine At.then_ret ?_
    refine At.addNil 135 3 ?_
    refine At.addNil 209 3 ?_
    refine At.front (i := 1) rfl rfl ?_
    exact At.ret2 rfl (Res.cellA (i := 2) rfl rfl Try.isAgg124 Try.sizeOf124 (Enc.len _)) (Res.tmp rfl) (FLe.refl _) (List.Sublist.cons_cons _ (List.Sublist.cons_cons _ (List.Sublist.cons _ (List.Sublist.cons _ (List.Sublist.cons _ (List.Sublist.cons _ (List.Sublist.refl _))))))) ⟨Sl.nil, Sl.nil, rfl, rfl⟩
  replace H := ite_f hb18 H
  refine Cd.condF rfl hb18 ?_
  refine Cd.skip ?_
  refine At.then ?_
  refine Cd.seq ?_
  refine Cd.region ?_
  refine Lst.run rfl rfl (by decide) (Ev.loadA (i := 3) rfl rfl Try.isAgg124 Try.sizeOf124 (ch := enc (OverR.mk a0 s_a0_0 s_a0_1)) (Enc.len _) (Get.here _)) ?_
  obtain ⟨r21, h22, H⟩ := bind_some H
  refine Lst.call rfl rfl (by decide) (vs := [.agg (enc (OverR.mk a0 s_a0_0 s_a0_1)).toArray]) ⟨rfl, trivial⟩ Try.call166 (over_clone_sim h22 w0 _ M _ (List.Sublist.cons _ (List.Sublist.cons _ (List.Sublist.cons _ (List.Sublist.cons _ hM)))) (hs_a0_0.mono (FLe.refl _) (List.Sublist.refl _)) (hs_a0_1.mono (FLe.refl _) (List.Sublist.refl _))) (fun F27 L' v hF28 hv => ?_)
  obtain ⟨s23, s25, rfl, rfl⟩ := hv
  refine Lst.addNil 135 3 ?_
  refine Lst.addNil 209 3 ?_
  refine Lst.alloc (cs := enc (OverR.mk ({ Over.zero with Hands := ([] : List Hand), Way := ([] : List Word) } : Over) Sl.nil Sl.nil)) rfl rfl (by decide) Try.zeroValue124 rfl (fun b31 => ?_)
  refine Lst.store (i := 0) rfl rfl rfl rfl rfl Try.sizeOf124 (vs := enc (OverR.mk r21 s23 s25)) rfl (Enc.len _) (Enc.one _) (cs' := enc (OverR.mk r21 s23 s25)) (Put.here ((Enc.len _).trans (Enc.len _).symm)) (L' := (.blk b31 (enc (OverR.mk r21 s23 s25)) 124) :: (.own Sl.nil 209 3 (encs ([] : List Word))) :: (.own Sl.nil 135 3 (encs ([] : List Hand))) :: (.own s23 135 3 (encs r21.Hands)) :: (.own s25 209 3 (encs r21.Way)) :: (.blk b5 (enc (OverR.mk ({ Over.zero with Hands := ([] : List Hand), Way := ([] : List Word) } : Over) Sl.nil Sl.nil)) 124) :: (.own Sl.nil 209 3 (encs ([] : List Word))) :: (.own Sl.nil 135 3 (encs ([] : List Hand))) :: (.blk b1 (enc (OverR.mk a0 s_a0_0 s_a0_1)) 124) :: L) rfl ?_
  refine Lst.nil ?_
  refine At.then ?_
  refine Cd.seq ?_
  refine Cd.as (e' := [(1, .int .i64 a1), (4, .pointer (some ⟨b5, 0, none⟩)), (7, .pointer (some ⟨b31, 0, none⟩))]) (L' := (.blk b31 (enc (OverR.mk r21 s23 s25)) 124) :: (.own Sl.nil 209 3 (encs ([] : List Word))) :: (.own Sl.nil 135 3 (encs ([] : List Hand))) :: (.own s23 135 3 (encs r21.Hands)) :: (.own s25 209 3 (encs r21.Way)) :: (.blk b5 (enc (OverR.mk ({ Over.zero with Hands := ([] : List Hand), Way := ([] : List Word) } : Over) Sl.nil Sl.nil)) 124) :: (.own Sl.nil 209 3 (encs ([] : List Word))) :: (.own Sl.nil 135 3 (encs ([] : List Hand))) :: (.blk b1 (enc (OverR.mk a0 s_a0_0 s_a0_1)) 124) :: L) ⟨rfl, rfl, rfl, trivial⟩ rfl ?_
  refine Cd.region ?_
  refine Lst.run rfl rfl (by decide) (Ev.fieldAddr (off' := 1) rfl Try.runUnderlying124 rfl Try.sizeOf112 rfl rfl) ?_
  refine Lst.run rfl rfl (by decide) (Ev.load (i := 0) rfl rfl Try.isAgg112 (v := Sl.v s25) ((OverR.get_Way (Get.here _)).off (by rfl))) ?_
  refine Lst.run rfl rfl (by decide) (Ev.move rfl) ?_
  obtain ⟨x33, h34, H⟩ := bind_some H
  have g35 := lat_some h34
  refine Lst.run rfl rfl (by decide) (Ev.indexS (α := Word) (xs := r21.Way) rfl rfl Try.runUnderlying112 Try.sizeOf209 rfl (by decide) (Rd.own (i := 4) rfl rfl rfl) g35.1 g35.2.1) ?_
  refine Lst.run rfl rfl (by decide) (Ev.loadSA (α := Word) rfl (Rd.own (i := 4) rfl rfl rfl) Try.isAgg209 Try.sizeOf209 (ch := enc x33) (Enc.len _) (by decide) ((Get.elemN (s := 3) (x := x33) rfl g35.2.2 (Get.here _)).off (by omega))) ?_
  refine Lst.alloc (cs := enc Word.zero) rfl rfl (by decide) Try.zeroValue209 rfl (fun b36 => ?_)
  refine Lst.store (i := 0) rfl rfl rfl rfl rfl Try.sizeOf209 (vs := enc x33) rfl (Enc.len _) (Enc.one _) (cs' := enc x33) (Put.here ((Enc.len _).trans (Enc.len _).symm)) (L' := (.blk b36 (enc x33) 209) :: (.blk b31 (enc (OverR.mk r21 s23 s25)) 124) :: (.own Sl.nil 209 3 (encs ([] : List Word))) :: (.own Sl.nil 135 3 (encs ([] : List Hand))) :: (.own s23 135 3 (encs r21.Hands)) :: (.own s25 209 3 (encs r21.Way)) :: (.blk b5 (enc (OverR.mk ({ Over.zero with Hands := ([] : List Hand), Way := ([] : List Word) } : Over) Sl.nil Sl.nil)) 124) :: (.own Sl.nil 209 3 (encs ([] : List Word))) :: (.own Sl.nil 135 3 (encs ([] : List Hand))) :: (.blk b1 (enc (OverR.mk a0 s_a0_0 s_a0_1)) 124) :: L) rfl ?_
  refine Lst.nil ?_
  refine At.then ?_
  refine Cd.seq ?_
  refine Cd.region ?_
  refine Lst.run rfl rfl (by decide) (Ev.fieldAddr (off' := 1) rfl Try.runUnderlying124 rfl Try.sizeOf112 rfl rfl) ?_
  refine Lst.run rfl rfl (by decide) (Ev.load (i := 1) rfl rfl Try.isAgg112 (v := Sl.v s25) ((OverR.get_Way (Get.here _)).off (by rfl))) ?_
  refine Lst.run rfl rfl (by decide) (Ev.move rfl) ?_
  refine Lst.run rfl rfl (by decide) (Ev.move rfl) ?_
  refine Lst.run rfl rfl (by decide) (Ev.add rfl rfl) ?_
  obtain ⟨r38, h39, H⟩ := bind_some H
  refine Lst.front (i := 5) rfl (L' := (.own s25 209 3 (encs r21.Way)) :: (.blk b36 (enc x33) 209) :: (.blk b31 (enc (OverR.mk r21 s23 s25)) 124) :: (.own Sl.nil 209 3 (encs ([] : List Word))) :: (.own Sl.nil 135 3 (encs ([] : List Hand))) :: (.own s23 135 3 (encs r21.Hands)) :: (.blk b5 (enc (OverR.mk ({ Over.zero with Hands := ([] : List Hand), Way := ([] : List Word) } : Over) Sl.nil Sl.nil)) 124) :: (.own Sl.nil 209 3 (encs ([] : List Word))) :: (.own Sl.nil 135 3 (encs ([] : List Hand))) :: (.blk b1 (enc (OverR.mk a0 s_a0_0 s_a0_1)) 124) :: L) rfl ?_
  refine Lst.call rfl rfl (by decide) (vs := [Sl.v s25, .int .i64 a1, .int .i64 (w64 (a1 + (1 : Int)))]) ⟨rfl, rfl, rfl, trivial⟩ Try.call157 (slices_Delete_api_Word_api_Word_sim h39 w0 _ M _ (List.Sublist.cons _ (List.Sublist.cons _ (List.Sublist.cons _ (List.Sublist.cons _ (List.Sublist.cons _ (List.Sublist.cons _ (List.Sublist.cons _ (List.Sublist.cons _ (List.Sublist.cons _ hM)))))))))) (fun F42 L' v hF43 hv => ?_)
  obtain ⟨s40, rfl, rfl⟩ := hv
  refine Lst.run rfl rfl (by decide) (Ev.fieldAddr (off' := 1) rfl Try.runUnderlying124 rfl Try.sizeOf112 rfl rfl) ?_
  refine Lst.store (i := 2) rfl rfl rfl rfl rfl Try.sizeOf112 (vs := [Sl.v s40]) rfl rfl rfl (cs' := enc (OverR.mk ({ r21 with Way := r38 } : Over) s23 s40)) ((OverR.put_Way (Put.here (vs := [Sl.v s40]) rfl)).off (by rfl)) (L' := (.own s40 209 3 (encs r38)) :: (.blk b36 (enc x33) 209) :: (.blk b31 (enc (OverR.mk ({ r21 with Way := r38 } : Over) s23 s40)) 124) :: (.own Sl.nil 209 3 (encs ([] : List Word))) :: (.own Sl.nil 135 3 (encs ([] : List Hand))) :: (.own s23 135 3 (encs r21.Hands)) :: (.blk b5 (enc (OverR.mk ({ Over.zero with Hands := ([] : List Hand), Way := ([] : List Word) } : Over) Sl.nil Sl.nil)) 124) :: (.own Sl.nil 209 3 (encs ([] : List Word))) :: (.own Sl.nil 135 3 (encs ([] : List Hand))) :: (.blk b1 (enc (OverR.mk a0 s_a0_0 s_a0_1)) 124) :: L) rfl ?_
  refine Lst.nil ?_
  refine At.then ?_
  refine Cd.seq ?_
  refine Cd.region ?_
  refine Lst.run rfl rfl (by decide) (Ev.fieldAddr (off' := 0) rfl Try.runUnderlying124 rfl Try.sizeOf122 rfl rfl) ?_
  refine Lst.run rfl rfl (by decide) (Ev.load (i := 2) rfl rfl Try.isAgg122 (v := Sl.v s23) ((OverR.get_Hands (Get.here _)).off (by rfl))) ?_
  refine Lst.run rfl rfl (by decide) (Ev.fieldAddr (off' := 1) rfl Try.runUnderlying209 rfl Try.sizeOf3 rfl rfl) ?_
  refine Lst.run rfl rfl (by decide) (Ev.load (i := 1) rfl rfl Try.isAgg3 (v := .int .i64 x33.To) ((Word.get_To (Get.here _)).off (by rfl))) ?_
  obtain ⟨x44, h45, H⟩ := bind_some H
  have g46 := lat_some h45
  refine Lst.run rfl rfl (by decide) (Ev.indexS (α := Hand) (xs := r21.Hands) rfl rfl Try.runUnderlying122 Try.sizeOf135 rfl (by decide) (Rd.own (i := 5) rfl rfl rfl) g46.1 g46.2.1) ?_
  refine Lst.run rfl rfl (by decide) (Ev.assign rfl) ?_
  refine Lst.nil ?_
  refine At.then ?_
  refine Cd.seq ?_
  refine Cd.seq ?_
  refine Cd.as (e' := [(4, .pointer (some ⟨b5, 0, none⟩)), (7, .pointer (some ⟨b31, 0, none⟩)), (8, .pointer (some ⟨b36, 0, none⟩)), (9, Sl.at s23 (x33.To.toNat * 3))]) (L' := (.own s40 209 3 (encs r38)) :: (.blk b36 (enc x33) 209) :: (.blk b31 (enc (OverR.mk ({ r21 with Way := r38 } : Over) s23 s40)) 124) :: (.own Sl.nil 209 3 (encs ([] : List Word))) :: (.own Sl.nil 135 3 (encs ([] : List Hand))) :: (.own s23 135 3 (encs r21.Hands)) :: (.blk b5 (enc (OverR.mk ({ Over.zero with Hands := ([] : List Hand), Way := ([] : List Word) } : Over) Sl.nil Sl.nil)) 124) :: (.own Sl.nil 209 3 (encs ([] : List Word))) :: (.own Sl.nil 135 3 (encs ([] : List Hand))) :: (.blk b1 (enc (OverR.mk a0 s_a0_0 s_a0_1)) 124) :: L) ⟨rfl, rfl, rfl, rfl, trivial⟩ rfl ?_
  refine Cd.region ?_
  refine Lst.run rfl rfl (by decide) (Ev.fieldAddr (off' := 2) rfl Try.runUnderlying209 rfl Try.sizeOf3 rfl rfl) ?_
  refine Lst.run rfl rfl (by decide) (Ev.load (i := 1) rfl rfl Try.isAgg3 (v := .int .i64 x33.At) ((Word.get_At (Get.here _)).off (by rfl))) ?_
  refine Lst.run rfl rfl (by decide) (Ev.eql rfl rfl) ?_
  refine Lst.nil ?_
  refine At.then ?_
  rcases Bool.eq_false_or_eq_true (x33.At == (0 : Int)) with hb47 | hb47
  · replace H := ite_t hb47 H
    refine Cd.condT rfl hb47 ?_
    refine Cd.seq ?_
    refine Cd.region ?_
    refine Lst.run rfl rfl (by decide) (Ev.move rfl) ?_
    refine Lst.run rfl rfl (by decide) (Ev.move rfl) ?_
    refine Lst.run rfl rfl (by decide) (Ev.nilCheckS (α := Hand) rfl (Rd.own (i := 5) rfl rfl rfl) ((Get.elemN (s := 3) (x := x44) rfl g46.2.2 (Get.here _)).off (by omega)) rfl) ?_
    refine Lst.run rfl rfl (by decide) (Ev.fieldS (α := Hand) (f' := x33.To.toNat * 3 + 2) rfl (Rd.own (i := 5) rfl rfl rfl) ((Get.elemN (s := 3) (x := x44) rfl g46.2.2 (Get.here _)).off (by omega)) rfl Try.runUnderlying135 rfl Try.sizeOf3 rfl rfl rfl) ?_
    refine Lst.run rfl rfl (by decide) (Ev.loadS (α := Hand) rfl (Rd.own (i := 5) rfl rfl rfl) Try.isAgg3 (v := .int .i64 x44.Owed) ((Get.elemN (s := 3) (x := x44) rfl g46.2.2 (Hand.get_Owed (Get.here _))).off (by omega))) ?_
    refine Lst.run rfl rfl (by decide) (Ev.sub rfl rfl) ?_
    refine Lst.run rfl rfl (by decide) (Ev.max2 rfl rfl) ?_
    refine Lst.run rfl rfl (by decide) (Ev.nilCheckS (α := Hand) rfl (Rd.own (i := 5) rfl rfl rfl) ((Get.elemN (s := 3) (x := x44) rfl g46.2.2 (Get.here _)).off (by omega)) rfl) ?_
    refine Lst.run rfl rfl (by decide) (Ev.fieldS (α := Hand) (f' := x33.To.toNat * 3 + 2) rfl (Rd.own (i := 5) rfl rfl rfl) ((Get.elemN (s := 3) (x := x44) rfl g46.2.2 (Get.here _)).off (by omega)) rfl Try.runUnderlying135 rfl Try.sizeOf3 rfl rfl rfl) ?_
    obtain ⟨p48, h49, H⟩ := Let_some H
    refine Lst.storeS (i := 5) rfl rfl rfl rfl rfl Try.sizeOf3 (vs := [.int .i64 (max (w64 (x44.Owed - (1 : Int))) (0 : Int))]) rfl rfl (by decide) rfl (xs' := encs p48) (by rw [← h49]; exact (Put.elemN (s := 3) (x := x44) rfl g46.2.2 (Hand.put_Owed (Put.here (vs := [.int .i64 (max (w64 (x44.Owed - (1 : Int))) (0 : Int))]) rfl))).off (by omega)) (L' := (.own s40 209 3 (encs r38)) :: (.blk b36 (enc x33) 209) :: (.blk b31 (enc (OverR.mk ({ r21 with Hands := p48, Way := r38 } : Over) s23 s40)) 124) :: (.own Sl.nil 209 3 (encs ([] : List Word))) :: (.own Sl.nil 135 3 (encs ([] : List Hand))) :: (.own s23 135 3 (encs p48)) :: (.blk b5 (enc (OverR.mk ({ Over.zero with Hands := ([] : List Hand), Way := ([] : List Word) } : Over) Sl.nil Sl.nil)) 124) :: (.own Sl.nil 209 3 (encs ([] : List Word))) :: (.own Sl.nil 135 3 (encs ([] : List Hand))) :: (.blk b1 (enc (OverR.mk a0 s_a0_0 s_a0_1)) 124) :: L) rfl ?_
    refine Lst.nil ?_
    refine At.then ?_
    refine Cd.seq ?_
    refine Cd.region ?_
    refine Lst.run rfl rfl (by decide) (Ev.fieldAddr (off' := 1) rfl Try.runUnderlying209 rfl Try.sizeOf3 rfl rfl) ?_
    refine Lst.run rfl rfl (by decide) (Ev.load (i := 1) rfl rfl Try.isAgg3 (v := .int .i64 x33.To) ((Word.get_To (Get.here _)).off (by rfl))) ?_
    obtain ⟨r50, h51, H⟩ := bind_some H
    refine Lst.front (i := 2) rfl (L' := (.blk b31 (enc (OverR.mk ({ r21 with Hands := p48, Way := r38 } : Over) s23 s40)) 124) :: (.own s40 209 3 (encs r38)) :: (.blk b36 (enc x33) 209) :: (.own Sl.nil 209 3 (encs ([] : List Word))) :: (.own Sl.nil 135 3 (encs ([] : List Hand))) :: (.own s23 135 3 (encs p48)) :: (.blk b5 (enc (OverR.mk ({ Over.zero with Hands := ([] : List Hand), Way := ([] : List Word) } : Over) Sl.nil Sl.nil)) 124) :: (.own Sl.nil 209 3 (encs ([] : List Word))) :: (.own Sl.nil 135 3 (encs ([] : List Hand))) :: (.blk b1 (enc (OverR.mk a0 s_a0_0 s_a0_1)) 124) :: L) rfl ?_
    refine Lst.front (i := 1) rfl (L' := (.own s40 209 3 (encs r38)) :: (.blk b31 (enc (OverR.mk ({ r21 with Hands := p48, Way := r38 } : Over) s23 s40)) 124) :: (.blk b36 (enc x33) 209) :: (.own Sl.nil 209 3 (encs ([] : List Word))) :: (.own Sl.nil 135 3 (encs ([] : List Hand))) :: (.own s23 135 3 (encs p48)) :: (.blk b5 (enc (OverR.mk ({ Over.zero with Hands := ([] : List Hand), Way := ([] : List Word) } : Over) Sl.nil Sl.nil)) 124) :: (.own Sl.nil 209 3 (encs ([] : List Word))) :: (.own Sl.nil 135 3 (encs ([] : List Hand))) :: (.blk b1 (enc (OverR.mk a0 s_a0_0 s_a0_1)) 124) :: L) rfl ?_
    refine Lst.front (i := 5) rfl (L' := (.own s23 135 3 (encs p48)) :: (.own s40 209 3 (encs r38)) :: (.blk b31 (enc (OverR.mk ({ r21 with Hands := p48, Way := r38 } : Over) s23 s40)) 124) :: (.blk b36 (enc x33) 209) :: (.own Sl.nil 209 3 (encs ([] : List Word))) :: (.own Sl.nil 135 3 (encs ([] : List Hand))) :: (.blk b5 (enc (OverR.mk ({ Over.zero with Hands := ([] : List Hand), Way := ([] : List Word) } : Over) Sl.nil Sl.nil)) 124) :: (.own Sl.nil 209 3 (encs ([] : List Word))) :: (.own Sl.nil 135 3 (encs ([] : List Hand))) :: (.blk b1 (enc (OverR.mk a0 s_a0_0 s_a0_1)) 124) :: L) rfl ?_
    refine Lst.call rfl rfl (by decide) (vs := [.pointer (some ⟨b31, 0, none⟩), .int .i64 x33.To]) ⟨rfl, rfl, trivial⟩ Try.call167 (over_detach_sim h51 w0 _ M _ (List.Sublist.cons _ (List.Sublist.cons _ (List.Sublist.cons _ (List.Sublist.cons _ (List.Sublist.cons _ (List.Sublist.cons _ (List.Sublist.cons _ hM)))))))) (fun F54 L' v hF55 hv => ?_)
    obtain ⟨s52, s53, rfl, rfl⟩ := hv
    refine Lst.nil ?_
    refine At.then ?_
    refine Cd.seq ?_
    refine Cd.as (e' := [(4, .pointer (some ⟨b5, 0, none⟩)), (7, .pointer (some ⟨b31, 0, none⟩))]) (L' := (.own s52 135 3 (encs r50.1)) :: (.own s53 209 3 (encs r50.2.1)) :: (.blk b31 (enc (OverR.mk ({ r50.2.2 with Hands := r50.1, Way := r50.2.1 } : Over) s52 s53)) 124) :: (.blk b36 (enc x33) 209) :: (.own Sl.nil 209 3 (encs ([] : List Word))) :: (.own Sl.nil 135 3 (encs ([] : List Hand))) :: (.blk b5 (enc (OverR.mk ({ Over.zero with Hands := ([] : List Hand), Way := ([] : List Word) } : Over) Sl.nil Sl.nil)) 124) :: (.own Sl.nil 209 3 (encs ([] : List Word))) :: (.own Sl.nil 135 3 (encs ([] : List Hand))) :: (.blk b1 (enc (OverR.mk a0 s_a0_0 s_a0_1)) 124) :: L) ⟨rfl, rfl, trivial⟩ rfl ?_
    refine Cd.region ?_
    refine Lst.run rfl rfl (by decide) (Ev.loadA (i := 2) rfl rfl Try.isAgg124 Try.sizeOf124 (ch := enc (OverR.mk ({ r50.2.2 with Hands := r50.1, Way := r50.2.1 } : Over) s52 s53)) (Enc.len _) (Get.here _)) ?_
    refine Lst.store (i := 6) rfl rfl rfl rfl rfl Try.sizeOf124 (vs := enc (OverR.mk ({ r50.2.2 with Hands := r50.1, Way := r50.2.1 } : Over) s52 s53)) rfl (Enc.len _) (Enc.one _) (cs' := enc (OverR.mk ({ r50.2.2 with Hands := r50.1, Way := r50.2.1 } : Over) s52 s53)) (Put.here ((Enc.len _).trans (Enc.len _).symm)) (L' := (.own s52 135 3 (encs r50.1)) :: (.own s53 209 3 (encs r50.2.1)) :: (.blk b31 (enc (OverR.mk ({ r50.2.2 with Hands := r50.1, Way := r50.2.1 } : Over) s52 s53)) 124) :: (.blk b36 (enc x33) 209) :: (.own Sl.nil 209 3 (encs ([] : List Word))) :: (.own Sl.nil 135 3 (encs ([] : List Hand))) :: (.blk b5 (enc (OverR.mk ({ r50.2.2 with Hands := r50.1, Way := r50.2.1 } : Over) s52 s53)) 124) :: (.own Sl.nil 209 3 (encs ([] : List Word))) :: (.own Sl.nil 135 3 (encs ([] : List Hand))) :: (.blk b1 (enc (OverR.mk a0 s_a0_0 s_a0_1)) 124) :: L) rfl ?_
    refine Lst.run rfl rfl (by decide) (Ev.assign rfl) ?_
    refine Lst.nil ?_
    refine At.then ?_
    obtain rfl := some_inj H
    refine Cd.ret ?_
    refine At.then_ret ?_
    exact At.ret2 rfl (Res.cellA (i := 6) rfl rfl Try.isAgg124 Try.sizeOf124 (Enc.len _)) (Res.tmp rfl) (FLe.trans (FLe.trans hF28 hF43) hF55) (List.Sublist.cons_cons _ (List.Sublist.cons_cons _ (List.Sublist.cons _ (List.Sublist.cons _ (List.Sublist.cons _ (List.Sublist.cons _ (List.Sublist.cons _ (List.Sublist.cons _ (List.Sublist.cons _ (List.Sublist.cons _ (List.Sublist.refl _))))))))))) ⟨s52, s53, rfl, rfl⟩
  replace H := ite_f hb47 H
  refine Cd.condF rfl hb47 ?_
  refine Cd.skip ?_
  refine At.then ?_
  refine Cd.seq ?_
  refine Cd.region ?_
  refine Lst.run rfl rfl (by decide) (Ev.move rfl) ?_
  refine Lst.run rfl rfl (by decide) (Ev.nilCheckS (α := Hand) rfl (Rd.own (i := 5) rfl rfl rfl) ((Get.elemN (s := 3) (x := x44) rfl g46.2.2 (Get.here _)).off (by omega)) rfl) ?_
  refine Lst.run rfl rfl (by decide) (Ev.fieldS (α := Hand) (f' := x33.To.toNat * 3 + 0) rfl (Rd.own (i := 5) rfl rfl rfl) ((Get.elemN (s := 3) (x := x44) rfl g46.2.2 (Get.here _)).off (by omega)) rfl Try.runUnderlying135 rfl Try.sizeOf4 rfl rfl rfl) ?_
  obtain ⟨p56, h57, H⟩ := Let_some H
  refine Lst.storeS (i := 5) rfl rfl rfl rfl rfl Try.sizeOf4 (vs := [.bool true]) rfl rfl (by decide) rfl (xs' := encs p56) (by rw [← h57]; exact (Put.elemN (s := 3) (x := x44) rfl g46.2.2 (Hand.put_Busy (Put.here (vs := [.bool true]) rfl))).off (by omega)) (L' := (.own s40 209 3 (encs r38)) :: (.blk b36 (enc x33) 209) :: (.blk b31 (enc (OverR.mk ({ r21 with Hands := p56, Way := r38 } : Over) s23 s40)) 124) :: (.own Sl.nil 209 3 (encs ([] : List Word))) :: (.own Sl.nil 135 3 (encs ([] : List Hand))) :: (.own s23 135 3 (encs p56)) :: (.blk b5 (enc (OverR.mk ({ Over.zero with Hands := ([] : List Hand), Way := ([] : List Word) } : Over) Sl.nil Sl.nil)) 124) :: (.own Sl.nil 209 3 (encs ([] : List Word))) :: (.own Sl.nil 135 3 (encs ([] : List Hand))) :: (.blk b1 (enc (OverR.mk a0 s_a0_0 s_a0_1)) 124) :: L) rfl ?_
  refine Lst.nil ?_
  refine At.then ?_
  obtain ⟨o63, H, HKo63⟩ := bind_some H
  refine Cd.join (σ := Over × Sl × (List Word) × Sl × (List Hand)) (fun (y58, s59, l60, s61, l62) => [(4, .pointer (some ⟨b5, 0, none⟩)), (7, .pointer (some ⟨b31, 0, none⟩))]) (fun (y58, s59, l60, s61, l62) => (.own s59 209 3 (encs l60)) :: (.blk b36 (enc x33) 209) :: (.blk b31 (enc (OverR.mk ({ y58 with Hands := l62, Way := l60 } : Over) s61 s59)) 124) :: (.own Sl.nil 209 3 (encs ([] : List Word))) :: (.own Sl.nil 135 3 (encs ([] : List Hand))) :: (.own s61 135 3 (encs l62)) :: (.blk b5 (enc (OverR.mk ({ Over.zero with Hands := ([] : List Hand), Way := ([] : List Word) } : Over) Sl.nil Sl.nil)) 124) :: (.own Sl.nil 209 3 (encs ([] : List Word))) :: (.own Sl.nil 135 3 (encs ([] : List Hand))) :: (.blk b1 (enc (OverR.mk a0 s_a0_0 s_a0_1)) 124) :: L) (fun _ (y58, s59, l60, s61, l62) => (y58, l60, l62) = o63) ?_ ?_
  · refine Cd.seq ?_
    refine Cd.region ?_
    refine Lst.run rfl rfl (by decide) (Ev.fieldAddr (off' := 1) rfl Try.runUnderlying209 rfl Try.sizeOf3 rfl rfl) ?_
    refine Lst.run rfl rfl (by decide) (Ev.load (i := 1) rfl rfl Try.isAgg3 (v := .int .i64 x33.To) ((Word.get_To (Get.here _)).off (by rfl))) ?_
    refine Lst.run rfl rfl (by decide) (Ev.neq rfl rfl) ?_
    refine Lst.run rfl rfl (by decide) (Ev.move rfl) ?_
    obtain ⟨o64, H, HKo64⟩ := bind_some H
    refine Lst.join (σ := Bool) 6 (fun y65 => [(4, .pointer (some ⟨b5, 0, none⟩)), (7, .pointer (some ⟨b31, 0, none⟩)), (8, .pointer (some ⟨b36, 0, none⟩)), (9, Sl.at s23 (x33.To.toNat * 3)), (71, .bool y65)]) (fun y65 => (.own s40 209 3 (encs r38)) :: (.blk b36 (enc x33) 209) :: (.blk b31 (enc (OverR.mk ({ r21 with Hands := p56, Way := r38 } : Over) s23 s40)) 124) :: (.own Sl.nil 209 3 (encs ([] : List Word))) :: (.own Sl.nil 135 3 (encs ([] : List Hand))) :: (.own s23 135 3 (encs p56)) :: (.blk b5 (enc (OverR.mk ({ Over.zero with Hands := ([] : List Hand), Way := ([] : List Word) } : Over) Sl.nil Sl.nil)) 124) :: (.own Sl.nil 209 3 (encs ([] : List Word))) :: (.own Sl.nil 135 3 (encs ([] : List Hand))) :: (.blk b1 (enc (OverR.mk a0 s_a0_0 s_a0_1)) 124) :: L) (fun _ y65 => y65 = o64) ?_ ?_
    · rcases (Bool.eq_false_or_eq_true (x33.To != (0 : Int))).symm with hb66 | hb66
      · replace H := ite_f hb66 H
        refine Lst.skip rfl rfl rfl hb66 rfl (by decide) ?_
        refine Lst.skip rfl rfl rfl hb66 rfl (by decide) ?_
        refine Lst.skip rfl rfl rfl hb66 rfl (by decide) ?_
        refine Lst.skip rfl rfl rfl hb66 rfl (by decide) ?_
        refine Lst.skip rfl rfl rfl hb66 rfl (by decide) ?_
        refine Lst.run rfl rfl (by decide) (Ev.pickF rfl hb66 rfl) ?_
        refine Lst.nil ?_
        exact At.meet false (FLe.refl _) ⟨rfl, rfl, rfl, rfl, rfl, trivial⟩ rfl (some_inj H)
      replace H := ite_t hb66 H
      refine Lst.runG rfl rfl rfl hb66 rfl (by decide) (Ev.move rfl) ?_
      obtain ⟨x67, h68, H⟩ := bind_some H
      have g69 := lat_some h68
      refine Lst.runG rfl rfl rfl hb66 rfl (by decide) (Ev.nilCheckS (α := Hand) rfl (Rd.own (i := 5) rfl rfl rfl) ((Get.elemN (s := 3) (x := x67) rfl g69.2.2 (Get.here _)).off (by omega)) rfl) ?_
      refine Lst.runG rfl rfl rfl hb66 rfl (by decide) (Ev.fieldS (α := Hand) (f' := x33.To.toNat * 3 + 1) rfl (Rd.own (i := 5) rfl rfl rfl) ((Get.elemN (s := 3) (x := x67) rfl g69.2.2 (Get.here _)).off (by omega)) rfl Try.runUnderlying135 rfl Try.sizeOf3 rfl rfl rfl) ?_
      refine Lst.runG rfl rfl rfl hb66 rfl (by decide) (Ev.loadS (α := Hand) rfl (Rd.own (i := 5) rfl rfl rfl) Try.isAgg3 (v := .int .i64 x67.Boss) ((Get.elemN (s := 3) (x := x67) rfl g69.2.2 (Hand.get_Boss (Get.here _))).off (by omega))) ?_
      refine Lst.runG rfl rfl rfl hb66 rfl (by decide) (Ev.eql rfl rfl) ?_
      refine Lst.run rfl rfl (by decide) (Ev.pickT rfl hb66 rfl) ?_
      refine Lst.nil ?_
      exact At.meet (x67.Boss == (-1 : Int)) (FLe.refl _) ⟨rfl, rfl, rfl, rfl, rfl, trivial⟩ rfl (some_inj H)
    rintro F70 y65 hF71 hy
    subst hy
    refine Lst.as (e' := [(4, .pointer (some ⟨b5, 0, none⟩)), (7, .pointer (some ⟨b31, 0, none⟩)), (8, .pointer (some ⟨b36, 0, none⟩)), (9, Sl.at s23 (x33.To.toNat * 3)), (71, .bool y65)]) (L' := (.own s40 209 3 (encs r38)) :: (.blk b36 (enc x33) 209) :: (.blk b31 (enc (OverR.mk ({ r21 with Hands := p56, Way := r38 } : Over) s23 s40)) 124) :: (.own Sl.nil 209 3 (encs ([] : List Word))) :: (.own Sl.nil 135 3 (encs ([] : List Hand))) :: (.own s23 135 3 (encs p56)) :: (.blk b5 (enc (OverR.mk ({ Over.zero with Hands := ([] : List Hand), Way := ([] : List Word) } : Over) Sl.nil Sl.nil)) 124) :: (.own Sl.nil 209 3 (encs ([] : List Word))) :: (.own Sl.nil 135 3 (encs ([] : List Hand))) :: (.blk b1 (enc (OverR.mk a0 s_a0_0 s_a0_1)) 124) :: L) ⟨rfl, rfl, rfl, rfl, rfl, trivial⟩ rfl ?_
    replace H := HKo64
    refine Lst.nil ?_
    refine At.then ?_
    rcases Bool.eq_false_or_eq_true y65 with hb72 | hb72
    · replace H := ite_t hb72 H
      refine Cd.condT rfl hb72 ?_
      refine Cd.region ?_
      refine Lst.run rfl rfl (by decide) (Ev.move rfl) ?_
      refine Lst.run rfl rfl (by decide) (Ev.fieldAddr (off' := 0) rfl Try.runUnderlying209 rfl Try.sizeOf3 rfl rfl) ?_
      refine Lst.run rfl rfl (by decide) (Ev.load (i := 1) rfl rfl Try.isAgg3 (v := .int .i64 x33.From) ((Word.get_From (Get.here _)).off (by rfl))) ?_
      obtain ⟨x73, h74, H⟩ := bind_some H
      have g75 := lat_some h74
      refine Lst.run rfl rfl (by decide) (Ev.nilCheckS (α := Hand) rfl (Rd.own (i := 5) rfl rfl rfl) ((Get.elemN (s := 3) (x := x73) rfl g75.2.2 (Get.here _)).off (by omega)) rfl) ?_
      refine Lst.run rfl rfl (by decide) (Ev.fieldS (α := Hand) (f' := x33.To.toNat * 3 + 1) rfl (Rd.own (i := 5) rfl rfl rfl) ((Get.elemN (s := 3) (x := x73) rfl g75.2.2 (Get.here _)).off (by omega)) rfl Try.runUnderlying135 rfl Try.sizeOf3 rfl rfl rfl) ?_
      obtain ⟨p76, h77, H⟩ := Let_some H
      refine Lst.storeS (i := 5) rfl rfl rfl rfl rfl Try.sizeOf3 (vs := [.int .i64 x33.From]) rfl rfl (by decide) rfl (xs' := encs p76) (by rw [← h77]; exact (Put.elemN (s := 3) (x := x73) rfl g75.2.2 (Hand.put_Boss (Put.here (vs := [.int .i64 x33.From]) rfl))).off (by omega)) (L' := (.own s40 209 3 (encs r38)) :: (.blk b36 (enc x33) 209) :: (.blk b31 (enc (OverR.mk ({ r21 with Hands := p76, Way := r38 } : Over) s23 s40)) 124) :: (.own Sl.nil 209 3 (encs ([] : List Word))) :: (.own Sl.nil 135 3 (encs ([] : List Hand))) :: (.own s23 135 3 (encs p76)) :: (.blk b5 (enc (OverR.mk ({ Over.zero with Hands := ([] : List Hand), Way := ([] : List Word) } : Over) Sl.nil Sl.nil)) 124) :: (.own Sl.nil 209 3 (encs ([] : List Word))) :: (.own Sl.nil 135 3 (encs ([] : List Hand))) :: (.blk b1 (enc (OverR.mk a0 s_a0_0 s_a0_1)) 124) :: L) rfl ?_
      refine Lst.nil ?_
      exact At.meet (({ r21 with Hands := p76, Way := r38 } : Over), s40, r38, s23, p76) hF71 ⟨rfl, rfl, trivial⟩ rfl (some_inj H)
    replace H := ite_f hb72 H
    refine Cd.condF rfl hb72 ?_
    refine Cd.region ?_
    refine Lst.run rfl rfl (by decide) (Ev.fieldAddr (off' := 1) rfl Try.runUnderlying124 rfl Try.sizeOf112 rfl rfl) ?_
    refine Lst.run rfl rfl (by decide) (Ev.load (i := 2) rfl rfl Try.isAgg112 (v := Sl.v s40) ((OverR.get_Way (Get.here _)).off (by rfl))) ?_
    refine Lst.run rfl rfl (by decide) (Ev.fieldAddr (off' := 1) rfl Try.runUnderlying209 rfl Try.sizeOf3 rfl rfl) ?_
    refine Lst.run rfl rfl (by decide) (Ev.load (i := 1) rfl rfl Try.isAgg3 (v := .int .i64 x33.To) ((Word.get_To (Get.here _)).off (by rfl))) ?_
    refine Lst.run rfl rfl (by decide) (Ev.fieldAddr (off' := 0) rfl Try.runUnderlying209 rfl Try.sizeOf3 rfl rfl) ?_
    refine Lst.run rfl rfl (by decide) (Ev.load (i := 1) rfl rfl Try.isAgg3 (v := .int .i64 x33.From) ((Word.get_From (Get.here _)).off (by rfl))) ?_
    refine Lst.run rfl rfl (by decide) (Ev.build (v := .agg (enc ({ Word.zero with From := x33.To, To := x33.From } : Word)).toArray) (pv := [(0, .int .i64 x33.To), (1, .int .i64 x33.From)]) ⟨rfl, rfl, ⟨rfl, rfl, trivial⟩⟩ (fun w => by kernel_rfl)) ?_
    refine Lst.buildSlice (α := Word) (xs := ([({ Word.zero with From := x33.To, To := x33.From } : Word)] : List Word)) (pv := [(0, .agg (enc ({ Word.zero with From := x33.To, To := x33.From } : Word)).toArray)]) rfl rfl (by decide) ⟨rfl, rfl, trivial⟩ (run_buildSlice (α := Word) (z0 := Word.zero) (xs := ([({ Word.zero with From := x33.To, To := x33.From } : Word)] : List Word)) Try.runUnderlying112 Try.sizeOf209 Try.zeroValue209 rfl rfl rfl (by decide) rfl (fill_cons (cs := encs (List.replicate 1 Word.zero)) (cs' := encs ((List.replicate 1 Word.zero).set 0 ({ Word.zero with From := x33.To, To := x33.From } : Word))) (vs := enc ({ Word.zero with From := x33.To, To := x33.From } : Word)) rfl rfl (Enc.len _) ((Put.elemN (s := 3) (i := 0) (x := Word.zero) (y := ({ Word.zero with From := x33.To, To := x33.From } : Word)) rfl rfl (Put.here ((Enc.len _).trans (Enc.len _).symm))).off rfl) fill_nil)) rfl rfl (by decide) (fun s78 _ => ?_)
    obtain ⟨u80, h81, H⟩ := bind_some H
    refine Lst.append (i := 1) (α := Word) (xs := r38) (ys := ([({ Word.zero with From := x33.To, To := x33.From } : Word)] : List Word)) rfl rfl (by decide) rfl rfl Try.runUnderlying112 Try.typeInfo209 rfl rfl rfl rfl rfl rfl (Rd.own (i := 0) rfl rfl rfl) rfl (room_some h81) rfl (fun s82 => ?_)
    refine Lst.its (L' := (.own s78 209 3 (encs ([({ Word.zero with From := x33.To, To := x33.From } : Word)] : List Word))) :: (.own s82 209 3 (encs (r38 ++ ([({ Word.zero with From := x33.To, To := x33.From } : Word)] : List Word)))) :: (.blk b36 (enc x33) 209) :: (.blk b31 (enc (OverR.mk ({ r21 with Hands := p56, Way := r38 } : Over) s23 s40)) 124) :: (.own Sl.nil 209 3 (encs ([] : List Word))) :: (.own Sl.nil 135 3 (encs ([] : List Hand))) :: (.own s23 135 3 (encs p56)) :: (.blk b5 (enc (OverR.mk ({ Over.zero with Hands := ([] : List Hand), Way := ([] : List Word) } : Over) Sl.nil Sl.nil)) 124) :: (.own Sl.nil 209 3 (encs ([] : List Word))) :: (.own Sl.nil 135 3 (encs ([] : List Hand))) :: (.blk b1 (enc (OverR.mk a0 s_a0_0 s_a0_1)) 124) :: L) rfl ?_
    refine Lst.run rfl rfl (by decide) (Ev.fieldAddr (off' := 1) rfl Try.runUnderlying124 rfl Try.sizeOf112 rfl rfl) ?_
    refine Lst.store (i := 3) rfl rfl rfl rfl rfl Try.sizeOf112 (vs := [Sl.v s82]) rfl rfl rfl (cs' := enc (OverR.mk ({ r21 with Hands := p56, Way := r38 ++ ([({ Word.zero with From := x33.To, To := x33.From } : Word)] : List Word) } : Over) s23 s82)) ((OverR.put_Way (Put.here (vs := [Sl.v s82]) rfl)).off (by rfl)) (L' := (.own s78 209 3 (encs ([({ Word.zero with From := x33.To, To := x33.From } : Word)] : List Word))) :: (.own s82 209 3 (encs (r38 ++ ([({ Word.zero with From := x33.To, To := x33.From } : Word)] : List Word)))) :: (.blk b36 (enc x33) 209) :: (.blk b31 (enc (OverR.mk ({ r21 with Hands := p56, Way := r38 ++ ([({ Word.zero with From := x33.To, To := x33.From } : Word)] : List Word) } : Over) s23 s82)) 124) :: (.own Sl.nil 209 3 (encs ([] : List Word))) :: (.own Sl.nil 135 3 (encs ([] : List Hand))) :: (.own s23 135 3 (encs p56)) :: (.blk b5 (enc (OverR.mk ({ Over.zero with Hands := ([] : List Hand), Way := ([] : List Word) } : Over) Sl.nil Sl.nil)) 124) :: (.own Sl.nil 209 3 (encs ([] : List Word))) :: (.own Sl.nil 135 3 (encs ([] : List Hand))) :: (.blk b1 (enc (OverR.mk a0 s_a0_0 s_a0_1)) 124) :: L) rfl ?_
    refine Lst.nil ?_
    refine At.less (L' := (.own s82 209 3 (encs (r38 ++ ([({ Word.zero with From := x33.To, To := x33.From } : Word)] : List Word)))) :: (.blk b36 (enc x33) 209) :: (.blk b31 (enc (OverR.mk ({ r21 with Hands := p56, Way := r38 ++ ([({ Word.zero with From := x33.To, To := x33.From } : Word)] : List Word) } : Over) s23 s82)) 124) :: (.own Sl.nil 209 3 (encs ([] : List Word))) :: (.own Sl.nil 135 3 (encs ([] : List Hand))) :: (.own s23 135 3 (encs p56)) :: (.blk b5 (enc (OverR.mk ({ Over.zero with Hands := ([] : List Hand), Way := ([] : List Word) } : Over) Sl.nil Sl.nil)) 124) :: (.own Sl.nil 209 3 (encs ([] : List Word))) :: (.own Sl.nil 135 3 (encs ([] : List Hand))) :: (.blk b1 (enc (OverR.mk a0 s_a0_0 s_a0_1)) 124) :: L) (List.Sublist.cons _ (List.Sublist.cons_cons _ (List.Sublist.cons_cons _ (List.Sublist.cons_cons _ (List.Sublist.cons_cons _ (List.Sublist.cons_cons _ (List.Sublist.cons_cons _ (List.Sublist.cons_cons _ (List.Sublist.cons_cons _ (List.Sublist.cons_cons _ (List.Sublist.cons_cons _ (List.Sublist.refl _)))))))))))) ?_
    exact At.meet (({ r21 with Hands := p56, Way := r38 ++ ([({ Word.zero with From := x33.To, To := x33.From } : Word)] : List Word) } : Over), s82, r38 ++ ([({ Word.zero with From := x33.To, To := x33.From } : Word)] : List Word), s23, p56) hF71 ⟨rfl, rfl, trivial⟩ rfl (some_inj H)
  rintro F83 ⟨y58, s59, l60, s61, l62⟩ hF84 hy
  subst hy
  refine Cd.as (e' := [(4, .pointer (some ⟨b5, 0, none⟩)), (7, .pointer (some ⟨b31, 0, none⟩))]) (L' := (.own s59 209 3 (encs l60)) :: (.blk b36 (enc x33) 209) :: (.blk b31 (enc (OverR.mk ({ y58 with Hands := l62, Way := l60 } : Over) s61 s59)) 124) :: (.own Sl.nil 209 3 (encs ([] : List Word))) :: (.own Sl.nil 135 3 (encs ([] : List Hand))) :: (.own s61 135 3 (encs l62)) :: (.blk b5 (enc (OverR.mk ({ Over.zero with Hands := ([] : List Hand), Way := ([] : List Word) } : Over) Sl.nil Sl.nil)) 124) :: (.own Sl.nil 209 3 (encs ([] : List Word))) :: (.own Sl.nil 135 3 (encs ([] : List Hand))) :: (.blk b1 (enc (OverR.mk a0 s_a0_0 s_a0_1)) 124) :: L) ⟨rfl, rfl, trivial⟩ rfl ?_
  replace H := HKo63
  refine Cd.seq ?_
  refine Cd.region ?_
  refine Lst.run rfl rfl (by decide) (Ev.loadA (i := 2) rfl rfl Try.isAgg124 Try.sizeOf124 (ch := enc (OverR.mk ({ y58 with Hands := l62, Way := l60 } : Over) s61 s59)) (Enc.len _) (Get.here _)) ?_
  refine Lst.store (i := 6) rfl rfl rfl rfl rfl Try.sizeOf124 (vs := enc (OverR.mk ({ y58 with Hands := l62, Way := l60 } : Over) s61 s59)) rfl (Enc.len _) (Enc.one _) (cs' := enc (OverR.mk ({ y58 with Hands := l62, Way := l60 } : Over) s61 s59)) (Put.here ((Enc.len _).trans (Enc.len _).symm)) (L' := (.own s59 209 3 (encs l60)) :: (.blk b36 (enc x33) 209) :: (.blk b31 (enc (OverR.mk ({ y58 with Hands := l62, Way := l60 } : Over) s61 s59)) 124) :: (.own Sl.nil 209 3 (encs ([] : List Word))) :: (.own Sl.nil 135 3 (encs ([] : List Hand))) :: (.own s61 135 3 (encs l62)) :: (.blk b5 (enc (OverR.mk ({ y58 with Hands := l62, Way := l60 } : Over) s61 s59)) 124) :: (.own Sl.nil 209 3 (encs ([] : List Word))) :: (.own Sl.nil 135 3 (encs ([] : List Hand))) :: (.blk b1 (enc (OverR.mk a0 s_a0_0 s_a0_1)) 124) :: L) rfl ?_
  refine Lst.run rfl rfl (by decide) (Ev.assign rfl) ?_
  refine Lst.nil ?_
  refine At.then ?_
  obtain rfl := some_inj H
  refine Cd.ret ?_
  refine At.front (i := 5) rfl rfl ?_
  exact At.ret2 rfl (Res.cellA (i := 6) rfl rfl Try.isAgg124 Try.sizeOf124 (Enc.len _)) (Res.tmp rfl) (FLe.trans (FLe.trans hF28 hF43) hF84) (List.Sublist.cons_cons _ (List.Sublist.cons_cons _ (List.Sublist.cons _ (List.Sublist.cons _ (List.Sublist.cons _ (List.Sublist.cons _ (List.Sublist.cons _ (List.Sublist.cons _ (List.Sublist.cons _ (List.Sublist.cons _ (List.Sublist.refl _))))))))))) ⟨s61, s59, rfl, rfl⟩
set_option maxRecDepth 20000 in
theorem over_Rest_sim {a0 : Over} {a1 : Int} {s_a0_0 : Sl} {s_a0_1 : Sl} {r : Over × Int} (H : over_Rest a0 a1 = some r) (w0 : World) (F : Frz) (M L : List Item) (hM : M.Sublist L) (hs_a0_0 : Rd w0 F M s_a0_0 a0.Hands) (hs_a0_1 : Rd w0 F M s_a0_1 a0.Way) : Ok Try.prog w0 77 [.agg (enc (OverR.mk a0 s_a0_0 s_a0_1)).toArray, .int .i64 a1] F (L) (fun _ L' v => ∃ (s45 : Sl) (s47 : Sl), v = .tuple #[.agg (enc (OverR.mk r.1 s45 s47)).toArray, .int .i64 r.2] ∧ L' = (.own s45 135 3 (encs r.1.Hands)) :: (.own s47 209 3 (encs r.1.Way)) :: L) := by
  unfold over_Rest at H
  refine Ok.enter (m := 2) (n := 48) Try.func77 rfl rfl rfl (by decide) ?_
  refine Cd.env (e' := [(0, .agg (enc (OverR.mk a0 s_a0_0 s_a0_1)).toArray), (1, .int .i64 a1)]) rfl ?_
  refine Cd.seq ?_
  refine Cd.region ?_
  refine Lst.box rfl rfl (by decide) rfl (cs := enc (OverR.mk a0 s_a0_0 s_a0_1)) rfl (fun b1 => ?_)
  refine Lst.addNil 135 3 ?_
  refine Lst.addNil 209 3 ?_
  refine Lst.alloc (cs := enc (OverR.mk ({ Over.zero with Hands := ([] : List Hand), Way := ([] : List Word) } : Over) Sl.nil Sl.nil)) rfl rfl (by decide) Try.zeroValue124 rfl (fun b5 => ?_)
  refine Lst.run rfl rfl (by decide) (Ev.assign rfl) ?_
  refine Lst.nil ?_
  refine At.then ?_
  refine Cd.seq ?_
  refine Cd.seq ?_
  refine Cd.region ?_
  refine Lst.run rfl rfl (by decide) (Ev.loadA (i := 3) rfl rfl Try.isAgg124 Try.sizeOf124 (ch := enc (OverR.mk a0 s_a0_0 s_a0_1)) (Enc.len _) (Get.here _)) ?_
  obtain ⟨r7, h8, H⟩ := bind_some H
  refine Lst.call1 rfl rfl (by decide) (vs := [.agg (enc (OverR.mk a0 s_a0_0 s_a0_1)).toArray]) ⟨rfl, trivial⟩ Try.call81 (over_Check_sim h8 w0 _ M _ (List.Sublist.cons _ (List.Sublist.cons _ (List.Sublist.cons _ (List.Sublist.cons _ hM)))) (hs_a0_0.mono (FLe.refl _) (List.Sublist.refl _)) (hs_a0_1.mono (FLe.refl _) (List.Sublist.refl _))) ?_
  refine Lst.run rfl rfl (by decide) (Ev.assign rfl) ?_
  refine Lst.nil ?_
  refine At.then ?_
  refine Cd.seq ?_
  refine Cd.region ?_
  refine Lst.run rfl rfl (by decide) (Ev.move rfl) ?_
  refine Lst.run rfl rfl (by decide) (Ev.neq rfl rfl) ?_
  refine Lst.nil ?_
  refine At.then ?_
  rcases Bool.eq_false_or_eq_true (r7 != (0 : Int)) with hb11 | hb11
  · replace H := ite_t hb11 H
    refine Cd.condT rfl hb11 ?_
    refine Cd.seq ?_
    refine Cd.region ?_
    refine Lst.run rfl rfl (by decide) (Ev.build (v := .agg (enc (OverR.mk Over.zero Sl.nil Sl.nil)).toArray) (pv := []) trivial (fun w => by kernel_rfl)) ?_
    refine Lst.run rfl rfl (by decide) (Ev.move rfl) ?_
    refine Lst.store (i := 0) rfl rfl rfl rfl rfl Try.sizeOf124 (vs := enc (OverR.mk Over.zero Sl.nil Sl.nil)) rfl (Enc.len _) (Enc.one _) (cs' := enc (OverR.mk Over.zero Sl.nil Sl.nil)) (Put.here ((Enc.len _).trans (Enc.len _).symm)) (L' := (.blk b5 (enc (OverR.mk Over.zero Sl.nil Sl.nil)) 124) :: (.own Sl.nil 209 3 (encs ([] : List Word))) :: (.own Sl.nil 135 3 (encs ([] : List Hand))) :: (.blk b1 (enc (OverR.mk a0 s_a0_0 s_a0_1)) 124) :: L) rfl ?_
    refine Lst.run rfl rfl (by decide) (Ev.assign rfl) ?_
    refine Lst.nil ?_
    refine At.then ?_
    obtain rfl := some_inj H
    refine Cd.ret ?_
    refine At.then_ret ?_
    refine At.addNil 135 3 ?_
    refine At.addNil 209 3 ?_
    refine At.front (i := 1) rfl rfl ?_
    exact At.ret2 rfl (Res.cellA (i := 2) rfl rfl Try.isAgg124 Try.sizeOf124 (Enc.len _)) (Res.tmp rfl) (FLe.refl _) (List.Sublist.cons_cons _ (List.Sublist.cons_cons _ (List.Sublist.cons _ (List.Sublist.cons _ (List.Sublist.cons _ (List.Sublist.cons _ (List.Sublist.refl _))))))) ⟨Sl.nil, Sl.nil, rfl, rfl⟩
  replace H := ite_f hb11 H
  refine Cd.condF rfl hb11 ?_
  refine Cd.skip ?_
  refine At.then ?_
  refine Cd.seq ?_
  refine Cd.block ?_
  refine Cd.seq ?_
  refine Cd.region ?_
  refine Lst.run rfl rfl (by decide) (Ev.move rfl) ?_
  refine Lst.run rfl rfl (by decide) (Ev.fieldAddr (off' := 0) rfl Try.runUnderlying124 rfl Try.sizeOf122 rfl rfl) ?_
  refine Lst.run rfl rfl (by decide) (Ev.load (i := 3) rfl rfl Try.isAgg122 (v := Sl.v s_a0_0) ((OverR.get_Hands (Get.here _)).off (by rfl))) ?_
  refine Lst.run rfl rfl (by decide) (Ev.lenS (α := Hand) (xs := a0.Hands) (by decide) rfl rfl Try.runUnderlying122 (hs_a0_0.mono (FLe.refl _) (List.Sublist.cons _ (List.Sublist.cons _ (List.Sublist.cons _ (List.Sublist.cons _ hM)))))) ?_
  refine Lst.run rfl rfl (by decide) (Ev.sub rfl rfl) ?_
  obtain ⟨r14, h15, H⟩ := bind_some H
  refine Lst.call1 rfl rfl (by decide) (vs := [.int .i64 a1, .int .i64 (0 : Int), .int .i64 (w64 ((a0.Hands.length : Int) - (1 : Int)))]) ⟨rfl, rfl, rfl, trivial⟩ Try.call165 (over_in_sim h15 w0 _ M _ (List.Sublist.cons _ (List.Sublist.cons _ (List.Sublist.cons _ (List.Sublist.cons _ hM))))) ?_
  refine Lst.run rfl rfl (by decide) (Ev.not rfl) ?_
  refine Lst.run rfl rfl (by decide) (Ev.assign rfl) ?_
  refine Lst.nil ?_
  refine At.then ?_
  rcases Bool.eq_false_or_eq_true (!r14) with hb18 | hb18
  · replace H := ite_t hb18 H
    refine Cd.condT rfl hb18 ?_
    refine Cd.seq ?_
    refine Cd.as (e' := [(4, .pointer (some ⟨b5, 0, none⟩))]) (L' := (.blk b5 (enc (OverR.mk ({ Over.zero with Hands := ([] : List Hand), Way := ([] : List Word) } : Over) Sl.nil Sl.nil)) 124) :: (.own Sl.nil 209 3 (encs ([] : List Word))) :: (.own Sl.nil 135 3 (encs ([] : List Hand))) :: (.blk b1 (enc (OverR.mk a0 s_a0_0 s_a0_1)) 124) :: L) ⟨rfl, trivial⟩ rfl ?_
    refine Cd.region ?_
    refine Lst.run rfl rfl (by decide) (Ev.build (v := .agg (enc (OverR.mk Over.zero Sl.nil Sl.nil)).toArray) (pv := []) trivial (fun w => by kernel_rfl)) ?_
    refine Lst.store (i := 0) rfl rfl rfl rfl rfl Try.sizeOf124 (vs := enc (OverR.mk Over.zero Sl.nil Sl.nil)) rfl (Enc.len _) (Enc.one _) (cs' := enc (OverR.mk Over.zero Sl.nil Sl.nil)) (Put.here ((Enc.len _).trans (Enc.len _).symm)) (L' := (.blk b5 (enc (OverR.mk Over.zero Sl.nil Sl.nil)) 124) :: (.own Sl.nil 209 3 (encs ([] : List Word))) :: (.own Sl.nil 135 3 (encs ([] : List Hand))) :: (.blk b1 (enc (OverR.mk a0 s_a0_0 s_a0_1)) 124) :: L) rfl ?_
    refine Lst.run rfl rfl (by decide) (Ev.assign rfl) ?_
    refine Lst.nil ?_
    refine At.then ?_
    obtain rfl := some_inj H
    refine Cd.ret ?_
    refine At.in_ret ?_
    refine At.then_ret ?_
    refine At.addNil 135 3 ?_
    refine At.addNil 209 3 ?_
    refine At.front (i := 1) rfl rfl ?_
    exact At.ret2 rfl (Res.cellA (i := 2) rfl rfl Try.isAgg124 Try.sizeOf124 (Enc.len _)) (Res.tmp rfl) (FLe.refl _) (List.Sublist.cons_cons _ (List.Sublist.cons_cons _ (List.Sublist.cons _ (List.Sublist.cons _ (List.Sublist.cons _ (List.Sublist.cons _ (List.Sublist.refl _))))))) ⟨Sl.nil, Sl.nil, rfl, rfl⟩
  replace H := ite_f hb18 H
  refine Cd.condF rfl hb18 ?_
  refine Cd.seq ?_
  refine Cd.as (e' := [(1, .int .i64 a1), (2, .pointer (some ⟨b1, 0, none⟩)), (4, .pointer (some ⟨b5, 0, none⟩))]) (L' := (.blk b5 (enc (OverR.mk ({ Over.zero with Hands := ([] : List Hand), Way := ([] : List Word) } : Over) Sl.nil Sl.nil)) 124) :: (.own Sl.nil 209 3 (encs ([] : List Word))) :: (.own Sl.nil 135 3 (encs ([] : List Hand))) :: (.blk b1 (enc (OverR.mk a0 s_a0_0 s_a0_1)) 124) :: L) ⟨rfl, rfl, rfl, trivial⟩ rfl ?_
  refine Cd.region ?_
  refine Lst.run rfl rfl (by decide) (Ev.fieldAddr (off' := 0) rfl Try.runUnderlying124 rfl Try.sizeOf122 rfl rfl) ?_
  refine Lst.run rfl rfl (by decide) (Ev.load (i := 3) rfl rfl Try.isAgg122 (v := Sl.v s_a0_0) ((OverR.get_Hands (Get.here _)).off (by rfl))) ?_
  refine Lst.run rfl rfl (by decide) (Ev.move rfl) ?_
  obtain ⟨x21, h22, H⟩ := bind_some H
  have g23 := lat_some h22
  refine Lst.run rfl rfl (by decide) (Ev.indexS (α := Hand) (xs := a0.Hands) rfl rfl Try.runUnderlying122 Try.sizeOf135 rfl (by decide) (hs_a0_0.mono (FLe.refl _) (List.Sublist.cons _ (List.Sublist.cons _ (List.Sublist.cons _ (List.Sublist.cons _ hM))))) g23.1 g23.2.1) ?_
  refine Lst.run rfl rfl (by decide) (Ev.fieldS (α := Hand) (f' := a1.toNat * 3 + 0) rfl (hs_a0_0.mono (FLe.refl _) (List.Sublist.cons _ (List.Sublist.cons _ (List.Sublist.cons _ (List.Sublist.cons _ hM))))) ((Get.elemN (s := 3) (x := x21) rfl g23.2.2 (Get.here _)).off (by omega)) rfl Try.runUnderlying135 rfl Try.sizeOf4 rfl rfl rfl) ?_
  refine Lst.run rfl rfl (by decide) (Ev.loadS (α := Hand) rfl (hs_a0_0.mono (FLe.refl _) (List.Sublist.cons _ (List.Sublist.cons _ (List.Sublist.cons _ (List.Sublist.cons _ hM))))) Try.isAgg4 (v := .bool x21.Busy) ((Get.elemN (s := 3) (x := x21) rfl g23.2.2 (Hand.get_Busy (Get.here _))).off (by omega))) ?_
  refine Lst.run rfl rfl (by decide) (Ev.not rfl) ?_
  refine Lst.run rfl rfl (by decide) (Ev.assign rfl) ?_
  refine Lst.nil ?_
  refine At.then ?_
  rcases Bool.eq_false_or_eq_true (!x21.Busy) with hb24 | hb24
  · replace H := ite_t hb24 H
    refine Cd.condT rfl hb24 ?_
    refine Cd.seq ?_
    refine Cd.region ?_
    refine Lst.run rfl rfl (by decide) (Ev.build (v := .agg (enc (OverR.mk Over.zero Sl.nil Sl.nil)).toArray) (pv := []) trivial (fun w => by kernel_rfl)) ?_
    refine Lst.store (i := 0) rfl rfl rfl rfl rfl Try.sizeOf124 (vs := enc (OverR.mk Over.zero Sl.nil Sl.nil)) rfl (Enc.len _) (Enc.one _) (cs' := enc (OverR.mk Over.zero Sl.nil Sl.nil)) (Put.here ((Enc.len _).trans (Enc.len _).symm)) (L' := (.blk b5 (enc (OverR.mk Over.zero Sl.nil Sl.nil)) 124) :: (.own Sl.nil 209 3 (encs ([] : List Word))) :: (.own Sl.nil 135 3 (encs ([] : List Hand))) :: (.blk b1 (enc (OverR.mk a0 s_a0_0 s_a0_1)) 124) :: L) rfl ?_
    refine Lst.run rfl rfl (by decide) (Ev.assign rfl) ?_
    refine Lst.nil ?_
    refine At.then ?_
    obtain rfl := some_inj H
    refine Cd.ret ?_
    refine At.in_ret ?_
    refine At.then_ret ?_
    refine At.addNil 135 3 ?_
    refine At.addNil 209 3 ?_
    refine At.front (i := 1) rfl rfl ?_
    exact At.ret2 rfl (Res.cellA (i := 2) rfl rfl Try.isAgg124 Try.sizeOf124 (Enc.len _)) (Res.tmp rfl) (FLe.refl _) (List.Sublist.cons_cons _ (List.Sublist.cons_cons _ (List.Sublist.cons _ (List.Sublist.cons _ (List.Sublist.cons _ (List.Sublist.cons _ (List.Sublist.refl _))))))) ⟨Sl.nil, Sl.nil, rfl, rfl⟩
  replace H := ite_f hb24 H
  refine Cd.condF rfl hb24 ?_
  refine Cd.seq ?_
  refine Cd.region ?_
  refine Lst.run rfl rfl (by decide) (Ev.fieldAddr (off' := 1) rfl Try.runUnderlying124 rfl Try.sizeOf112 rfl rfl) ?_
  refine Lst.run rfl rfl (by decide) (Ev.load (i := 3) rfl rfl Try.isAgg112 (v := Sl.v s_a0_1) ((OverR.get_Way (Get.here _)).off (by rfl))) ?_
  refine Lst.run rfl rfl (by decide) (Ev.lenS (α := Word) (xs := a0.Way) (by decide) rfl rfl Try.runUnderlying112 (hs_a0_1.mono (FLe.refl _) (List.Sublist.cons _ (List.Sublist.cons _ (List.Sublist.cons _ (List.Sublist.cons _ hM)))))) ?_
  refine Lst.run rfl rfl (by decide) (Ev.eql rfl rfl) ?_
  refine Lst.run rfl rfl (by decide) (Ev.assign rfl) ?_
  refine Lst.nil ?_
  refine At.then ?_
  rcases Bool.eq_false_or_eq_true ((a0.Way.length : Int) == (100 : Int)) with hb27 | hb27
  · replace H := ite_t hb27 H
    refine Cd.condT rfl hb27 ?_
    refine Cd.seq ?_
    refine Cd.as (e' := [(4, .pointer (some ⟨b5, 0, none⟩))]) (L' := (.blk b5 (enc (OverR.mk ({ Over.zero with Hands := ([] : List Hand), Way := ([] : List Word) } : Over) Sl.nil Sl.nil)) 124) :: (.own Sl.nil 209 3 (encs ([] : List Word))) :: (.own Sl.nil 135 3 (encs ([] : List Hand))) :: (.blk b1 (enc (OverR.mk a0 s_a0_0 s_a0_1)) 124) :: L) ⟨rfl, trivial⟩ rfl ?_
    refine Cd.region ?_
    refine Lst.run rfl rfl (by decide) (Ev.build (v := .agg (enc (OverR.mk Over.zero Sl.nil Sl.nil)).toArray) (pv := []) trivial (fun w => by kernel_rfl)) ?_
    refine Lst.store (i := 0) rfl rfl rfl rfl rfl Try.sizeOf124 (vs := enc (OverR.mk Over.zero Sl.nil Sl.nil)) rfl (Enc.len _) (Enc.one _) (cs' := enc (OverR.mk Over.zero Sl.nil Sl.nil)) (Put.here ((Enc.len _).trans (Enc.len _).symm)) (L' := (.blk b5 (enc (OverR.mk Over.zero Sl.nil Sl.nil)) 124) :: (.own Sl.nil 209 3 (encs ([] : List Word))) :: (.own Sl.nil 135 3 (encs ([] : List Hand))) :: (.blk b1 (enc (OverR.mk a0 s_a0_0 s_a0_1)) 124) :: L) rfl ?_
    refine Lst.run rfl rfl (by decide) (Ev.assign rfl) ?_
    refine Lst.nil ?_
    refine At.then ?_
    obtain rfl := some_inj H
    refine Cd.ret ?_
    refine At.in_ret ?_
    refine At.then_ret ?_
    refine At.addNil 135 3 ?_
    refine At.addNil 209 3 ?_
    refine At.front (i := 1) rfl rfl ?_
    exact At.ret2 rfl (Res.cellA (i := 2) rfl rfl Try.isAgg124 Try.sizeOf124 (Enc.len _)) (Res.tmp rfl) (FLe.refl _) (List.Sublist.cons_cons _ (List.Sublist.cons_cons _ (List.Sublist.cons _ (List.Sublist.cons _ (List.Sublist.cons _ (List.Sublist.cons _ (List.Sublist.refl _))))))) ⟨Sl.nil, Sl.nil, rfl, rfl⟩
  replace H := ite_f hb27 H
  refine Cd.condF rfl hb27 ?_
  refine Cd.skip ?_
  refine At.in_normal ?_
  refine At.then ?_
  refine Cd.seq ?_
  refine Cd.region ?_
  refine Lst.run rfl rfl (by decide) (Ev.loadA (i := 3) rfl rfl Try.isAgg124 Try.sizeOf124 (ch := enc (OverR.mk a0 s_a0_0 s_a0_1)) (Enc.len _) (Get.here _)) ?_
  obtain ⟨r30, h31, H⟩ := bind_some H
  refine Lst.call rfl rfl (by decide) (vs := [.agg (enc (OverR.mk a0 s_a0_0 s_a0_1)).toArray]) ⟨rfl, trivial⟩ Try.call166 (over_clone_sim h31 w0 _ M _ (List.Sublist.cons _ (List.Sublist.cons _ (List.Sublist.cons _ (List.Sublist.cons _ hM)))) (hs_a0_0.mono (FLe.refl _) (List.Sublist.refl _)) (hs_a0_1.mono (FLe.refl _) (List.Sublist.refl _))) (fun F36 L' v hF37 hv => ?_)
  obtain ⟨s32, s34, rfl, rfl⟩ := hv
  refine Lst.addNil 135 3 ?_
  refine Lst.addNil 209 3 ?_
  refine Lst.alloc (cs := enc (OverR.mk ({ Over.zero with Hands := ([] : List Hand), Way := ([] : List Word) } : Over) Sl.nil Sl.nil)) rfl rfl (by decide) Try.zeroValue124 rfl (fun b40 => ?_)
  refine Lst.store (i := 0) rfl rfl rfl rfl rfl Try.sizeOf124 (vs := enc (OverR.mk r30 s32 s34)) rfl (Enc.len _) (Enc.one _) (cs' := enc (OverR.mk r30 s32 s34)) (Put.here ((Enc.len _).trans (Enc.len _).symm)) (L' := (.blk b40 (enc (OverR.mk r30 s32 s34)) 124) :: (.own Sl.nil 209 3 (encs ([] : List Word))) :: (.own Sl.nil 135 3 (encs ([] : List Hand))) :: (.own s32 135 3 (encs r30.Hands)) :: (.own s34 209 3 (encs r30.Way)) :: (.blk b5 (enc (OverR.mk ({ Over.zero with Hands := ([] : List Hand), Way := ([] : List Word) } : Over) Sl.nil Sl.nil)) 124) :: (.own Sl.nil 209 3 (encs ([] : List Word))) :: (.own Sl.nil 135 3 (encs ([] : List Hand))) :: (.blk b1 (enc (OverR.mk a0 s_a0_0 s_a0_1)) 124) :: L) rfl ?_
  refine Lst.nil ?_
  refine At.then ?_
  refine Cd.seq ?_
  refine Cd.as (e' := [(1, .int .i64 a1), (4, .pointer (some ⟨b5, 0, none⟩)), (7, .pointer (some ⟨b40, 0, none⟩))]) (L' := (.blk b40 (enc (OverR.mk r30 s32 s34)) 124) :: (.own Sl.nil 209 3 (encs ([] : List Word))) :: (.own Sl.nil 135 3 (encs ([] : List Hand))) :: (.own s32 135 3 (encs r30.Hands)) :: (.own s34 209 3 (encs r30.Way)) :: (.blk b5 (enc (OverR.mk ({ Over.zero with Hands := ([] : List Hand), Way := ([] : List Word) } : Over) Sl.nil Sl.nil)) 124) :: (.own Sl.nil 209 3 (encs ([] : List Word))) :: (.own Sl.nil 135 3 (encs ([] : List Hand))) :: (.blk b1 (enc (OverR.mk a0 s_a0_0 s_a0_1)) 124) :: L) ⟨rfl, rfl, rfl, trivial⟩ rfl ?_
  refine Cd.region ?_
  refine Lst.run rfl rfl (by decide) (Ev.fieldAddr (off' := 0) rfl Try.runUnderlying124 rfl Try.sizeOf122 rfl rfl) ?_
  refine Lst.run rfl rfl (by decide) (Ev.load (i := 0) rfl rfl Try.isAgg122 (v := Sl.v s32) ((OverR.get_Hands (Get.here _)).off (by rfl))) ?_
  refine Lst.run rfl rfl (by decide) (Ev.move rfl) ?_
  obtain ⟨x42, h43, H⟩ := bind_some H
  have g44 := lat_some h43
  refine Lst.run rfl rfl (by decide) (Ev.indexS (α := Hand) (xs := r30.Hands) rfl rfl Try.runUnderlying122 Try.sizeOf135 rfl (by decide) (Rd.own (i := 3) rfl rfl rfl) g44.1 g44.2.1) ?_
  refine Lst.run rfl rfl (by decide) (Ev.fieldS (α := Hand) (f' := a1.toNat * 3 + 0) rfl (Rd.own (i := 3) rfl rfl rfl) ((Get.elemN (s := 3) (x := x42) rfl g44.2.2 (Get.here _)).off (by omega)) rfl Try.runUnderlying135 rfl Try.sizeOf4 rfl rfl rfl) ?_
  obtain ⟨p45, h46, H⟩ := Let_some H
  refine Lst.storeS (i := 3) rfl rfl rfl rfl rfl Try.sizeOf4 (vs := [.bool false]) rfl rfl (by decide) rfl (xs' := encs p45) (by rw [← h46]; exact (Put.elemN (s := 3) (x := x42) rfl g44.2.2 (Hand.put_Busy (Put.here (vs := [.bool false]) rfl))).off (by omega)) (L' := (.blk b40 (enc (OverR.mk ({ r30 with Hands := p45 } : Over) s32 s34)) 124) :: (.own Sl.nil 209 3 (encs ([] : List Word))) :: (.own Sl.nil 135 3 (encs ([] : List Hand))) :: (.own s32 135 3 (encs p45)) :: (.own s34 209 3 (encs r30.Way)) :: (.blk b5 (enc (OverR.mk ({ Over.zero with Hands := ([] : List Hand), Way := ([] : List Word) } : Over) Sl.nil Sl.nil)) 124) :: (.own Sl.nil 209 3 (encs ([] : List Word))) :: (.own Sl.nil 135 3 (encs ([] : List Hand))) :: (.blk b1 (enc (OverR.mk a0 s_a0_0 s_a0_1)) 124) :: L) rfl ?_
  refine Lst.nil ?_
  refine At.then ?_
  refine Cd.seq ?_
  refine Cd.region ?_
  refine Lst.run rfl rfl (by decide) (Ev.move rfl) ?_
  obtain ⟨r47, h48, H⟩ := bind_some H
  refine Lst.front (i := 4) rfl (L' := (.own s34 209 3 (encs r30.Way)) :: (.blk b40 (enc (OverR.mk ({ r30 with Hands := p45 } : Over) s32 s34)) 124) :: (.own Sl.nil 209 3 (encs ([] : List Word))) :: (.own Sl.nil 135 3 (encs ([] : List Hand))) :: (.own s32 135 3 (encs p45)) :: (.blk b5 (enc (OverR.mk ({ Over.zero with Hands := ([] : List Hand), Way := ([] : List Word) } : Over) Sl.nil Sl.nil)) 124) :: (.own Sl.nil 209 3 (encs ([] : List Word))) :: (.own Sl.nil 135 3 (encs ([] : List Hand))) :: (.blk b1 (enc (OverR.mk a0 s_a0_0 s_a0_1)) 124) :: L) rfl ?_
  refine Lst.front (i := 4) rfl (L' := (.own s32 135 3 (encs p45)) :: (.own s34 209 3 (encs r30.Way)) :: (.blk b40 (enc (OverR.mk ({ r30 with Hands := p45 } : Over) s32 s34)) 124) :: (.own Sl.nil 209 3 (encs ([] : List Word))) :: (.own Sl.nil 135 3 (encs ([] : List Hand))) :: (.blk b5 (enc (OverR.mk ({ Over.zero with Hands := ([] : List Hand), Way := ([] : List Word) } : Over) Sl.nil Sl.nil)) 124) :: (.own Sl.nil 209 3 (encs ([] : List Word))) :: (.own Sl.nil 135 3 (encs ([] : List Hand))) :: (.blk b1 (enc (OverR.mk a0 s_a0_0 s_a0_1)) 124) :: L) rfl ?_
  refine Lst.call rfl rfl (by decide) (vs := [.pointer (some ⟨b40, 0, none⟩), .int .i64 a1]) ⟨rfl, rfl, trivial⟩ Try.call167 (over_detach_sim h48 w0 _ M _ (List.Sublist.cons _ (List.Sublist.cons _ (List.Sublist.cons _ (List.Sublist.cons _ (List.Sublist.cons _ (List.Sublist.cons _ hM))))))) (fun F51 L' v hF52 hv => ?_)
  obtain ⟨s49, s50, rfl, rfl⟩ := hv
  refine Lst.nil ?_
  refine At.then ?_
  refine Cd.seq ?_
  refine Cd.region ?_
  refine Lst.run rfl rfl (by decide) (Ev.loadA (i := 2) rfl rfl Try.isAgg124 Try.sizeOf124 (ch := enc (OverR.mk ({ r47.2.2 with Hands := r47.1, Way := r47.2.1 } : Over) s49 s50)) (Enc.len _) (Get.here _)) ?_
  refine Lst.store (i := 5) rfl rfl rfl rfl rfl Try.sizeOf124 (vs := enc (OverR.mk ({ r47.2.2 with Hands := r47.1, Way := r47.2.1 } : Over) s49 s50)) rfl (Enc.len _) (Enc.one _) (cs' := enc (OverR.mk ({ r47.2.2 with Hands := r47.1, Way := r47.2.1 } : Over) s49 s50)) (Put.here ((Enc.len _).trans (Enc.len _).symm)) (L' := (.own s49 135 3 (encs r47.1)) :: (.own s50 209 3 (encs r47.2.1)) :: (.blk b40 (enc (OverR.mk ({ r47.2.2 with Hands := r47.1, Way := r47.2.1 } : Over) s49 s50)) 124) :: (.own Sl.nil 209 3 (encs ([] : List Word))) :: (.own Sl.nil 135 3 (encs ([] : List Hand))) :: (.blk b5 (enc (OverR.mk ({ r47.2.2 with Hands := r47.1, Way := r47.2.1 } : Over) s49 s50)) 124) :: (.own Sl.nil 209 3 (encs ([] : List Word))) :: (.own Sl.nil 135 3 (encs ([] : List Hand))) :: (.blk b1 (enc (OverR.mk a0 s_a0_0 s_a0_1)) 124) :: L) rfl ?_
  refine Lst.run rfl rfl (by decide) (Ev.assign rfl) ?_
  refine Lst.nil ?_
  refine At.then ?_
  obtain rfl := some_inj H
  refine Cd.ret ?_
  exact At.ret2 rfl (Res.cellA (i := 5) rfl rfl Try.isAgg124 Try.sizeOf124 (Enc.len _)) (Res.tmp rfl) (FLe.trans hF37 hF52) (List.Sublist.cons_cons _ (List.Sublist.cons_cons _ (List.Sublist.cons _ (List.Sublist.cons _ (List.Sublist.cons _ (List.Sublist.cons _ (List.Sublist.cons _ (List.Sublist.cons _ (List.Sublist.cons _ (List.Sublist.refl _)))))))))) ⟨s49, s50, rfl, rfl⟩
end Go.Proofs.Ytobikknjaomalaa
