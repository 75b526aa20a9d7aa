/-
  The functions compute their specs; printed by a program.
-/
import Derived.Test.YtnljiedichjagaaDoorSmSp
import Derived.Test.YtnljiedichjagaaDoorGoL
import Derived.Test.YtnljiedichjagaaDoorGoK
import Derived.Test.YtnljiedichjagaaDoorGoI
import Derived.Test.YtnljiedichjagaaDoorGoU
import Derived.Test.YtnljiedichjagaaDoorGoS
import Derived.Test.YtnljiedichjagaaDoorGoX
import Derived.Test.YtnljiedichjagaaDoorProg
namespace Go.Proofs.YtnljiedichjagaaDoor
open Go.RowKit Enc
set_option linter.unusedVariables false
set_option linter.unusedSimpArgs false
set_option maxRecDepth 20000 in
theorem eq23 (x y : Vector Int 10) : ∀ w, (Op.equal 23 (.agg (enc x).toArray) (.agg (enc y).toArray)).run Tryd.prog w = .ok (decide (x = y)) w :=
  EqT.top (d := 10000) Tryd.isAgg23 Tryd.sizeOf23 rfl rfl (EqT.array (inf := Tryd.t3) Tryd.isAgg23 Tryd.sizeOf23 rfl Tryd.runUnderlying23 rfl (by kernel_rfl) (EqT.int Tryd.isAgg3 Tryd.runUnderlying3)) x y
set_option maxRecDepth 20000 in
theorem eq26 (x y : Cmd) : ∀ w, (Op.equal 26 (.agg (enc x).toArray) (.agg (enc y).toArray)).run Tryd.prog w = .ok (decide (x = y)) w :=
  EqT.top (d := 10000) Tryd.isAgg26 Tryd.sizeOf26 rfl rfl (EqT.struct Tryd.isAgg26 Tryd.sizeOf26 rfl Tryd.runUnderlying26 (by kernel_rfl) (fun x y w => by
  refine Eq.trans (eqField (p := x.Kind) (q := y.Kind) rfl (EqT.int Tryd.isAgg3 Tryd.runUnderlying3) rfl ((Cmd.get_Kind (Get.here _)).off rfl) ((Cmd.get_Kind (Get.here _)).off rfl) (eqField (p := x.Key) (q := y.Key) rfl (EqT.int Tryd.isAgg3 Tryd.runUnderlying3) rfl ((Cmd.get_Key (Get.here _)).off rfl) ((Cmd.get_Key (Get.here _)).off rfl) (eqField (p := x.N) (q := y.N) rfl (EqT.int Tryd.isAgg3 Tryd.runUnderlying3) rfl ((Cmd.get_N (Get.here _)).off rfl) ((Cmd.get_N (Get.here _)).off rfl) (by rfl)))) ?_
  congr 1
  rw [Bool.eq_iff_iff]; cases x; cases y; simp)) x y
set_option maxRecDepth 20000 in
theorem internal_stringslite_IndexByte_sim {a0 : Str} {a1 : BitVec 8} {r : Int} (H : internal_stringslite_IndexByte a0 a1 = some r) (w0 : World) (F : Frz) (M L : List Item) (hM : M.Sublist L) : Ok Tryd.prog w0 50 [Str.v a0, .int .u8 a1.toNat] F (L) (Is (iv r) (L)) := by
 unfold internal_stringslite_IndexByte at H
 refine Ok.enter (m := 2) (n := 8) Tryd.func50 rfl rfl rfl (by decide) ?_
 refine Cd.env (e' := [(0, Str.v a0), (1, .int .u8 a1.toNat)]) rfl ?_
 refine sr0 ?_
 refine Lst.r (Ev.assign rfl) ?_
 refine nsr ?_
 refine mv0 rfl ?_
 refine mv0 rfl ?_
 refine Lst.r (Ev.idxByte (s := a0) (c := a1) rfl rfl Tryd.func60 (by kernel_rfl) (by kernel_rfl) (by kernel_rfl) (by kernel_rfl)) ?_
 refine Lst.r (Ev.assign rfl) ?_
 refine nt0 ?_
 obtain rfl := some_inj H
 refine Cd.ret ?_
 exact At.ret1 rfl (Res.tmp rfl) fl (.refl _) ⟨rfl, rfl⟩
set_option maxRecDepth 20000 in
theorem internal_stringslite_Index_sim {a0 : Str} {a1 : Str} {r : Int} (H : internal_stringslite_Index a0 a1 = some r) (w0 : World) (F : Frz) (M L : List Item) (hM : M.Sublist L) : Ok Tryd.prog w0 40 [Str.v a0, Str.v a1] F (L) (Is (iv r) (L)) := by
 unfold internal_stringslite_Index at H
 refine Ok.enter (m := 2) (n := 143) Tryd.func40 rfl rfl rfl (by decide) ?_
 refine Cd.env (e' := [(0, Str.v a0), (1, Str.v a1)]) rfl ?_
 refine sr0 ?_
 refine Lst.r (Ev.assign rfl) ?_
 refine nsr ?_
 refine mv0 rfl ?_
 refine Lst.r (Ev.lenStr rfl rfl Tryd.runUnderlying9) ?_
 refine Lst.r (Ev.assign rfl) ?_
 refine nt0 ?_
 refine Cd.seq ?_
 refine Cd.block ?_
 refine sr0 ?_
 refine mv0 rfl ?_
 refine Lst.r (Ev.eql rfl rfl) ?_
 refine mv0 rfl ?_
 obtain ⟨o1, H, HKo1⟩ := bind_some H
 refine Lst.join (σ := Bool) 4 (fun y2 => [(0, Str.v a0), (1, Str.v a1), (5, iv (a1.length : Int)), (23, .bool y2)]) (fun y2 => L) (fun _ y2 => y2 = o1) ?_ ?_
 ·rcases Bool.eq_false_or_eq_true ((a1.length : Int) == (0 : Int)) with hb3 | hb3
  ·replace H := ite_t hb3 H
   refine Lst.skip rfl rfl rfl hb3 rfl (by decide) ?_
   refine Lst.skip rfl rfl rfl hb3 rfl (by decide) ?_
   refine Lst.skip rfl rfl rfl hb3 rfl (by decide) ?_
   refine Lst.r (Ev.pickT rfl hb3 rfl) ?_
   refine Lst.nil ?_
   exact At.meet true fl ⟨rfl, rfl, rfl, rfl, trivial⟩ rfl (some_inj H)
  replace H := ite_f hb3 H
  refine Lst.rG hb3 (Ev.move rfl) ?_
  refine Lst.rG hb3 (Ev.move rfl) ?_
  refine Lst.rG hb3 (Ev.eqlStr (s := a1) (m := a0) rfl rfl) ?_
  refine Lst.r (Ev.pickF rfl hb3 rfl) ?_
  refine Lst.nil ?_
  exact At.meet (decide (a1 = a0)) fl ⟨rfl, rfl, rfl, rfl, trivial⟩ rfl (some_inj H)
 rintro F4 y2 hF5 hy
 subst hy
 refine Lst.as (e' := [(0, Str.v a0), (1, Str.v a1), (5, iv (a1.length : Int)), (23, .bool y2)]) (L' := L) ⟨rfl, rfl, rfl, rfl, trivial⟩ rfl ?_
 replace H := HKo1
 refine Lst.r (Ev.assign rfl) ?_
 refine nt0 ?_
 rcases Bool.eq_false_or_eq_true y2 with hb6 | hb6
 ·replace H := ite_t hb6 H
  refine Cd.condT rfl hb6 ?_
  refine sr0 ?_
  refine Lst.r (Ev.assign rfl) ?_
  refine nt0 ?_
  obtain rfl := some_inj H
  refine Cd.ret ?_
  refine At.in_ret ?_
  refine At.then_ret ?_
  exact At.ret1 rfl (Res.tmp rfl) hF5 (.refl _) ⟨rfl, rfl⟩
 replace H := ite_f hb6 H
 refine Cd.condF rfl hb6 ?_
 refine sr0 ?_
 refine mv0 rfl ?_
 refine Lst.r (Ev.eql rfl rfl) ?_
 refine Lst.r (Ev.assign rfl) ?_
 refine nt0 ?_
 rcases Bool.eq_false_or_eq_true ((a1.length : Int) == (1 : Int)) with hb7 | hb7
 ·replace H := ite_t hb7 H
  refine Cd.condT rfl hb7 ?_
  refine sr0 ?_
  refine mv0 rfl ?_
  refine mv0 rfl ?_
  obtain ⟨x8, h9, H⟩ := bind_some H
  refine Lst.r (Ev.indexStr rfl rfl Tryd.runUnderlying9 h9) ?_
  obtain ⟨r10, h11, H⟩ := bind_some H
  refine Lst.call1 rfl rfl (by decide) (vs := [Str.v a0, .int .u8 x8.toBitVec.toNat]) ⟨rfl, rfl, trivial⟩ Tryd.call50 (internal_stringslite_IndexByte_sim h11 w0 _ M _ hM) ?_
  refine Lst.r (Ev.assign rfl) ?_
  refine nt0 ?_
  obtain rfl := some_inj H
  refine Cd.ret ?_
  refine At.in_ret ?_
  refine At.then_ret ?_
  exact At.ret1 rfl (Res.tmp rfl) hF5 (.refl _) ⟨rfl, rfl⟩
 replace H := ite_f hb7 H
 refine Cd.condF rfl hb7 ?_
 refine sr0 ?_
 refine mv0 rfl ?_
 refine mv0 rfl ?_
 refine Lst.r (Ev.lenStr rfl rfl Tryd.runUnderlying9) ?_
 refine Lst.r (Ev.geq rfl rfl) ?_
 refine Lst.r (Ev.assign rfl) ?_
 refine nt0 ?_
 rcases Bool.eq_false_or_eq_true (decide ((a1.length : Int) ≥ (a0.length : Int))) with hb14 | hb14
 ·replace H := ite_t hb14 H
  refine Cd.condT rfl hb14 ?_
  refine sr0 ?_
  refine Lst.r (Ev.assign rfl) ?_
  refine nt0 ?_
  obtain rfl := some_inj H
  refine Cd.ret ?_
  refine At.in_ret ?_
  refine At.then_ret ?_
  exact At.ret1 rfl (Res.tmp rfl) hF5 (.refl _) ⟨rfl, rfl⟩
 replace H := ite_f hb14 H
 cases H
set_option maxRecDepth 20000 in
theorem strings_Index_sim {a0 : Str} {a1 : Str} {r : Int} (H : strings_Index a0 a1 = some r) (w0 : World) (F : Frz) (M L : List Item) (hM : M.Sublist L) : Ok Tryd.prog w0 25 [Str.v a0, Str.v a1] F (L) (Is (iv r) (L)) := by
 unfold strings_Index at H
 refine Ok.enter (m := 2) (n := 8) Tryd.func25 rfl rfl rfl (by decide) ?_
 refine Cd.env (e' := [(0, Str.v a0), (1, Str.v a1)]) rfl ?_
 refine sr0 ?_
 refine Lst.r (Ev.assign rfl) ?_
 refine nsr ?_
 refine mv0 rfl ?_
 refine mv0 rfl ?_
 obtain ⟨r1, h2, H⟩ := bind_some H
 refine Lst.call1 rfl rfl (by decide) (vs := [Str.v a0, Str.v a1]) ⟨rfl, rfl, trivial⟩ Tryd.call40 (internal_stringslite_Index_sim h2 w0 _ M _ hM) ?_
 refine Lst.r (Ev.assign rfl) ?_
 refine nt0 ?_
 obtain rfl := some_inj H
 refine Cd.ret ?_
 exact At.ret1 rfl (Res.tmp rfl) fl (.refl _) ⟨rfl, rfl⟩
set_option maxRecDepth 20000 in
theorem strings_Count_sim {fu : Nat} {a0 : Str} {a1 : Str} {r : Int} (H : strings_Count fu a0 a1 = some r) (w0 : World) (F : Frz) (M L : List Item) (hM : M.Sublist L) : Ok Tryd.prog w0 24 [Str.v a0, Str.v a1] F (L) (Is (iv r) (L)) := by
 unfold strings_Count at H
 refine Ok.enter (m := 2) (n := 34) Tryd.func24 rfl rfl rfl (by decide) ?_
 refine Cd.env (e' := [(0, Str.v a0), (1, Str.v a1)]) rfl ?_
 refine sr0 ?_
 refine Lst.r (Ev.assign rfl) ?_
 refine nt0 ?_
 refine Cd.seq ?_
 refine sr0 ?_
 refine mv0 rfl ?_
 refine Lst.r (Ev.lenStr rfl rfl Tryd.runUnderlying9) ?_
 refine Lst.r (Ev.eql rfl rfl) ?_
 refine nt0 ?_
 rcases Bool.eq_false_or_eq_true ((a1.length : Int) == (0 : Int)) with hb1 | hb1
 ·replace H := ite_t hb1 H
  cases H
 replace H := ite_f hb1 H
 refine Cd.condF rfl hb1 ?_
 refine Cd.skip ?_
 refine At.then ?_
 refine Cd.seq ?_
 refine sr0 ?_
 refine mv0 rfl ?_
 refine Lst.r (Ev.lenStr rfl rfl Tryd.runUnderlying9) ?_
 refine Lst.r (Ev.eql rfl rfl) ?_
 refine nt0 ?_
 rcases Bool.eq_false_or_eq_true ((a1.length : Int) == (1 : Int)) with hb2 | hb2
 ·replace H := ite_t hb2 H
  refine Cd.condT rfl hb2 ?_
  refine sr0 ?_
  refine mv0 rfl ?_
  refine mv0 rfl ?_
  obtain ⟨x3, h4, H⟩ := bind_some H
  refine Lst.r (Ev.indexStr rfl rfl Tryd.runUnderlying9 h4) ?_
  refine Lst.r (Ev.cntByte (s := a0) (c := x3.toBitVec) rfl rfl Tryd.func39 (by kernel_rfl) (by kernel_rfl) (by kernel_rfl) (by kernel_rfl)) ?_
  refine Lst.r (Ev.assign rfl) ?_
  refine nt0 ?_
  obtain rfl := some_inj H
  refine Cd.ret ?_
  refine At.then_ret ?_
  exact At.ret1 rfl (Res.tmp rfl) fl (.refl _) ⟨rfl, rfl⟩
 replace H := ite_f hb2 H
 refine Cd.condF rfl hb2 ?_
 refine Cd.skip ?_
 refine At.then ?_
 refine sr0 ?_
 refine Lst.r (Ev.assign rfl) ?_
 refine nt0 ?_
 refine Cd.block ?_
 obtain ⟨ol5, H, HKl5⟩ := andThen_some H
 refine Cd.loop (σ := Nat × Str × Int) (fun (k5, y6, y7) => [(0, Str.v y6), (1, Str.v a1), (5, iv y7)]) (fun (k5, y6, y7) => L) (fun _ => (fun (k5, y6, y7) => whileM (strings_Count_B0 a1) k5 (y6, y7) = some ol5)) (fun (k5, y6, y7) => k5) (fu, a0, (0 : Int)) ⟨rfl, rfl, rfl, trivial⟩ rfl H ?_
 rintro F8 ⟨k5, y6, y7⟩ hF9 H
 refine Cd.as (e' := [(0, Str.v y6), (1, Str.v a1), (5, iv y7)]) (L' := L) ⟨rfl, rfl, rfl, trivial⟩ rfl ?_
 rcases k5 with _ | k5
 ·cases H
 obtain ⟨c5, H, hgo5, hbrk5, hret5⟩ := whileM_go H
 unfold strings_Count_B0 at H
 try dsimp only at H
 refine Cd.block ?_
 refine sr0 ?_
 refine mv0 rfl ?_
 refine mv0 rfl ?_
 obtain ⟨r10, h11, H⟩ := bind_some H
 refine Lst.call1 rfl rfl (by decide) (vs := [Str.v y6, Str.v a1]) ⟨rfl, rfl, trivial⟩ Tryd.call25 (strings_Index_sim h11 w0 _ M _ hM) ?_
 refine Lst.r (Ev.assign rfl) ?_
 refine nt0 ?_
 refine Cd.seq ?_
 refine sr0 ?_
 refine mv0 rfl ?_
 refine Lst.r (Ev.eql rfl rfl) ?_
 refine nt0 ?_
 rcases Bool.eq_false_or_eq_true (r10 == (-1 : Int)) with hb14 | hb14
 ·replace H := ite_t hb14 H
  refine Cd.condT rfl hb14 ?_
  refine sr0 ?_
  refine mv0 rfl ?_
  refine Lst.r (Ev.assign rfl) ?_
  refine nt0 ?_
  have H := hret5 _ (some_inj H).symm
  subst H
  replace H := HKl5
  obtain rfl := some_inj H
  refine Cd.ret ?_
  refine At.then_ret ?_
  refine At.in_ret ?_
  refine At.then_ret ?_
  refine At.in_ret ?_
  exact At.ret1 rfl (Res.tmp rfl) hF9 (.refl _) ⟨rfl, rfl⟩
 replace H := ite_f hb14 H
 refine Cd.condF rfl hb14 ?_
 refine Cd.skip ?_
 refine At.then ?_
 refine sr0 ?_
 refine mv0 rfl ?_
 refine Lst.r (Ev.add rfl rfl) ?_
 refine Lst.r (Ev.assign rfl) ?_
 refine nt0 ?_
 refine Cd.region ?_
 refine mv0 rfl ?_
 refine mv0 rfl ?_
 refine mv0 rfl ?_
 refine Lst.r (Ev.lenStr rfl rfl Tryd.runUnderlying9) ?_
 refine Lst.r (Ev.add rfl rfl) ?_
 obtain ⟨m15, h16, H⟩ := bind_some H
 refine Lst.r (Ev.sliceStrFrom rfl rfl  Tryd.runUnderlying9 h16) ?_
 refine Lst.r (Ev.assign rfl) ?_
 refine Lst.nil ?_
 refine At.in_normal ?_
 exact At.meet (k5, m15, w64 (y7 + (1 : Int))) hF9 ⟨rfl, rfl, rfl, trivial⟩ rfl ⟨hgo5 _ (some_inj H).symm, Nat.lt_succ_self _⟩
set_option maxRecDepth 20000 in
theorem strings_genSplit_sim {fu : Nat} {a0 : Str} {a1 : Str} {a2 : Int} {a3 : Int} {r : (List Str)} (H : strings_genSplit fu a0 a1 a2 a3 = some r) (w0 : World) (F : Frz) (M L : List Item) (hM : M.Sublist L) : Ok Tryd.prog w0 17 [Str.v a0, Str.v a1, iv a2, iv a3] F (L) (fun _ L' v => ∃ (s1 : Sl), v = Sl.v s1 ∧ L' = (.own s1 9 1 (encs r)) :: L) := by
 unfold strings_genSplit at H
 refine Ok.enter (m := 4) (n := 66) Tryd.func17 rfl rfl rfl (by decide) ?_
 refine Cd.env (e' := [(0, Str.v a0), (1, Str.v a1), (2, iv a2), (3, iv a3)]) rfl ?_
 refine sr0 ?_
 refine Lst.addNil 9 1 ?_
 refine Lst.r (Ev.assign rfl) ?_
 refine nt0 ?_
 refine Cd.seq ?_
 refine sr0 ?_
 refine mv0 rfl ?_
 refine Lst.r (Ev.eql rfl rfl) ?_
 refine nt0 ?_
 rcases Bool.eq_false_or_eq_true (a3 == (0 : Int)) with hb2 | hb2
 ·replace H := ite_t hb2 H
  refine Cd.condT rfl hb2 ?_
  refine sr0 ?_
  refine Lst.addNil 9 1 ?_
  refine Lst.r (Ev.assign rfl) ?_
  refine nt0 ?_
  obtain rfl := some_inj H
  refine Cd.ret ?_
  refine At.then_ret ?_
  exact At.ret1 rfl (Res.tmp rfl) fl (sk1 (sc1 (.refl _))) ⟨Sl.nil, rfl, rfl⟩
 replace H := ite_f hb2 H
 refine Cd.condF rfl hb2 ?_
 refine Cd.skip ?_
 refine At.then ?_
 refine Cd.seq ?_
 refine sr0 ?_
 refine mv0 rfl ?_
 refine Lst.r (Ev.eqlStr (s := a1) (m := ([] : Str)) rfl rfl) ?_
 refine nt0 ?_
 rcases Bool.eq_false_or_eq_true (decide (a1 = ([] : Str))) with hb4 | hb4
 ·replace H := ite_t hb4 H
  cases H
 replace H := ite_f hb4 H
 refine Cd.condF rfl hb4 ?_
 refine Cd.skip ?_
 refine At.then ?_
 obtain ⟨o6, H, HKo6⟩ := bind_some H
 refine Cd.join (σ := Int) (fun y5 => [(0, Str.v a0), (1, Str.v a1), (2, iv a2), (3, iv y5)]) (fun y5 => (.own Sl.nil 9 1 (encs ([] : List Str))) :: L) (fun _ y5 => y5 = o6) ?_ ?_
 ·refine sr0 ?_
  refine mv0 rfl ?_
  refine Lst.r (Ev.lss rfl rfl) ?_
  refine nt0 ?_
  rcases (Bool.eq_false_or_eq_true (decide (a3 < (0 : Int)))).symm with hb7 | hb7
  ·replace H := ite_f hb7 H
   refine Cd.condF rfl hb7 ?_
   refine Cd.skip ?_
   exact At.meet a3 fl ⟨rfl, rfl, rfl, rfl, trivial⟩ rfl (some_inj H)
  replace H := ite_t hb7 H
  refine Cd.condT rfl hb7 ?_
  refine Cd.region ?_
  refine mv0 rfl ?_
  refine mv0 rfl ?_
  obtain ⟨r8, h9, H⟩ := bind_some H
  refine Lst.call1 rfl rfl (by decide) (vs := [Str.v a0, Str.v a1]) ⟨rfl, rfl, trivial⟩ Tryd.call24 (strings_Count_sim h9 w0 _ M _ (sc1 hM)) ?_
  refine Lst.r (Ev.add rfl rfl) ?_
  refine Lst.r (Ev.assign rfl) ?_
  refine Lst.nil ?_
  exact At.meet (w64 (r8 + (1 : Int))) fl ⟨rfl, rfl, rfl, rfl, trivial⟩ rfl (some_inj H)
 rintro F12 y5 hF13 hy
 subst hy
 refine Cd.as (e' := [(0, Str.v a0), (1, Str.v a1), (2, iv a2), (3, iv y5)]) (L' := (.own Sl.nil 9 1 (encs ([] : List Str))) :: L) ⟨rfl, rfl, rfl, rfl, trivial⟩ rfl ?_
 replace H := HKo6
 refine sr0 ?_
 refine mv0 rfl ?_
 refine mv0 rfl ?_
 refine Lst.r (Ev.lenStr rfl rfl Tryd.runUnderlying9) ?_
 refine Lst.r (Ev.add rfl rfl) ?_
 refine Lst.r (Ev.min2 rfl rfl) ?_
 refine Lst.r (Ev.assign rfl) ?_
 refine nsr ?_
 refine mv0 rfl ?_
 obtain ⟨n14, h15, H⟩ := bind_some H
 have g16 := mkLen_some h15
 refine Lst.make (α := Str) (z0 := ([] : Str)) (k := n14) rfl rfl (by decide) (congrArg some (congrArg (Value.int .i64) g16.1)) (congrArg some (congrArg (Value.int .i64) g16.1)) Tryd.runUnderlying24 Tryd.typeInfo9 rfl rfl rfl rfl rfl g16.2 rfl (fun s17 => ?_)
 refine Lst.r (Ev.assign rfl) ?_
 refine nsr ?_
 refine mv0 rfl ?_
 refine Lst.r (Ev.sub rfl rfl) ?_
 refine Lst.r (Ev.assign rfl) ?_
 refine nsr ?_
 refine Lst.r (Ev.assign rfl) ?_
 refine nt0 ?_
 obtain ⟨o22, H, HKo22⟩ := bind_some H
 refine Cd.join (σ := Str × Int × (List Str)) (fun (y19, y20, l21) => [(0, Str.v y19), (9, Sl.v s17), (10, iv y20)]) (fun (y19, y20, l21) => (.own s17 9 1 (encs l21)) :: (.own Sl.nil 9 1 (encs ([] : List Str))) :: L) (fun _ (y19, y20, l21) => (y19, y20, l21) = o22) ?_ ?_
 ·refine Cd.block ?_
  obtain ⟨ol23, H, HKl23⟩ := andThen_some H
  refine Cd.loop (σ := Nat × Str × Int × (List Str)) (fun (k23, y24, y25, l26) => [(0, Str.v y24), (1, Str.v a1), (2, iv a2), (3, iv (w64 ((min y5 (w64 ((a0.length : Int) + (1 : Int)))) - (1 : Int)))), (9, Sl.v s17), (10, iv y25)]) (fun (k23, y24, y25, l26) => (.own s17 9 1 (encs l26)) :: (.own Sl.nil 9 1 (encs ([] : List Str))) :: L) (fun _ => (fun (k23, y24, y25, l26) => whileM (strings_genSplit_B0 a0 a1 a2 y5) k23 (y24, y25, l26) = some ol23)) (fun (k23, y24, y25, l26) => k23) (fu, a0, (0 : Int), (List.replicate n14 ([] : Str))) ⟨rfl, rfl, rfl, rfl, rfl, rfl, trivial⟩ rfl H ?_
  rintro F27 ⟨k23, y24, y25, l26⟩ hF28 H
  refine Cd.as (e' := [(0, Str.v y24), (1, Str.v a1), (2, iv a2), (3, iv (w64 ((min y5 (w64 ((a0.length : Int) + (1 : Int)))) - (1 : Int)))), (9, Sl.v s17), (10, iv y25)]) (L' := (.own s17 9 1 (encs l26)) :: (.own Sl.nil 9 1 (encs ([] : List Str))) :: L) ⟨rfl, rfl, rfl, rfl, rfl, rfl, trivial⟩ rfl ?_
  rcases k23 with _ | k23
  ·cases H
  obtain ⟨c23, H, hgo23, hbrk23, hret23⟩ := whileM_go H
  unfold strings_genSplit_B0 at H
  try dsimp only at H
  refine Cd.seq ?_
  refine sr0 ?_
  refine mv0 rfl ?_
  refine mv0 rfl ?_
  refine Lst.r (Ev.lss rfl rfl) ?_
  refine nt0 ?_
  rcases (Bool.eq_false_or_eq_true (decide (y25 < (w64 ((min y5 (w64 ((a0.length : Int) + (1 : Int)))) - (1 : Int)))))).symm with hb29 | hb29
  ·replace H := ite_f hb29 H
   refine Cd.condF rfl hb29 ?_
   refine Cd.exit ?_
   refine At.then_exit ?_
   refine At.then_exit ?_
   refine At.in_exit ?_
   have H := hbrk23 _ (some_inj H).symm
   subst H
   replace H := HKl23
   exact At.meet (y24, y25, l26) hF28 ⟨rfl, rfl, rfl, trivial⟩ rfl (some_inj H)
  replace H := ite_t hb29 H
  refine Cd.condT rfl hb29 ?_
  refine Cd.skip ?_
  refine At.then ?_
  refine Cd.block ?_
  refine sr0 ?_
  refine mv0 rfl ?_
  refine mv0 rfl ?_
  obtain ⟨r30, h31, H⟩ := bind_some H
  refine Lst.call1 rfl rfl (by decide) (vs := [Str.v y24, Str.v a1]) ⟨rfl, rfl, trivial⟩ Tryd.call25 (strings_Index_sim h31 w0 _ M _ (sc2 hM)) ?_
  refine Lst.r (Ev.assign rfl) ?_
  refine nt0 ?_
  refine Cd.seq ?_
  refine sr0 ?_
  refine mv0 rfl ?_
  refine Lst.r (Ev.lss rfl rfl) ?_
  refine nt0 ?_
  rcases Bool.eq_false_or_eq_true (decide (r30 < (0 : Int))) with hb34 | hb34
  ·replace H := ite_t hb34 H
   refine Cd.condT rfl hb34 ?_
   refine Cd.exit ?_
   refine At.then_exit ?_
   refine At.in_other rfl ?_
   refine At.then_exit ?_
   refine At.in_exit ?_
   have H := hbrk23 _ (some_inj H).symm
   subst H
   replace H := HKl23
   exact At.meet (y24, y25, l26) hF28 ⟨rfl, rfl, rfl, trivial⟩ rfl (some_inj H)
  replace H := ite_f hb34 H
  refine Cd.condF rfl hb34 ?_
  refine Cd.skip ?_
  refine At.then ?_
  refine sr0 ?_
  refine mv0 rfl ?_
  refine mv0 rfl ?_
  refine mv0 rfl ?_
  refine mv0 rfl ?_
  refine mv0 rfl ?_
  refine Lst.r (Ev.add rfl rfl) ?_
  obtain ⟨m35, h36, H⟩ := bind_some H
  refine Lst.r (Ev.sliceStrTo rfl rfl  Tryd.runUnderlying9 h36) ?_
  obtain ⟨x37, h38, H⟩ := bind_some H
  have g39 := lat_some h38
  refine Lst.r (Ev.indexS (α := Str) (xs := l26) rfl rfl Tryd.runUnderlying24 Tryd.sizeOf9 rfl (by decide) (rdo 0 rfl rfl rfl) g39.1 g39.2.1) ?_
  obtain ⟨p40, h41, H⟩ := Let_some H
  refine Lst.storeS (i := 0) rfl rfl rfl rfl rfl Tryd.sizeOf9 (vs := [Str.v m35]) rfl rfl (by decide) rfl (xs' := encs p40) (by rw [← h41]; exact (Put.elemN (s := 1) (x := x37) rfl g39.2.2 (Put.here (vs := [Str.v m35]) rfl)).off (by omega)) (L' := (.own s17 9 1 (encs p40)) :: (.own Sl.nil 9 1 (encs ([] : List Str))) :: L) rfl ?_
  refine nt0 ?_
  refine Cd.seq ?_
  refine Cd.as (e' := [(0, Str.v y24), (1, Str.v a1), (2, iv a2), (3, iv (w64 ((min y5 (w64 ((a0.length : Int) + (1 : Int)))) - (1 : Int)))), (9, Sl.v s17), (10, iv y25), (11, iv r30)]) (L' := (.own s17 9 1 (encs p40)) :: (.own Sl.nil 9 1 (encs ([] : List Str))) :: L) ⟨rfl, rfl, rfl, rfl, rfl, rfl, rfl, trivial⟩ rfl ?_
  refine Cd.region ?_
  refine mv0 rfl ?_
  refine mv0 rfl ?_
  refine mv0 rfl ?_
  refine Lst.r (Ev.lenStr rfl rfl Tryd.runUnderlying9) ?_
  refine Lst.r (Ev.add rfl rfl) ?_
  obtain ⟨m42, h43, H⟩ := bind_some H
  refine Lst.r (Ev.sliceStrFrom rfl rfl  Tryd.runUnderlying9 h43) ?_
  refine Lst.r (Ev.assign rfl) ?_
  refine nt0 ?_
  refine Cd.region ?_
  refine mv0 rfl ?_
  refine Lst.r (Ev.add rfl rfl) ?_
  refine Lst.r (Ev.assign rfl) ?_
  refine Lst.nil ?_
  refine At.in_normal ?_
  exact At.meet (k23, m42, w64 (y25 + (1 : Int)), p40) hF28 ⟨rfl, rfl, rfl, rfl, rfl, rfl, trivial⟩ rfl ⟨hgo23 _ (some_inj H).symm, Nat.lt_succ_self _⟩
 rintro F44 ⟨y19, y20, l21⟩ hF45 hy
 subst hy
 refine Cd.as (e' := [(0, Str.v y19), (9, Sl.v s17), (10, iv y20)]) (L' := (.own s17 9 1 (encs l21)) :: (.own Sl.nil 9 1 (encs ([] : List Str))) :: L) ⟨rfl, rfl, rfl, trivial⟩ rfl ?_
 replace H := HKo22
 refine sr0 ?_
 refine mv0 rfl ?_
 refine mv0 rfl ?_
 refine mv0 rfl ?_
 obtain ⟨x46, h47, H⟩ := bind_some H
 have g48 := lat_some h47
 refine Lst.r (Ev.indexS (α := Str) (xs := l21) rfl rfl Tryd.runUnderlying24 Tryd.sizeOf9 rfl (by decide) (rdo 0 rfl rfl rfl) g48.1 g48.2.1) ?_
 obtain ⟨p49, h50, H⟩ := Let_some H
 refine Lst.storeS (i := 0) rfl rfl rfl rfl rfl Tryd.sizeOf9 (vs := [Str.v y19]) rfl rfl (by decide) rfl (xs' := encs p49) (by rw [← h50]; exact (Put.elemN (s := 1) (x := x46) rfl g48.2.2 (Put.here (vs := [Str.v y19]) rfl)).off (by omega)) (L' := (.own s17 9 1 (encs p49)) :: (.own Sl.nil 9 1 (encs ([] : List Str))) :: L) rfl ?_
 refine nsr ?_
 refine mv0 rfl ?_
 refine mv0 rfl ?_
 refine Lst.r (Ev.add rfl rfl) ?_
 obtain ⟨m51, h52, H⟩ := bind_some H
 obtain ⟨g53, gl54⟩ := cutL_some h52
 try dsimp only at g53
 refine Lst.r (Ev.cut (α := Str) (xs := p49) (i := 0) (j := w64 (y20 + (1 : Int))) rfl rfl rfl Tryd.runUnderlying24 Tryd.sizeOf9 rfl (by decide) (rdo 0 rfl rfl rfl) g53.1 g53.2.1 g53.2.2) ?_
 refine Lst.cutOwn (i := 0) (α := Str) (lo := (0 : Int).toNat) (hi := (w64 (y20 + (1 : Int)) : Int).toNat) rfl rfl rfl (by decide) (by omega) (by omega) (L' := (.own (s17.cut (0 : Int).toNat (w64 (y20 + (1 : Int)) : Int).toNat 1) 9 1 (encs m51)) :: (.own Sl.nil 9 1 (encs ([] : List Str))) :: L) (by subst gl54; rfl) ?_
 refine Lst.r (Ev.assign rfl) ?_
 refine nt0 ?_
 obtain rfl := some_inj H
 refine Cd.ret ?_
 exact At.ret1 rfl (Res.tmp rfl) (FLe.trans hF13 hF45) (sk1 (sc1 (.refl _))) ⟨(s17.cut (0 : Int).toNat (w64 (y20 + (1 : Int)) : Int).toNat 1), rfl, rfl⟩
set_option maxRecDepth 20000 in
theorem strings_Split_sim {fu : Nat} {a0 : Str} {a1 : Str} {r : (List Str)} (H : strings_Split fu a0 a1 = some r) (w0 : World) (F : Frz) (M L : List Item) (hM : M.Sublist L) : Ok Tryd.prog w0 9 [Str.v a0, Str.v a1] F (L) (fun _ L' v => ∃ (s1 : Sl), v = Sl.v s1 ∧ L' = (.own s1 9 1 (encs r)) :: L) := by
 unfold strings_Split at H
 refine Ok.enter (m := 2) (n := 8) Tryd.func9 rfl rfl rfl (by decide) ?_
 refine Cd.env (e' := [(0, Str.v a0), (1, Str.v a1)]) rfl ?_
 refine sr0 ?_
 refine Lst.addNil 9 1 ?_
 refine Lst.r (Ev.assign rfl) ?_
 refine nsr ?_
 refine mv0 rfl ?_
 refine mv0 rfl ?_
 obtain ⟨r2, h3, H⟩ := bind_some H
 refine Lst.call rfl rfl (by decide) (vs := [Str.v a0, Str.v a1, iv (0 : Int), iv (-1 : Int)]) ⟨rfl, rfl, rfl, rfl, trivial⟩ Tryd.call17 (strings_genSplit_sim h3 w0 _ M _ (sc1 hM)) (fun F6 L' v hF7 hv => ?_)
 obtain ⟨s4, rfl, rfl⟩ := hv
 refine Lst.r (Ev.assign rfl) ?_
 refine nt0 ?_
 obtain rfl := some_inj H
 refine Cd.ret ?_
 exact At.ret1 rfl (Res.tmp rfl) hF7 (sk1 (sc1 (.refl _))) ⟨s4, rfl, rfl⟩
set_option maxRecDepth 20000 in
theorem slices_Index_string_string_sim {a0 : List Str} {a1 : Str} {s_a0 : Sl} {r : Int} (H : slices_Index_string_string a0 a1 = some r) (w0 : World) (F : Frz) (M L : List Item) (hM : M.Sublist L) (hs_a0 : Rd w0 F M s_a0 a0) : Ok Tryd.prog w0 10 [Sl.v s_a0, Str.v a1] F (L) (Is (iv r) (L)) := by
 unfold slices_Index_string_string at H
 refine Ok.enter (m := 2) (n := 19) Tryd.func10 rfl rfl rfl (by decide) ?_
 refine Cd.env (e' := [(0, Sl.v s_a0), (1, Str.v a1)]) rfl ?_
 refine sr0 ?_
 refine Lst.r (Ev.assign rfl) ?_
 refine nt0 ?_
 refine Cd.seq ?_
 refine sr0 ?_
 refine mv0 rfl ?_
 refine Lst.r (Ev.lenS (α := Str) (xs := a0) (by decide) rfl rfl Tryd.runUnderlying24 (hs_a0.mono fl hM)) ?_
 refine mv0 rfl ?_
 refine nt0 ?_
 refine Cd.block ?_
 refine Cd.bound (Rd.le (α := Str) (xs := a0) (by decide) (hs_a0.mono fl hM)) (fun hN8 => ?_)
 obtain ⟨ol1, H, HKl1⟩ := andThen_some H
 refine Cd.loop (σ := Nat × Nat × Unit) (fun (i1, k1, _u) => [(0, Sl.v s_a0), (1, Str.v a1), (7, iv (a0.length : Int)), (8, iv (i1 : Int))]) (fun (i1, k1, _u) => L) (fun _ => (fun (i1, k1, _u) => rangeM (slices_Index_string_string_B0 a0 a1) k1 i1 () = some ol1 ∧ i1 + k1 = a0.length)) (fun (i1, k1, _u) => k1) (0, a0.length, ()) ⟨rfl, rfl, rfl, rfl, trivial⟩ rfl ⟨H, by omega⟩ ?_
 rintro F2 ⟨i1, k1, _u⟩ hF3 ⟨H, hik1⟩
 refine Cd.as (e' := [(0, Sl.v s_a0), (1, Str.v a1), (7, iv (a0.length : Int)), (8, iv (i1 : Int))]) (L' := L) ⟨rfl, rfl, rfl, rfl, trivial⟩ rfl ?_
 rcases k1 with _ | k1
 ·have hc1 : decide ((i1 : Int) < (a0.length : Int)) = false := decide_eq_false (by omega)
  replace H := rangeM_end H
  refine sr0 ?_
  refine Lst.r (Ev.lss rfl rfl) ?_
  refine nt0 ?_
  refine Cd.seq ?_
  refine Cd.condF rfl hc1 ?_
  refine Cd.exit ?_
  refine At.then_exit ?_
  refine At.then_exit ?_
  refine At.in_exit ?_
  subst H
  replace H := HKl1
  refine At.then ?_
  refine sr0 ?_
  refine Lst.r (Ev.assign rfl) ?_
  refine nt0 ?_
  obtain rfl := some_inj H
  refine Cd.ret ?_
  exact At.ret1 rfl (Res.tmp rfl) hF3 (.refl _) ⟨rfl, rfl⟩
 have hc1 : decide ((i1 : Int) < (a0.length : Int)) = true := decide_eq_true (by omega)
 obtain ⟨c1, H, hgo1, hbrk1, hret1⟩ := rangeM_go H
 unfold slices_Index_string_string_B0 at H
 try dsimp only at H
 refine sr0 ?_
 refine Lst.r (Ev.lss rfl rfl) ?_
 refine nt0 ?_
 refine Cd.seq ?_
 refine Cd.condT rfl hc1 ?_
 refine Cd.skip ?_
 refine At.then ?_
 refine Cd.seq ?_
 refine Cd.block ?_
 refine sr0 ?_
 refine mv0 rfl ?_
 refine Lst.r (Ev.assign rfl) ?_
 refine nsr ?_
 refine mv0 rfl ?_
 refine mv0 rfl ?_
 refine mv0 rfl ?_
 obtain ⟨x4, h5, H⟩ := bind_some H
 have g6 := lat_some h5
 refine Lst.r (Ev.indexS (α := Str) (xs := a0) rfl rfl Tryd.runUnderlying24 Tryd.sizeOf9 rfl (by decide) (hs_a0.mono hF3 hM) g6.1 g6.2.1) ?_
 refine Lst.r (Ev.loadS (α := Str) rfl (hs_a0.mono hF3 hM) Tryd.isAgg9 (v := Str.v x4) ((Get.elemN (s := 1) (x := x4) rfl g6.2.2 gh0).off (by omega))) ?_
 refine Lst.r (Ev.eqlStr (s := a1) (m := x4) rfl rfl) ?_
 refine nt0 ?_
 rcases Bool.eq_false_or_eq_true (decide (a1 = x4)) with hb7 | hb7
 ·replace H := ite_t hb7 H
  refine Cd.condT rfl hb7 ?_
  refine sr0 ?_
  refine mv0 rfl ?_
  refine Lst.r (Ev.assign rfl) ?_
  refine nt0 ?_
  have H := hret1 _ (some_inj H).symm
  subst H
  replace H := HKl1
  obtain rfl := some_inj H
  refine Cd.ret ?_
  refine At.in_ret ?_
  refine At.then_ret ?_
  refine At.then_ret ?_
  refine At.in_ret ?_
  refine At.then_ret ?_
  exact At.ret1 rfl (Res.tmp rfl) hF3 (.refl _) ⟨rfl, rfl⟩
 replace H := ite_f hb7 H
 refine Cd.condF rfl hb7 ?_
 refine Cd.skip ?_
 refine At.in_normal ?_
 refine At.then ?_
 refine Cd.region ?_
 refine Lst.r (Ev.incr (by omega) rfl rfl) ?_
 refine mv0 rfl ?_
 refine Lst.nil ?_
 exact At.meet (i1 + 1, k1, ()) hF3 ⟨rfl, rfl, rfl, rfl, trivial⟩ rfl ⟨⟨hgo1 _ (some_inj H).symm, by omega⟩, Nat.lt_succ_self _⟩
set_option maxRecDepth 20000 in
theorem internal_stringslite_HasPrefix_sim {a0 : Str} {a1 : Str} {r : Bool} (H : internal_stringslite_HasPrefix a0 a1 = some r) (w0 : World) (F : Frz) (M L : List Item) (hM : M.Sublist L) : Ok Tryd.prog w0 36 [Str.v a0, Str.v a1] F (L) (Is (.bool r) (L)) := by
 unfold internal_stringslite_HasPrefix at H
 refine Ok.enter (m := 2) (n := 18) Tryd.func36 rfl rfl rfl (by decide) ?_
 refine Cd.env (e' := [(0, Str.v a0), (1, Str.v a1)]) rfl ?_
 refine sr0 ?_
 refine Lst.r (Ev.assign rfl) ?_
 refine nsr ?_
 refine mv0 rfl ?_
 refine Lst.r (Ev.lenStr rfl rfl Tryd.runUnderlying9) ?_
 refine mv0 rfl ?_
 refine Lst.r (Ev.lenStr rfl rfl Tryd.runUnderlying9) ?_
 refine Lst.r (Ev.geq rfl rfl) ?_
 refine mv0 rfl ?_
 obtain ⟨o1, H, HKo1⟩ := bind_some H
 refine Lst.join (σ := Bool) 7 (fun y2 => [(17, .bool y2)]) (fun y2 => L) (fun _ y2 => y2 = o1) ?_ ?_
 ·rcases (Bool.eq_false_or_eq_true (decide ((a0.length : Int) ≥ (a1.length : Int)))).symm with hb3 | hb3
  ·replace H := ite_f hb3 H
   refine Lst.skip rfl rfl rfl hb3 rfl (by decide) ?_
   refine Lst.skip rfl rfl rfl hb3 rfl (by decide) ?_
   refine Lst.skip rfl rfl rfl hb3 rfl (by decide) ?_
   refine Lst.skip rfl rfl rfl hb3 rfl (by decide) ?_
   refine Lst.skip rfl rfl rfl hb3 rfl (by decide) ?_
   refine Lst.skip rfl rfl rfl hb3 rfl (by decide) ?_
   refine Lst.r (Ev.pickF rfl hb3 rfl) ?_
   refine Lst.nil ?_
   exact At.meet false fl ⟨rfl, trivial⟩ rfl (some_inj H)
  replace H := ite_t hb3 H
  refine Lst.rG hb3 (Ev.move rfl) ?_
  refine Lst.rG hb3 (Ev.move rfl) ?_
  refine Lst.rG hb3 (Ev.lenStr rfl rfl Tryd.runUnderlying9) ?_
  obtain ⟨m4, h5, H⟩ := bind_some H
  refine Lst.rG hb3 (Ev.sliceStrTo rfl rfl  Tryd.runUnderlying9 h5) ?_
  refine Lst.rG hb3 (Ev.move rfl) ?_
  refine Lst.rG hb3 (Ev.eqlStr (s := m4) (m := a1) rfl rfl) ?_
  refine Lst.r (Ev.pickT rfl hb3 rfl) ?_
  refine Lst.nil ?_
  exact At.meet (decide (m4 = a1)) fl ⟨rfl, trivial⟩ rfl (some_inj H)
 rintro F6 y2 hF7 hy
 subst hy
 refine Lst.as (e' := [(17, .bool y2)]) (L' := L) ⟨rfl, trivial⟩ rfl ?_
 replace H := HKo1
 refine Lst.r (Ev.assign rfl) ?_
 refine nt0 ?_
 obtain rfl := some_inj H
 refine Cd.ret ?_
 exact At.ret1 rfl (Res.tmp rfl) hF7 (.refl _) ⟨rfl, rfl⟩
set_option maxRecDepth 20000 in
theorem internal_stringslite_TrimPrefix_sim {a0 : Str} {a1 : Str} {r : Str} (H : internal_stringslite_TrimPrefix a0 a1 = some r) (w0 : World) (F : Frz) (M L : List Item) (hM : M.Sublist L) : Ok Tryd.prog w0 26 [Str.v a0, Str.v a1] F (L) (Is (Str.v r) (L)) := by
 unfold internal_stringslite_TrimPrefix at H
 refine Ok.enter (m := 2) (n := 13) Tryd.func26 rfl rfl rfl (by decide) ?_
 refine Cd.env (e' := [(0, Str.v a0), (1, Str.v a1)]) rfl ?_
 refine sr0 ?_
 refine Lst.r (Ev.assign rfl) ?_
 refine nt0 ?_
 refine Cd.seq ?_
 refine sr0 ?_
 refine mv0 rfl ?_
 refine mv0 rfl ?_
 obtain ⟨r1, h2, H⟩ := bind_some H
 refine Lst.call1 rfl rfl (by decide) (vs := [Str.v a0, Str.v a1]) ⟨rfl, rfl, trivial⟩ Tryd.call36 (internal_stringslite_HasPrefix_sim h2 w0 _ M _ hM) ?_
 refine nt0 ?_
 rcases Bool.eq_false_or_eq_true r1 with hb5 | hb5
 ·replace H := ite_t hb5 H
  refine Cd.condT rfl hb5 ?_
  refine sr0 ?_
  refine mv0 rfl ?_
  refine mv0 rfl ?_
  refine Lst.r (Ev.lenStr rfl rfl Tryd.runUnderlying9) ?_
  obtain ⟨m6, h7, H⟩ := bind_some H
  refine Lst.r (Ev.sliceStrFrom rfl rfl  Tryd.runUnderlying9 h7) ?_
  refine Lst.r (Ev.assign rfl) ?_
  refine nt0 ?_
  obtain rfl := some_inj H
  refine Cd.ret ?_
  refine At.then_ret ?_
  exact At.ret1 rfl (Res.tmp rfl) fl (.refl _) ⟨rfl, rfl⟩
 replace H := ite_f hb5 H
 refine Cd.condF rfl hb5 ?_
 refine Cd.skip ?_
 refine At.then ?_
 refine sr0 ?_
 refine mv0 rfl ?_
 refine Lst.r (Ev.assign rfl) ?_
 refine nt0 ?_
 obtain rfl := some_inj H
 refine Cd.ret ?_
 exact At.ret1 rfl (Res.tmp rfl) fl (.refl _) ⟨rfl, rfl⟩
set_option maxRecDepth 20000 in
theorem strings_TrimPrefix_sim {a0 : Str} {a1 : Str} {r : Str} (H : strings_TrimPrefix a0 a1 = some r) (w0 : World) (F : Frz) (M L : List Item) (hM : M.Sublist L) : Ok Tryd.prog w0 18 [Str.v a0, Str.v a1] F (L) (Is (Str.v r) (L)) := by
 unfold strings_TrimPrefix at H
 refine Ok.enter (m := 2) (n := 8) Tryd.func18 rfl rfl rfl (by decide) ?_
 refine Cd.env (e' := [(0, Str.v a0), (1, Str.v a1)]) rfl ?_
 refine sr0 ?_
 refine Lst.r (Ev.assign rfl) ?_
 refine nsr ?_
 refine mv0 rfl ?_
 refine mv0 rfl ?_
 obtain ⟨r1, h2, H⟩ := bind_some H
 refine Lst.call1 rfl rfl (by decide) (vs := [Str.v a0, Str.v a1]) ⟨rfl, rfl, trivial⟩ Tryd.call26 (internal_stringslite_TrimPrefix_sim h2 w0 _ M _ hM) ?_
 refine Lst.r (Ev.assign rfl) ?_
 refine nt0 ?_
 obtain rfl := some_inj H
 refine Cd.ret ?_
 exact At.ret1 rfl (Res.tmp rfl) fl (.refl _) ⟨rfl, rfl⟩
set_option maxRecDepth 20000 in
theorem same_in_sim {a0 : Int} {a1 : Int} {a2 : Int} {r : Bool} (H : same_in a0 a1 a2 = some r) (w0 : World) (F : Frz) (M L : List Item) (hM : M.Sublist L) : Ok Tryd.prog w0 12 [iv a0, iv a1, iv a2] F (L) (Is (.bool r) (L)) := by
 unfold same_in at H
 refine Ok.enter (m := 3) (n := 15) Tryd.func12 rfl rfl rfl (by decide) ?_
 refine Cd.env (e' := [(0, iv a0), (1, iv a1), (2, iv a2)]) rfl ?_
 refine sr0 ?_
 refine Lst.r (Ev.assign rfl) ?_
 refine nsr ?_
 refine mv0 rfl ?_
 refine mv0 rfl ?_
 refine Lst.r (Ev.geq rfl rfl) ?_
 refine mv0 rfl ?_
 obtain ⟨o1, H, HKo1⟩ := bind_some H
 refine Lst.join (σ := Bool) 4 (fun y2 => [(14, .bool y2)]) (fun y2 => L) (fun _ y2 => y2 = o1) ?_ ?_
 ·rcases (Bool.eq_false_or_eq_true (decide (a0 ≥ a1))).symm with hb3 | hb3
  ·replace H := ite_f hb3 H
   refine Lst.skip rfl rfl rfl hb3 rfl (by decide) ?_
   refine Lst.skip rfl rfl rfl hb3 rfl (by decide) ?_
   refine Lst.skip rfl rfl rfl hb3 rfl (by decide) ?_
   refine Lst.r (Ev.pickF rfl hb3 rfl) ?_
   refine Lst.nil ?_
   exact At.meet false fl ⟨rfl, trivial⟩ rfl (some_inj H)
  replace H := ite_t hb3 H
  refine Lst.rG hb3 (Ev.move rfl) ?_
  refine Lst.rG hb3 (Ev.move rfl) ?_
  refine Lst.rG hb3 (Ev.leq rfl rfl) ?_
  refine Lst.r (Ev.pickT rfl hb3 rfl) ?_
  refine Lst.nil ?_
  exact At.meet (decide (a0 ≤ a2)) fl ⟨rfl, trivial⟩ rfl (some_inj H)
 rintro F4 y2 hF5 hy
 subst hy
 refine Lst.as (e' := [(14, .bool y2)]) (L' := L) ⟨rfl, trivial⟩ rfl ?_
 replace H := HKo1
 refine Lst.r (Ev.assign rfl) ?_
 refine nt0 ?_
 obtain rfl := some_inj H
 refine Cd.ret ?_
 exact At.ret1 rfl (Res.tmp rfl) hF5 (.refl _) ⟨rfl, rfl⟩
set_option maxRecDepth 20000 in
theorem strings_makeASCIISet_sim {fu : Nat} {a0 : Str} {r : (Vector Bool 256) × Bool} (H : strings_makeASCIISet fu a0 = some r) (w0 : World) (F : Frz) (M L : List Item) (hM : M.Sublist L) : Ok Tryd.prog w0 29 [Str.v a0] F (L) (Is (.tuple #[.agg (enc r.1).toArray, .bool r.2]) (L)) := by
 unfold strings_makeASCIISet at H
 refine Ok.enter (m := 1) (n := 21) Tryd.func29 rfl rfl rfl (by decide) ?_
 refine Cd.env (e' := [(0, Str.v a0)]) rfl ?_
 refine sr0 ?_
 refine Lst.alloc (z := .agg (enc (Vector.replicate 256 false)).toArray) (cs := enc (Vector.replicate 256 false)) rfl rfl (by decide) (fun _ => by kernel_rfl) rfl (fun b1 => ?_)
 refine Lst.r (Ev.assign rfl) ?_
 refine nt0 ?_
 refine Cd.seq ?_
 refine sr0 ?_
 refine Lst.r (Ev.assign rfl) ?_
 refine nt0 ?_
 refine Cd.block ?_
 obtain ⟨ol3, H, HKl3⟩ := andThen_some H
 refine Cd.loop (σ := Nat × Int × (Vector Bool 256)) (fun (k3, y4, y5) => [(0, Str.v a0), (2, pv b1 0), (4, iv y4)]) (fun (k3, y4, y5) => (.blk b1 (enc y5) 55) :: L) (fun _ => (fun (k3, y4, y5) => whileM (strings_makeASCIISet_B0 a0) k3 (y4, y5) = some ol3)) (fun (k3, y4, y5) => k3) (fu, (0 : Int), (Vector.replicate 256 false)) ⟨rfl, rfl, rfl, trivial⟩ rfl H ?_
 rintro F6 ⟨k3, y4, y5⟩ hF7 H
 refine Cd.as (e' := [(0, Str.v a0), (2, pv b1 0), (4, iv y4)]) (L' := (.blk b1 (enc y5) 55) :: L) ⟨rfl, rfl, rfl, trivial⟩ rfl ?_
 rcases k3 with _ | k3
 ·cases H
 obtain ⟨c3, H, hgo3, hbrk3, hret3⟩ := whileM_go H
 unfold strings_makeASCIISet_B0 at H
 try dsimp only at H
 refine Cd.seq ?_
 refine sr0 ?_
 refine mv0 rfl ?_
 refine mv0 rfl ?_
 refine Lst.r (Ev.lenStr rfl rfl Tryd.runUnderlying9) ?_
 refine Lst.r (Ev.lss rfl rfl) ?_
 refine nt0 ?_
 rcases (Bool.eq_false_or_eq_true (decide (y4 < (a0.length : Int)))).symm with hb8 | hb8
 ·replace H := ite_f hb8 H
  refine Cd.condF rfl hb8 ?_
  refine Cd.exit ?_
  refine At.then_exit ?_
  refine At.then_exit ?_
  refine At.in_exit ?_
  have H := hbrk3 _ (some_inj H).symm
  subst H
  replace H := HKl3
  refine At.then ?_
  refine sr0 ?_
  refine Lst.r (Ev.loadA (i := 0) rfl rfl Tryd.isAgg55 Tryd.sizeOf55 (ch := enc y5) (Enc.len _) gh0) ?_
  refine Lst.store (i := 0) rfl rfl rfl rfl rfl Tryd.sizeOf55 (vs := enc y5) rfl (Enc.len _) (Enc.one _) (cs' := enc y5) (Put.here ((Enc.len _).trans (Enc.len _).symm)) (L' := (.blk b1 (enc y5) 55) :: L) rfl ?_
  refine Lst.r (Ev.assign rfl) ?_
  refine nt0 ?_
  obtain rfl := some_inj H
  refine Cd.ret ?_
  exact At.ret2 rfl (Res.cellA (i := 0) rfl rfl Tryd.isAgg55 Tryd.sizeOf55 (Enc.len _)) (Res.tmp rfl) hF7 (sc1 (.refl _)) ⟨rfl, rfl⟩
 replace H := ite_t hb8 H
 refine Cd.condT rfl hb8 ?_
 refine Cd.skip ?_
 refine At.then ?_
 refine Cd.seq ?_
 refine Cd.block ?_
 refine sr0 ?_
 refine mv0 rfl ?_
 refine mv0 rfl ?_
 obtain ⟨x9, h10, H⟩ := bind_some H
 refine Lst.r (Ev.indexStr rfl rfl Tryd.runUnderlying9 h10) ?_
 refine Lst.r (Ev.assign rfl) ?_
 refine nt0 ?_
 refine Cd.seq ?_
 refine sr0 ?_
 refine mv0 rfl ?_
 refine Lst.r (Ev.geq rfl rfl) ?_
 refine nt0 ?_
 rcases Bool.eq_false_or_eq_true (decide ((x9.toBitVec.toNat : Int) ≥ ((128 : BitVec 8).toNat : Int))) with hb11 | hb11
 ·replace H := ite_t hb11 H
  refine Cd.condT rfl hb11 ?_
  refine sr0 ?_
  refine Lst.r (Ev.loadA (i := 0) rfl rfl Tryd.isAgg55 Tryd.sizeOf55 (ch := enc y5) (Enc.len _) gh0) ?_
  refine Lst.store (i := 0) rfl rfl rfl rfl rfl Tryd.sizeOf55 (vs := enc y5) rfl (Enc.len _) (Enc.one _) (cs' := enc y5) (Put.here ((Enc.len _).trans (Enc.len _).symm)) (L' := (.blk b1 (enc y5) 55) :: L) rfl ?_
  refine Lst.r (Ev.assign rfl) ?_
  refine nt0 ?_
  have H := hret3 _ (some_inj H).symm
  subst H
  replace H := HKl3
  obtain rfl := some_inj H
  refine Cd.ret ?_
  refine At.then_ret ?_
  refine At.in_ret ?_
  refine At.then_ret ?_
  refine At.then_ret ?_
  refine At.in_ret ?_
  refine At.then_ret ?_
  exact At.ret2 rfl (Res.cellA (i := 0) rfl rfl Tryd.isAgg55 Tryd.sizeOf55 (Enc.len _)) (Res.tmp rfl) hF7 (sc1 (.refl _)) ⟨rfl, rfl⟩
 replace H := ite_f hb11 H
 refine Cd.condF rfl hb11 ?_
 refine Cd.skip ?_
 refine At.then ?_
 refine Cd.region ?_
 refine mv0 rfl ?_
 obtain ⟨x12, h13, H⟩ := bind_some H
 have g14 := vat_some h13
 refine Lst.r (Ev.indexAddrK (off' := 0 + (x9.toBitVec.toNat : Int).toNat * 1) rfl rfl Tryd.runUnderlying55 Tryd.sizeOf4 g14.1 g14.2.1 rfl) ?_
 obtain ⟨p15, h16, H⟩ := Let_some H
 refine Lst.store (i := 0) rfl rfl rfl rfl rfl Tryd.sizeOf4 (vs := [.bool true]) rfl rfl rfl (cs' := enc p15) (by rw [← h16]; exact (Put.vecN (s := 1) (x := x12) rfl g14.2.2 (Put.here (vs := [.bool true]) rfl)).off (by omega)) (L' := (.blk b1 (enc p15) 55) :: L) rfl ?_
 refine Lst.nil ?_
 refine At.in_normal ?_
 refine At.then ?_
 refine Cd.region ?_
 refine mv0 rfl ?_
 refine Lst.r (Ev.add rfl rfl) ?_
 refine Lst.r (Ev.assign rfl) ?_
 refine Lst.nil ?_
 exact At.meet (k3, w64 (y4 + (1 : Int)), p15) hF7 ⟨rfl, rfl, rfl, trivial⟩ rfl ⟨hgo3 _ (some_inj H).symm, Nat.lt_succ_self _⟩
set_option maxRecDepth 20000 in
theorem strings_asciiSet_contains_sim {a0 : Vector Bool 256} {a1 : BitVec 8} {b_a0 : Nat} {r : Bool} (H : strings_asciiSet_contains a0 a1 = some r) (w0 : World) (F : Frz) (M L : List Item) (hM : M.Sublist L) : Ok Tryd.prog w0 41 [pv b_a0 0, .int .u8 a1.toNat] F ((.blk b_a0 (enc a0) 55) :: L) (Is (.bool r) ((.blk b_a0 (enc a0) 55) :: L)) := by
 unfold strings_asciiSet_contains at H
 refine Ok.enter (m := 2) (n := 10) Tryd.func41 rfl rfl rfl (by decide) ?_
 refine Cd.env (e' := [(0, pv b_a0 0), (1, .int .u8 a1.toNat)]) rfl ?_
 refine sr0 ?_
 refine Lst.r (Ev.assign rfl) ?_
 refine nsr ?_
 refine mv0 rfl ?_
 refine mv0 rfl ?_
 refine Lst.r (Ev.nilCheck rfl) ?_
 obtain ⟨x2, h3, H⟩ := bind_some H
 have g4 := vat_some h3
 refine Lst.r (Ev.indexAddrK (off' := 0 + (a1.toNat : Int).toNat * 1) rfl rfl Tryd.runUnderlying55 Tryd.sizeOf4 g4.1 g4.2.1 rfl) ?_
 refine Lst.r (Ev.load (i := 0) rfl rfl Tryd.isAgg4 (v := .bool x2) ((Get.vecN (s := 1) (x := x2) rfl g4.2.2 gh0).off (by omega))) ?_
 refine Lst.r (Ev.assign rfl) ?_
 refine nt0 ?_
 obtain rfl := some_inj H
 refine Cd.ret ?_
 exact At.ret1 rfl (Res.tmp rfl) fl (sk1 (.refl _)) ⟨rfl, rfl⟩
set_option maxRecDepth 20000 in
theorem strings_trimRightASCII_sim {fu : Nat} {a0 : Str} {a1 : Vector Bool 256} {b_a1 : Nat} {r : Str} (H : strings_trimRightASCII fu a0 a1 = some r) (w0 : World) (F : Frz) (M L : List Item) (hM : M.Sublist L) : Ok Tryd.prog w0 31 [Str.v a0, pv b_a1 0] F ((.blk b_a1 (enc a1) 55) :: L) (Is (Str.v r) ((.blk b_a1 (enc a1) 55) :: L)) := by
 unfold strings_trimRightASCII at H
 refine Ok.enter (m := 2) (n := 22) Tryd.func31 rfl rfl rfl (by decide) ?_
 refine Cd.env (e' := [(0, Str.v a0), (1, pv b_a1 0)]) rfl ?_
 refine sr0 ?_
 refine Lst.r (Ev.assign rfl) ?_
 refine nt0 ?_
 obtain ⟨o3, H, HKo3⟩ := bind_some H
 refine Cd.join (σ := Str) (fun y2 => [(0, Str.v y2)]) (fun y2 => (.blk b_a1 (enc a1) 55) :: L) (fun _ y2 => y2 = o3) ?_ ?_
 ·refine Cd.block ?_
  obtain ⟨ol4, H, HKl4⟩ := andThen_some H
  refine Cd.loop (σ := Nat × Str) (fun (k4, y5) => [(0, Str.v y5), (1, pv b_a1 0)]) (fun (k4, y5) => (.blk b_a1 (enc a1) 55) :: L) (fun _ => (fun (k4, y5) => whileM (strings_trimRightASCII_B0 a1) k4 y5 = some ol4)) (fun (k4, y5) => k4) (fu, a0) ⟨rfl, rfl, trivial⟩ rfl H ?_
  rintro F6 ⟨k4, y5⟩ hF7 H
  refine Cd.as (e' := [(0, Str.v y5), (1, pv b_a1 0)]) (L' := (.blk b_a1 (enc a1) 55) :: L) ⟨rfl, rfl, trivial⟩ rfl ?_
  rcases k4 with _ | k4
  ·cases H
  obtain ⟨c4, H, hgo4, hbrk4, hret4⟩ := whileM_go H
  unfold strings_trimRightASCII_B0 at H
  try dsimp only at H
  refine Cd.seq ?_
  refine sr0 ?_
  refine mv0 rfl ?_
  refine Lst.r (Ev.lenStr rfl rfl Tryd.runUnderlying9) ?_
  refine Lst.r (Ev.gtr rfl rfl) ?_
  refine nt0 ?_
  rcases (Bool.eq_false_or_eq_true (decide ((y5.length : Int) > (0 : Int)))).symm with hb8 | hb8
  ·replace H := ite_f hb8 H
   refine Cd.condF rfl hb8 ?_
   refine Cd.exit ?_
   refine At.then_exit ?_
   refine At.then_exit ?_
   refine At.in_exit ?_
   have H := hbrk4 _ (some_inj H).symm
   subst H
   replace H := HKl4
   exact At.meet y5 hF7 ⟨rfl, trivial⟩ rfl (some_inj H)
  replace H := ite_t hb8 H
  refine Cd.condT rfl hb8 ?_
  refine Cd.skip ?_
  refine At.then ?_
  refine Cd.block ?_
  refine Cd.seq ?_
  refine sr0 ?_
  refine mv0 rfl ?_
  refine mv0 rfl ?_
  refine mv0 rfl ?_
  refine Lst.r (Ev.lenStr rfl rfl Tryd.runUnderlying9) ?_
  refine Lst.r (Ev.sub rfl rfl) ?_
  obtain ⟨x9, h10, H⟩ := bind_some H
  refine Lst.r (Ev.indexStr rfl rfl Tryd.runUnderlying9 h10) ?_
  obtain ⟨r11, h12, H⟩ := bind_some H
  refine Lst.call1 rfl rfl (by decide) (vs := [pv b_a1 0, .int .u8 x9.toBitVec.toNat]) ⟨rfl, rfl, trivial⟩ Tryd.call41 (strings_asciiSet_contains_sim h12 w0 _ M _ hM) ?_
  refine Lst.r (Ev.not rfl) ?_
  refine nt0 ?_
  rcases Bool.eq_false_or_eq_true (!r11) with hb15 | hb15
  ·replace H := ite_t hb15 H
   refine Cd.condT rfl hb15 ?_
   refine Cd.exit ?_
   refine At.then_exit ?_
   refine At.in_other rfl ?_
   refine At.then_exit ?_
   refine At.in_exit ?_
   have H := hbrk4 _ (some_inj H).symm
   subst H
   replace H := HKl4
   exact At.meet y5 hF7 ⟨rfl, trivial⟩ rfl (some_inj H)
  replace H := ite_f hb15 H
  refine Cd.condF rfl hb15 ?_
  refine Cd.skip ?_
  refine At.then ?_
  refine Cd.region ?_
  refine mv0 rfl ?_
  refine mv0 rfl ?_
  refine Lst.r (Ev.lenStr rfl rfl Tryd.runUnderlying9) ?_
  refine Lst.r (Ev.sub rfl rfl) ?_
  obtain ⟨m16, h17, H⟩ := bind_some H
  refine Lst.r (Ev.sliceStrTo rfl rfl  Tryd.runUnderlying9 h17) ?_
  refine Lst.r (Ev.assign rfl) ?_
  refine Lst.nil ?_
  refine At.in_normal ?_
  exact At.meet (k4, m16) hF7 ⟨rfl, rfl, trivial⟩ rfl ⟨hgo4 _ (some_inj H).symm, Nat.lt_succ_self _⟩
 rintro F18 y2 hF19 hy
 subst hy
 refine Cd.as (e' := [(0, Str.v y2)]) (L' := (.blk b_a1 (enc a1) 55) :: L) ⟨rfl, trivial⟩ rfl ?_
 replace H := HKo3
 refine sr0 ?_
 refine mv0 rfl ?_
 refine Lst.r (Ev.assign rfl) ?_
 refine nt0 ?_
 obtain rfl := some_inj H
 refine Cd.ret ?_
 exact At.ret1 rfl (Res.tmp rfl) hF19 (sk1 (.refl _)) ⟨rfl, rfl⟩
set_option maxRecDepth 20000 in
theorem strings_trimLeftASCII_sim {fu : Nat} {a0 : Str} {a1 : Vector Bool 256} {b_a1 : Nat} {r : Str} (H : strings_trimLeftASCII fu a0 a1 = some r) (w0 : World) (F : Frz) (M L : List Item) (hM : M.Sublist L) : Ok Tryd.prog w0 30 [Str.v a0, pv b_a1 0] F ((.blk b_a1 (enc a1) 55) :: L) (Is (Str.v r) ((.blk b_a1 (enc a1) 55) :: L)) := by
 unfold strings_trimLeftASCII at H
 refine Ok.enter (m := 2) (n := 16) Tryd.func30 rfl rfl rfl (by decide) ?_
 refine Cd.env (e' := [(0, Str.v a0), (1, pv b_a1 0)]) rfl ?_
 refine sr0 ?_
 refine Lst.r (Ev.assign rfl) ?_
 refine nt0 ?_
 obtain ⟨o3, H, HKo3⟩ := bind_some H
 refine Cd.join (σ := Str) (fun y2 => [(0, Str.v y2)]) (fun y2 => (.blk b_a1 (enc a1) 55) :: L) (fun _ y2 => y2 = o3) ?_ ?_
 ·refine Cd.block ?_
  obtain ⟨ol4, H, HKl4⟩ := andThen_some H
  refine Cd.loop (σ := Nat × Str) (fun (k4, y5) => [(0, Str.v y5), (1, pv b_a1 0)]) (fun (k4, y5) => (.blk b_a1 (enc a1) 55) :: L) (fun _ => (fun (k4, y5) => whileM (strings_trimLeftASCII_B0 a1) k4 y5 = some ol4)) (fun (k4, y5) => k4) (fu, a0) ⟨rfl, rfl, trivial⟩ rfl H ?_
  rintro F6 ⟨k4, y5⟩ hF7 H
  refine Cd.as (e' := [(0, Str.v y5), (1, pv b_a1 0)]) (L' := (.blk b_a1 (enc a1) 55) :: L) ⟨rfl, rfl, trivial⟩ rfl ?_
  rcases k4 with _ | k4
  ·cases H
  obtain ⟨c4, H, hgo4, hbrk4, hret4⟩ := whileM_go H
  unfold strings_trimLeftASCII_B0 at H
  try dsimp only at H
  refine Cd.seq ?_
  refine sr0 ?_
  refine mv0 rfl ?_
  refine Lst.r (Ev.lenStr rfl rfl Tryd.runUnderlying9) ?_
  refine Lst.r (Ev.gtr rfl rfl) ?_
  refine nt0 ?_
  rcases (Bool.eq_false_or_eq_true (decide ((y5.length : Int) > (0 : Int)))).symm with hb8 | hb8
  ·replace H := ite_f hb8 H
   refine Cd.condF rfl hb8 ?_
   refine Cd.exit ?_
   refine At.then_exit ?_
   refine At.then_exit ?_
   refine At.in_exit ?_
   have H := hbrk4 _ (some_inj H).symm
   subst H
   replace H := HKl4
   exact At.meet y5 hF7 ⟨rfl, trivial⟩ rfl (some_inj H)
  replace H := ite_t hb8 H
  refine Cd.condT rfl hb8 ?_
  refine Cd.skip ?_
  refine At.then ?_
  refine Cd.block ?_
  refine Cd.seq ?_
  refine sr0 ?_
  refine mv0 rfl ?_
  refine mv0 rfl ?_
  obtain ⟨x9, h10, H⟩ := bind_some H
  refine Lst.r (Ev.indexStr rfl rfl Tryd.runUnderlying9 h10) ?_
  obtain ⟨r11, h12, H⟩ := bind_some H
  refine Lst.call1 rfl rfl (by decide) (vs := [pv b_a1 0, .int .u8 x9.toBitVec.toNat]) ⟨rfl, rfl, trivial⟩ Tryd.call41 (strings_asciiSet_contains_sim h12 w0 _ M _ hM) ?_
  refine Lst.r (Ev.not rfl) ?_
  refine nt0 ?_
  rcases Bool.eq_false_or_eq_true (!r11) with hb15 | hb15
  ·replace H := ite_t hb15 H
   refine Cd.condT rfl hb15 ?_
   refine Cd.exit ?_
   refine At.then_exit ?_
   refine At.in_other rfl ?_
   refine At.then_exit ?_
   refine At.in_exit ?_
   have H := hbrk4 _ (some_inj H).symm
   subst H
   replace H := HKl4
   exact At.meet y5 hF7 ⟨rfl, trivial⟩ rfl (some_inj H)
  replace H := ite_f hb15 H
  refine Cd.condF rfl hb15 ?_
  refine Cd.skip ?_
  refine At.then ?_
  refine Cd.region ?_
  refine mv0 rfl ?_
  obtain ⟨m16, h17, H⟩ := bind_some H
  refine Lst.r (Ev.sliceStrFrom rfl rfl  Tryd.runUnderlying9 h17) ?_
  refine Lst.r (Ev.assign rfl) ?_
  refine Lst.nil ?_
  refine At.in_normal ?_
  exact At.meet (k4, m16) hF7 ⟨rfl, rfl, trivial⟩ rfl ⟨hgo4 _ (some_inj H).symm, Nat.lt_succ_self _⟩
 rintro F18 y2 hF19 hy
 subst hy
 refine Cd.as (e' := [(0, Str.v y2)]) (L' := (.blk b_a1 (enc a1) 55) :: L) ⟨rfl, trivial⟩ rfl ?_
 replace H := HKo3
 refine sr0 ?_
 refine mv0 rfl ?_
 refine Lst.r (Ev.assign rfl) ?_
 refine nt0 ?_
 obtain rfl := some_inj H
 refine Cd.ret ?_
 exact At.ret1 rfl (Res.tmp rfl) hF19 (sk1 (.refl _)) ⟨rfl, rfl⟩
set_option maxRecDepth 20000 in
theorem strings_Trim_sim {fu : Nat} {a0 : Str} {a1 : Str} {r : Str} (H : strings_Trim fu a0 a1 = some r) (w0 : World) (F : Frz) (M L : List Item) (hM : M.Sublist L) : Ok Tryd.prog w0 19 [Str.v a0, Str.v a1] F (L) (Is (Str.v r) (L)) := by
 unfold strings_Trim at H
 refine Ok.enter (m := 2) (n := 43) Tryd.func19 rfl rfl rfl (by decide) ?_
 refine Cd.env (e' := [(0, Str.v a0), (1, Str.v a1)]) rfl ?_
 refine sr0 ?_
 refine Lst.r (Ev.assign rfl) ?_
 refine nt0 ?_
 refine Cd.seq ?_
 refine sr0 ?_
 refine mv0 rfl ?_
 refine Lst.r (Ev.eqlStr (s := a0) (m := ([] : Str)) rfl rfl) ?_
 refine mv0 rfl ?_
 obtain ⟨o1, H, HKo1⟩ := bind_some H
 refine Lst.join (σ := Bool) 3 (fun y2 => [(0, Str.v a0), (1, Str.v a1), (12, .bool y2)]) (fun y2 => L) (fun _ y2 => y2 = o1) ?_ ?_
 ·rcases Bool.eq_false_or_eq_true (decide (a0 = ([] : Str))) with hb3 | hb3
  ·replace H := ite_t hb3 H
   refine Lst.skip rfl rfl rfl hb3 rfl (by decide) ?_
   refine Lst.skip rfl rfl rfl hb3 rfl (by decide) ?_
   refine Lst.r (Ev.pickT rfl hb3 rfl) ?_
   refine Lst.nil ?_
   exact At.meet true fl ⟨rfl, rfl, rfl, trivial⟩ rfl (some_inj H)
  replace H := ite_f hb3 H
  refine Lst.rG hb3 (Ev.move rfl) ?_
  refine Lst.rG hb3 (Ev.eqlStr (s := a1) (m := ([] : Str)) rfl rfl) ?_
  refine Lst.r (Ev.pickF rfl hb3 rfl) ?_
  refine Lst.nil ?_
  exact At.meet (decide (a1 = ([] : Str))) fl ⟨rfl, rfl, rfl, trivial⟩ rfl (some_inj H)
 rintro F4 y2 hF5 hy
 subst hy
 refine Lst.as (e' := [(0, Str.v a0), (1, Str.v a1), (12, .bool y2)]) (L' := L) ⟨rfl, rfl, rfl, trivial⟩ rfl ?_
 replace H := HKo1
 refine nt0 ?_
 rcases Bool.eq_false_or_eq_true y2 with hb6 | hb6
 ·replace H := ite_t hb6 H
  refine Cd.condT rfl hb6 ?_
  refine sr0 ?_
  refine mv0 rfl ?_
  refine Lst.r (Ev.assign rfl) ?_
  refine nt0 ?_
  obtain rfl := some_inj H
  refine Cd.ret ?_
  refine At.then_ret ?_
  exact At.ret1 rfl (Res.tmp rfl) hF5 (.refl _) ⟨rfl, rfl⟩
 replace H := ite_f hb6 H
 refine Cd.condF rfl hb6 ?_
 refine Cd.skip ?_
 refine At.then ?_
 refine Cd.seq ?_
 refine sr0 ?_
 refine mv0 rfl ?_
 refine Lst.r (Ev.lenStr rfl rfl Tryd.runUnderlying9) ?_
 refine Lst.r (Ev.eql rfl rfl) ?_
 refine mv0 rfl ?_
 obtain ⟨o7, H, HKo7⟩ := bind_some H
 refine Lst.join (σ := Bool) 4 (fun y8 => [(0, Str.v a0), (1, Str.v a1), (21, .bool y8)]) (fun y8 => L) (fun _ y8 => y8 = o7) ?_ ?_
 ·rcases (Bool.eq_false_or_eq_true ((a1.length : Int) == (1 : Int))).symm with hb9 | hb9
  ·replace H := ite_f hb9 H
   refine Lst.skip rfl rfl rfl hb9 rfl (by decide) ?_
   refine Lst.skip rfl rfl rfl hb9 rfl (by decide) ?_
   refine Lst.skip rfl rfl rfl hb9 rfl (by decide) ?_
   refine Lst.r (Ev.pickF rfl hb9 rfl) ?_
   refine Lst.nil ?_
   exact At.meet false fl ⟨rfl, rfl, rfl, trivial⟩ rfl (some_inj H)
  replace H := ite_t hb9 H
  refine Lst.rG hb9 (Ev.move rfl) ?_
  obtain ⟨x10, h11, H⟩ := bind_some H
  refine Lst.rG hb9 (Ev.indexStr rfl rfl Tryd.runUnderlying9 h11) ?_
  refine Lst.rG hb9 (Ev.lss rfl rfl) ?_
  refine Lst.r (Ev.pickT rfl hb9 rfl) ?_
  refine Lst.nil ?_
  exact At.meet (decide ((x10.toBitVec.toNat : Int) < ((128 : BitVec 8).toNat : Int))) fl ⟨rfl, rfl, rfl, trivial⟩ rfl (some_inj H)
 rintro F12 y8 hF13 hy
 subst hy
 refine Lst.as (e' := [(0, Str.v a0), (1, Str.v a1), (21, .bool y8)]) (L' := L) ⟨rfl, rfl, rfl, trivial⟩ rfl ?_
 replace H := HKo7
 refine nt0 ?_
 rcases Bool.eq_false_or_eq_true y8 with hb14 | hb14
 ·replace H := ite_t hb14 H
  cases H
 replace H := ite_f hb14 H
 refine Cd.condF rfl hb14 ?_
 refine Cd.skip ?_
 refine At.then ?_
 refine Cd.seq ?_
 refine sr0 ?_
 refine mv0 rfl ?_
 obtain ⟨r15, h16, H⟩ := bind_some H
 refine Lst.call1 rfl rfl (by decide) (vs := [Str.v a1]) ⟨rfl, trivial⟩ Tryd.call29 (strings_makeASCIISet_sim h16 w0 _ M _ hM) ?_
 refine mv0 rfl ?_
 refine Lst.r (Ev.extract rfl rfl) ?_
 refine Lst.r (Ev.extract rfl rfl) ?_
 refine Lst.alloc (z := .agg (enc (Vector.replicate 256 false)).toArray) (cs := enc (Vector.replicate 256 false)) rfl rfl (by decide) (fun _ => by kernel_rfl) rfl (fun b19 => ?_)
 refine Lst.store (i := 0) rfl rfl rfl rfl rfl Tryd.sizeOf55 (vs := enc r15.1) rfl (Enc.len _) (Enc.one _) (cs' := enc r15.1) (Put.here ((Enc.len _).trans (Enc.len _).symm)) (L' := (.blk b19 (enc r15.1) 55) :: L) rfl ?_
 refine Lst.r (Ev.assign rfl) ?_
 refine nsr ?_
 refine mv0 rfl ?_
 refine nt0 ?_
 rcases Bool.eq_false_or_eq_true r15.2 with hb21 | hb21
 ·replace H := ite_t hb21 H
  refine Cd.condT rfl hb21 ?_
  refine sr0 ?_
  refine mv0 rfl ?_
  obtain ⟨r22, h23, H⟩ := bind_some H
  refine Lst.call1 rfl rfl (by decide) (vs := [Str.v a0, pv b19 0]) ⟨rfl, rfl, trivial⟩ Tryd.call31 (strings_trimRightASCII_sim h23 w0 _ M _ hM) ?_
  obtain ⟨r26, h27, H⟩ := bind_some H
  refine Lst.call1 rfl rfl (by decide) (vs := [Str.v r22, pv b19 0]) ⟨rfl, rfl, trivial⟩ Tryd.call30 (strings_trimLeftASCII_sim h27 w0 _ M _ hM) ?_
  refine Lst.r (Ev.assign rfl) ?_
  refine nt0 ?_
  obtain rfl := some_inj H
  refine Cd.ret ?_
  refine At.then_ret ?_
  exact At.ret1 rfl (Res.tmp rfl) (FLe.trans hF5 hF13) (sc1 (.refl _)) ⟨rfl, rfl⟩
 replace H := ite_f hb21 H
 cases H
set_option maxRecDepth 20000 in
theorem internal_strconv_Atoi_sim {a0 : Str} {r : Int × Unit} (H : internal_strconv_Atoi a0 = some r) (w0 : World) (F : Frz) (M L : List Item) (hM : M.Sublist L) : Ok Tryd.prog w0 34 [Str.v a0] F (L) (Is (.tuple #[iv r.1, .nilIface]) (L)) := by
 unfold internal_strconv_Atoi at H
 refine Ok.enter (m := 1) (n := 77) Tryd.func34 rfl rfl rfl (by decide) ?_
 refine Cd.env (e' := [(0, Str.v a0)]) rfl ?_
 refine sr0 ?_
 refine Lst.r (Ev.assign rfl) ?_
 refine Lst.r (Ev.assign rfl) ?_
 refine nsr ?_
 refine mv0 rfl ?_
 refine Lst.r (Ev.lenStr rfl rfl Tryd.runUnderlying9) ?_
 refine Lst.r (Ev.assign rfl) ?_
 refine nt0 ?_
 refine Cd.seq ?_
 refine sr0 ?_
 refine mv0 rfl ?_
 refine Lst.skip rfl rfl rfl rfl rfl (by decide) ?_
 refine Lst.skip rfl rfl rfl rfl rfl (by decide) ?_
 refine Lst.skip rfl rfl rfl rfl rfl (by decide) ?_
 refine Lst.skipU rfl rfl rfl rfl (by decide) ?_
 refine Lst.skipU rfl rfl rfl rfl (by decide) ?_
 refine Lst.skip rfl rfl rfl rfl rfl (by decide) ?_
 refine Lst.r (Ev.pickF rfl rfl rfl) ?_
 refine mv0 rfl ?_
 refine Lst.rG rfl (Ev.move rfl) ?_
 refine Lst.rG rfl (Ev.move rfl) ?_
 refine Lst.rG rfl (Ev.lss rfl rfl) ?_
 refine Lst.rG rfl (Ev.move rfl) ?_
 obtain ⟨o1, H, HKo1⟩ := bind_some H
 refine Lst.join (σ := Bool) 3 (fun y2 => [(0, Str.v a0), (21, .bool false), (22, .bool true), (28, .bool y2)]) (fun y2 => L) (fun _ y2 => y2 = o1) ?_ ?_
 ·rcases (Bool.eq_false_or_eq_true (decide ((0 : Int) < (a0.length : Int)))).symm with hb3 | hb3
  ·replace H := ite_f hb3 H
   refine Lst.skip rfl rfl rfl hb3 rfl (by decide) ?_
   refine Lst.skip rfl rfl rfl hb3 rfl (by decide) ?_
   refine Lst.rG rfl (Ev.pickF rfl hb3 rfl) ?_
   refine Lst.nil ?_
   exact At.meet false fl ⟨rfl, rfl, rfl, rfl, trivial⟩ rfl (some_inj H)
  replace H := ite_t hb3 H
  refine Lst.rG hb3 (Ev.move rfl) ?_
  refine Lst.rG hb3 (Ev.lss rfl rfl) ?_
  refine Lst.rG rfl (Ev.pickT rfl hb3 rfl) ?_
  refine Lst.nil ?_
  exact At.meet (decide ((a0.length : Int) < (19 : Int))) fl ⟨rfl, rfl, rfl, rfl, trivial⟩ rfl (some_inj H)
 rintro F4 y2 hF5 hy
 subst hy
 refine Lst.as (e' := [(0, Str.v a0), (21, .bool false), (22, .bool true), (28, .bool y2)]) (L' := L) ⟨rfl, rfl, rfl, rfl, trivial⟩ rfl ?_
 replace H := HKo1
 refine Lst.rG rfl (Ev.pickT rfl rfl rfl) ?_
 refine Lst.r (Ev.pickF rfl rfl rfl) ?_
 refine nt0 ?_
 rcases Bool.eq_false_or_eq_true y2 with hb6 | hb6
 ·replace H := ite_t hb6 H
  refine Cd.condT rfl hb6 ?_
  refine sr0 ?_
  refine mv0 rfl ?_
  refine Lst.r (Ev.assign rfl) ?_
  refine nt0 ?_
  obtain ⟨o8, H, HKo8⟩ := andThen_some H
  refine Cd.join (σ := Str) (fun y7 => [(0, Str.v y7), (5, Str.v a0)]) (fun y7 => L) (fun _ y7 => .inl y7 = o8) ?_ ?_
  ·refine sr0 ?_
   refine mv0 rfl ?_
   obtain ⟨x9, h10, H⟩ := bind_some H
   refine Lst.r (Ev.indexStr rfl rfl Tryd.runUnderlying9 h10) ?_
   refine Lst.r (Ev.eql rfl rfl) ?_
   refine mv0 rfl ?_
   obtain ⟨o11, H, HKo11⟩ := bind_some H
   refine Lst.join (σ := Bool) 4 (fun y12 => [(0, Str.v a0), (5, Str.v a0), (39, .bool y12)]) (fun y12 => L) (fun _ y12 => y12 = o11) ?_ ?_
   ·rcases Bool.eq_false_or_eq_true ((x9.toBitVec.toNat : Int) == ((45 : BitVec 8).toNat : Int)) with hb13 | hb13
    ·replace H := ite_t hb13 H
     refine Lst.skip rfl rfl rfl hb13 rfl (by decide) ?_
     refine Lst.skip rfl rfl rfl hb13 rfl (by decide) ?_
     refine Lst.skip rfl rfl rfl hb13 rfl (by decide) ?_
     refine Lst.r (Ev.pickT rfl hb13 rfl) ?_
     refine Lst.nil ?_
     exact At.meet true fl ⟨rfl, rfl, rfl, trivial⟩ rfl (some_inj H)
    replace H := ite_f hb13 H
    refine Lst.rG hb13 (Ev.move rfl) ?_
    obtain ⟨x14, h15, H⟩ := bind_some H
    refine Lst.rG hb13 (Ev.indexStr rfl rfl Tryd.runUnderlying9 h15) ?_
    refine Lst.rG hb13 (Ev.eql rfl rfl) ?_
    refine Lst.r (Ev.pickF rfl hb13 rfl) ?_
    refine Lst.nil ?_
    exact At.meet ((x14.toBitVec.toNat : Int) == ((43 : BitVec 8).toNat : Int)) fl ⟨rfl, rfl, rfl, trivial⟩ rfl (some_inj H)
   rintro F16 y12 hF17 hy
   subst hy
   refine Lst.as (e' := [(0, Str.v a0), (5, Str.v a0), (39, .bool y12)]) (L' := L) ⟨rfl, rfl, rfl, trivial⟩ rfl ?_
   replace H := HKo11
   refine nt0 ?_
   rcases (Bool.eq_false_or_eq_true y12).symm with hb18 | hb18
   ·replace H := ite_f hb18 H
    refine Cd.condF rfl hb18 ?_
    refine Cd.skip ?_
    exact At.meet a0 hF17 ⟨rfl, rfl, trivial⟩ rfl (some_inj H)
   replace H := ite_t hb18 H
   refine Cd.condT rfl hb18 ?_
   refine sr0 ?_
   refine mv0 rfl ?_
   obtain ⟨m19, h20, H⟩ := bind_some H
   refine Lst.r (Ev.sliceStrFrom rfl rfl  Tryd.runUnderlying9 h20) ?_
   refine Lst.r (Ev.assign rfl) ?_
   refine nsr ?_
   refine mv0 rfl ?_
   refine Lst.r (Ev.lenStr rfl rfl Tryd.runUnderlying9) ?_
   refine Lst.r (Ev.lss rfl rfl) ?_
   refine nt0 ?_
   rcases Bool.eq_false_or_eq_true (decide ((m19.length : Int) < (1 : Int))) with hb21 | hb21
   ·replace H := ite_t hb21 H
    cases H
   replace H := ite_f hb21 H
   refine Cd.condF rfl hb21 ?_
   refine Cd.skip ?_
   exact At.meet m19 hF17 ⟨rfl, rfl, trivial⟩ rfl (some_inj H)
  rintro F22 y7 hF23 hy
  subst hy
  refine Cd.as (e' := [(0, Str.v y7), (5, Str.v a0)]) (L' := L) ⟨rfl, rfl, trivial⟩ rfl ?_
  replace H := HKo8
  refine sr0 ?_
  refine Lst.r (Ev.assign rfl) ?_
  refine nt0 ?_
  refine Cd.seq ?_
  refine sr0 ?_
  refine mv0 rfl ?_
  obtain ⟨u24, h25, H⟩ := bind_some H
  refine Lst.bytesOf (el := 5) rfl rfl (by decide) rfl (by kernel_rfl) (by kernel_rfl) (by kernel_rfl) (by have := room_some h25; simp at this; omega) (fun s26 F27 hF28 hq29 => ?_)
  refine Lst.r (Ev.lenS (α := BitVec 8) (xs := (Str.bytes y7)) (by decide) rfl rfl Tryd.runUnderlying49 (hq29.mono fl (List.nil_sublist _))) ?_
  refine mv0 rfl ?_
  refine nt0 ?_
  refine Cd.block ?_
  refine Cd.bound (Rd.le (α := BitVec 8) (xs := (Str.bytes y7)) (by decide) (hq29.mono fl (List.nil_sublist _))) (fun hN45 => ?_)
  obtain ⟨ol30, H, HKl30⟩ := andThen_some H
  refine Cd.loop (σ := Nat × Nat × Int) (fun (i30, k30, y31) => [(5, Str.v a0), (6, iv y31), (47, Sl.v s26), (48, iv ((Str.bytes y7).length : Int)), (49, iv (i30 : Int))]) (fun (i30, k30, y31) => L) (fun _ => (fun (i30, k30, y31) => rangeM (internal_strconv_Atoi_B0 y7) k30 i30 y31 = some ol30 ∧ i30 + k30 = (Str.bytes y7).length)) (fun (i30, k30, y31) => k30) (0, (Str.bytes y7).length, (0 : Int)) ⟨rfl, rfl, rfl, rfl, rfl, trivial⟩ rfl ⟨H, by omega⟩ ?_
  rintro F32 ⟨i30, k30, y31⟩ hF33 ⟨H, hik30⟩
  refine Cd.as (e' := [(5, Str.v a0), (6, iv y31), (47, Sl.v s26), (48, iv ((Str.bytes y7).length : Int)), (49, iv (i30 : Int))]) (L' := L) ⟨rfl, rfl, rfl, rfl, rfl, trivial⟩ rfl ?_
  rcases k30 with _ | k30
  ·have hc30 : decide ((i30 : Int) < ((Str.bytes y7).length : Int)) = false := decide_eq_false (by omega)
   replace H := rangeM_end H
   refine sr0 ?_
   refine Lst.r (Ev.lss rfl rfl) ?_
   refine nt0 ?_
   refine Cd.seq ?_
   refine Cd.condF rfl hc30 ?_
   refine Cd.exit ?_
   refine At.then_exit ?_
   refine At.then_exit ?_
   refine At.in_exit ?_
   subst H
   replace H := HKl30
   refine At.then ?_
   obtain ⟨o39, H, HKo39⟩ := bind_some H
   refine Cd.join (σ := Int) (fun y38 => [(6, iv y38)]) (fun y38 => L) (fun _ y38 => y38 = o39) ?_ ?_
   ·refine sr0 ?_
    refine mv0 rfl ?_
    obtain ⟨x40, h41, H⟩ := bind_some H
    refine Lst.r (Ev.indexStr rfl rfl Tryd.runUnderlying9 h41) ?_
    refine Lst.r (Ev.eql rfl rfl) ?_
    refine nt0 ?_
    rcases (Bool.eq_false_or_eq_true ((x40.toBitVec.toNat : Int) == ((45 : BitVec 8).toNat : Int))).symm with hb42 | hb42
    ·replace H := ite_f hb42 H
     refine Cd.condF rfl hb42 ?_
     refine Cd.skip ?_
     exact At.meet y31 fl ⟨rfl, trivial⟩ rfl (some_inj H)
    replace H := ite_t hb42 H
    refine Cd.condT rfl hb42 ?_
    refine Cd.region ?_
    refine mv0 rfl ?_
    refine Lst.r (Ev.neg rfl) ?_
    refine Lst.r (Ev.assign rfl) ?_
    refine Lst.nil ?_
    exact At.meet (w64 (0 - y31)) fl ⟨rfl, trivial⟩ rfl (some_inj H)
   rintro F43 y38 hF44 hy
   subst hy
   refine Cd.as (e' := [(6, iv y38)]) (L' := L) ⟨rfl, trivial⟩ rfl ?_
   replace H := HKo39
   refine sr0 ?_
   refine mv0 rfl ?_
   refine Lst.r (Ev.assign rfl) ?_
   refine Lst.r (Ev.assign rfl) ?_
   refine nt0 ?_
   obtain rfl := some_inj H
   refine Cd.ret ?_
   refine At.then_ret ?_
   exact At.ret2 rfl (Res.tmp rfl) (Res.tmp rfl) (FLe.trans (FLe.trans (FLe.trans (FLe.trans hF5 hF23) hF28) hF33) hF44) (.refl _) ⟨rfl, rfl⟩
  have hc30 : decide ((i30 : Int) < ((Str.bytes y7).length : Int)) = true := decide_eq_true (by omega)
  obtain ⟨c30, H, hgo30, hbrk30, hret30⟩ := rangeM_go H
  unfold internal_strconv_Atoi_B0 at H
  try dsimp only at H
  refine sr0 ?_
  refine Lst.r (Ev.lss rfl rfl) ?_
  refine nt0 ?_
  refine Cd.seq ?_
  refine Cd.condT rfl hc30 ?_
  refine Cd.skip ?_
  refine At.then ?_
  refine Cd.seq ?_
  refine Cd.block ?_
  refine sr0 ?_
  obtain ⟨x34, h35, H⟩ := bind_some H
  have g36 := lat_some h35
  refine Lst.r (Ev.indexS (α := BitVec 8) (xs := (Str.bytes y7)) rfl rfl Tryd.runUnderlying49 Tryd.sizeOf5 rfl (by decide) (hq29.mono hF33 (List.nil_sublist _)) g36.1 g36.2.1) ?_
  refine Lst.r (Ev.loadS (α := BitVec 8) rfl (hq29.mono hF33 (List.nil_sublist _)) Tryd.isAgg5 (v := .int .u8 x34.toNat) ((Get.elemN (s := 1) (x := x34) rfl g36.2.2 gh0).off (by omega))) ?_
  refine Lst.r (Ev.assign rfl) ?_
  refine nsr ?_
  refine mv0 rfl ?_
  refine Lst.r (Ev.subU8 (i := x34) (j := (48 : BitVec 8)) rfl rfl) ?_
  refine Lst.r (Ev.assign rfl) ?_
  refine nt0 ?_
  refine Cd.seq ?_
  refine sr0 ?_
  refine mv0 rfl ?_
  refine Lst.r (Ev.gtr rfl rfl) ?_
  refine nt0 ?_
  rcases Bool.eq_false_or_eq_true (decide (((x34 - (48 : BitVec 8)).toNat : Int) > ((9 : BitVec 8).toNat : Int))) with hb37 | hb37
  ·replace H := ite_t hb37 H
   cases H
  replace H := ite_f hb37 H
  refine Cd.condF rfl hb37 ?_
  refine Cd.skip ?_
  refine At.then ?_
  refine Cd.region ?_
  refine mv0 rfl ?_
  refine Lst.r (Ev.mul rfl rfl) ?_
  refine mv0 rfl ?_
  refine Lst.r (Ev.convIS (j := ((x34 - (48 : BitVec 8)).toNat : Int)) rfl Tryd.runUnderlying5 Tryd.runUnderlying3 (w64_id (by omega) (by omega))) ?_
  refine Lst.r (Ev.add rfl rfl) ?_
  refine Lst.r (Ev.assign rfl) ?_
  refine Lst.nil ?_
  refine At.in_normal ?_
  refine At.then ?_
  refine Cd.as (e' := [(5, Str.v a0), (6, iv (w64 ((w64 (y31 * (10 : Int))) + ((x34 - (48 : BitVec 8)).toNat : Int)))), (47, Sl.v s26), (48, iv ((Str.bytes y7).length : Int)), (49, iv (i30 : Int))]) (L' := L) ⟨rfl, rfl, rfl, rfl, rfl, trivial⟩ rfl ?_
  refine Cd.region ?_
  refine Lst.r (Ev.incr (by omega) rfl rfl) ?_
  refine mv0 rfl ?_
  refine Lst.nil ?_
  exact At.meet (i30 + 1, k30, w64 ((w64 (y31 * (10 : Int))) + ((x34 - (48 : BitVec 8)).toNat : Int))) hF33 ⟨rfl, rfl, rfl, rfl, rfl, trivial⟩ rfl ⟨⟨hgo30 _ (some_inj H).symm, by omega⟩, Nat.lt_succ_self _⟩
 replace H := ite_f hb6 H
 cases H
set_option maxRecDepth 20000 in
theorem strconv_Atoi_sim {a0 : Str} {r : Int × Unit} (H : strconv_Atoi a0 = some r) (w0 : World) (F : Frz) (M L : List Item) (hM : M.Sublist L) : Ok Tryd.prog w0 20 [Str.v a0] F (L) (Is (.tuple #[iv r.1, .nilIface]) (L)) := by
 unfold strconv_Atoi at H
 refine Ok.enter (m := 1) (n := 18) Tryd.func20 rfl rfl rfl (by decide) ?_
 refine Cd.env (e' := [(0, Str.v a0)]) rfl ?_
 refine sr0 ?_
 refine Lst.r (Ev.assign rfl) ?_
 refine Lst.r (Ev.assign rfl) ?_
 refine nsr ?_
 refine mv0 rfl ?_
 obtain ⟨r1, h2, H⟩ := bind_some H
 refine Lst.call1 rfl rfl (by decide) (vs := [Str.v a0]) ⟨rfl, trivial⟩ Tryd.call34 (internal_strconv_Atoi_sim h2 w0 _ M _ hM) ?_
 refine mv0 rfl ?_
 refine Lst.r (Ev.extract rfl rfl) ?_
 refine Lst.r (Ev.extract rfl rfl) ?_
 refine Lst.r (Ev.assign rfl) ?_
 refine Lst.r (Ev.assign rfl) ?_
 refine nt0 ?_
 refine Cd.seq ?_
 refine sr0 ?_
 refine mv0 rfl ?_
 refine Lst.r (Ev.neqErr rfl Tryd.runUnderlying46) ?_
 refine nt0 ?_
 refine Cd.condF rfl rfl ?_
 refine Cd.skip ?_
 refine At.then ?_
 refine sr0 ?_
 refine mv0 rfl ?_
 refine Lst.r (Ev.assign rfl) ?_
 refine Lst.r (Ev.assign rfl) ?_
 refine nt0 ?_
 obtain rfl := some_inj H
 refine Cd.ret ?_
 exact At.ret2 rfl (Res.tmp rfl) (Res.tmp rfl) fl (.refl _) ⟨rfl, rfl⟩
set_option maxRecDepth 20000 in
theorem same_number_sim {fu : Nat} {a0 : Str} {r : Int × Bool} (H : same_number fu a0 = some r) (w0 : World) (F : Frz) (M L : List Item) (hM : M.Sublist L) : Ok Tryd.prog w0 11 [Str.v a0] F (L) (Is (.tuple #[iv r.1, .bool r.2]) (L)) := by
 unfold same_number at H
 refine Ok.enter (m := 1) (n := 26) Tryd.func11 rfl rfl rfl (by decide) ?_
 refine Cd.env (e' := [(0, Str.v a0)]) rfl ?_
 refine sr0 ?_
 refine Lst.r (Ev.assign rfl) ?_
 refine Lst.r (Ev.assign rfl) ?_
 refine nsr ?_
 refine mv0 rfl ?_
 obtain ⟨r1, h2, H⟩ := bind_some H
 refine Lst.call1 rfl rfl (by decide) (vs := [Str.v a0, Str.v ([45] : Str)]) ⟨rfl, rfl, trivial⟩ Tryd.call18 (strings_TrimPrefix_sim h2 w0 _ M _ hM) ?_
 refine Lst.r (Ev.assign rfl) ?_
 refine nt0 ?_
 refine Cd.seq ?_
 refine sr0 ?_
 refine mv0 rfl ?_
 refine Lst.r (Ev.lenStr rfl rfl Tryd.runUnderlying9) ?_
 obtain ⟨r5, h6, H⟩ := bind_some H
 refine Lst.call1 rfl rfl (by decide) (vs := [iv (r1.length : Int), iv (1 : Int), iv (9 : Int)]) ⟨rfl, rfl, rfl, trivial⟩ Tryd.call12 (same_in_sim h6 w0 _ M _ hM) ?_
 refine Lst.r (Ev.not rfl) ?_
 refine mv0 rfl ?_
 obtain ⟨o9, H, HKo9⟩ := bind_some H
 refine Lst.join (σ := Bool) 4 (fun y10 => [(0, Str.v a0), (17, .bool y10)]) (fun y10 => L) (fun _ y10 => y10 = o9) ?_ ?_
 ·rcases Bool.eq_false_or_eq_true (!r5) with hb11 | hb11
  ·replace H := ite_t hb11 H
   refine Lst.skip rfl rfl rfl hb11 rfl (by decide) ?_
   refine Lst.skip rfl rfl rfl hb11 rfl (by decide) ?_
   refine Lst.skip rfl rfl rfl hb11 rfl (by decide) ?_
   refine Lst.r (Ev.pickT rfl hb11 rfl) ?_
   refine Lst.nil ?_
   exact At.meet true fl ⟨rfl, rfl, trivial⟩ rfl (some_inj H)
  replace H := ite_f hb11 H
  refine Lst.rG hb11 (Ev.move rfl) ?_
  obtain ⟨r12, h13, H⟩ := bind_some H
  refine Lst.call1G rfl rfl rfl hb11 rfl (by decide) (vs := [Str.v r1, Str.v ([48, 49, 50, 51, 52, 53, 54, 55, 56, 57] : Str)]) ⟨rfl, rfl, trivial⟩ Tryd.call19 (strings_Trim_sim h13 w0 _ M _ hM) ?_
  refine Lst.rG hb11 (Ev.neqStr (s := r12) (m := ([] : Str)) rfl rfl) ?_
  refine Lst.r (Ev.pickF rfl hb11 rfl) ?_
  refine Lst.nil ?_
  exact At.meet (!(decide (r12 = ([] : Str)))) fl ⟨rfl, rfl, trivial⟩ rfl (some_inj H)
 rintro F16 y10 hF17 hy
 subst hy
 refine Lst.as (e' := [(0, Str.v a0), (17, .bool y10)]) (L' := L) ⟨rfl, rfl, trivial⟩ rfl ?_
 replace H := HKo9
 refine nt0 ?_
 rcases Bool.eq_false_or_eq_true y10 with hb18 | hb18
 ·replace H := ite_t hb18 H
  refine Cd.condT rfl hb18 ?_
  refine sr0 ?_
  refine Lst.r (Ev.assign rfl) ?_
  refine Lst.r (Ev.assign rfl) ?_
  refine nt0 ?_
  obtain rfl := some_inj H
  refine Cd.ret ?_
  refine At.then_ret ?_
  exact At.ret2 rfl (Res.tmp rfl) (Res.tmp rfl) hF17 (.refl _) ⟨rfl, rfl⟩
 replace H := ite_f hb18 H
 refine Cd.condF rfl hb18 ?_
 refine Cd.skip ?_
 refine At.then ?_
 refine sr0 ?_
 refine mv0 rfl ?_
 obtain ⟨r19, h20, H⟩ := bind_some H
 refine Lst.call1 rfl rfl (by decide) (vs := [Str.v a0]) ⟨rfl, trivial⟩ Tryd.call20 (strconv_Atoi_sim h20 w0 _ M _ hM) ?_
 refine mv0 rfl ?_
 refine Lst.r (Ev.extract rfl rfl) ?_
 refine Lst.r (Ev.extract rfl rfl) ?_
 refine Lst.r (Ev.assign rfl) ?_
 refine Lst.r (Ev.assign rfl) ?_
 refine nt0 ?_
 refine Cd.seq ?_
 refine Cd.quiet (by kernel_rfl) (by kernel_rfl) ?_
 refine Qt.r (Ev.move rfl) ?_
 refine Qt.r (Ev.move rfl) ?_
 refine Qt.r (Ev.eqlErr rfl Tryd.runUnderlying46) ?_
 refine Qt.r (Ev.assign rfl) ?_
 refine Qt.r (Ev.assign rfl) ?_
 refine Qt.done ?_
 refine At.then ?_
 obtain rfl := some_inj H
 refine Cd.ret ?_
 exact At.ret2 rfl (Res.tmp rfl) (Res.tmp rfl) hF17 (.refl _) ⟨rfl, rfl⟩
set_option maxRecDepth 20000 in
theorem same_Read_sim {fu : Nat} {a0 : Str} {r : Cmd × Int} (H : same_Read fu a0 = some r) (w0 : World) (F : Frz) (M L : List Item) (hM : M.Sublist L) : Ok Tryd.prog w0 4 [Str.v a0] F (L) (Is (.tuple #[.agg (enc r.1).toArray, iv r.2]) (L)) := by
 unfold same_Read at H
 refine Ok.enter (m := 1) (n := 66) Tryd.func4 rfl rfl rfl (by decide) ?_
 refine Cd.env (e' := [(0, Str.v a0)]) rfl ?_
 refine sr0 ?_
 refine Lst.alloc (cs := enc Cmd.zero) rfl rfl (by decide) Tryd.zeroValue26 rfl (fun b1 => ?_)
 refine Lst.r (Ev.assign rfl) ?_
 refine nsr ?_
 refine mv0 rfl ?_
 obtain ⟨r3, h4, H⟩ := bind_some H
 refine Lst.call rfl rfl (by decide) (vs := [Str.v a0, Str.v ([32] : Str)]) ⟨rfl, rfl, trivial⟩ Tryd.call9 (strings_Split_sim h4 w0 _ M _ (sc1 hM)) (fun F7 L' v hF8 hv => ?_)
 obtain ⟨s5, rfl, rfl⟩ := hv
 refine Lst.r (Ev.assign rfl) ?_
 refine nt0 ?_
 refine Cd.seq ?_
 refine sr0 ?_
 refine mv0 rfl ?_
 refine Lst.r (Ev.lenS (α := Str) (xs := r3) (by decide) rfl rfl Tryd.runUnderlying24 (rdo 0 rfl rfl rfl)) ?_
 refine Lst.r (Ev.neq rfl rfl) ?_
 refine nt0 ?_
 rcases Bool.eq_false_or_eq_true ((r3.length : Int) != (3 : Int)) with hb9 | hb9
 ·replace H := ite_t hb9 H
  refine Cd.condT rfl hb9 ?_
  refine sr0 ?_
  refine Lst.r (Ev.build (v := .agg (enc Cmd.zero).toArray) (pv := []) trivial (fun w => by kernel_rfl)) ?_
  refine Lst.store (i := 1) rfl rfl rfl rfl rfl Tryd.sizeOf26 (vs := enc Cmd.zero) rfl (Enc.len _) (Enc.one _) (cs' := enc Cmd.zero) (Put.here ((Enc.len _).trans (Enc.len _).symm)) (L' := (.own s5 9 1 (encs r3)) :: (.blk b1 (enc Cmd.zero) 26) :: L) rfl ?_
  refine Lst.r (Ev.assign rfl) ?_
  refine nt0 ?_
  obtain rfl := some_inj H
  refine Cd.ret ?_
  refine At.then_ret ?_
  exact At.ret2 rfl (Res.cellA (i := 1) rfl rfl Tryd.isAgg26 Tryd.sizeOf26 (Enc.len _)) (Res.tmp rfl) hF8 (sc1 (sc1 (.refl _))) ⟨rfl, rfl⟩
 replace H := ite_f hb9 H
 refine Cd.condF rfl hb9 ?_
 refine Cd.skip ?_
 refine At.then ?_
 refine sr0 ?_
 refine Lst.buildSlice (α := Str) (xs := ([([115, 101, 116] : Str), ([97, 100, 100] : Str), ([109, 111, 115, 116] : Str), ([99, 111, 112, 121] : Str)] : List Str)) (pv := [(0, Str.v ([115, 101, 116] : Str)), (1, Str.v ([97, 100, 100] : Str)), (2, Str.v ([109, 111, 115, 116] : Str)), (3, Str.v ([99, 111, 112, 121] : Str))]) rfl rfl (by decide) ⟨rfl, rfl, ⟨rfl, rfl, ⟨rfl, rfl, ⟨rfl, rfl, trivial⟩⟩⟩⟩ (run_buildSlice (α := Str) (z0 := ([] : Str)) (xs := ([([115, 101, 116] : Str), ([97, 100, 100] : Str), ([109, 111, 115, 116] : Str), ([99, 111, 112, 121] : Str)] : List Str)) Tryd.runUnderlying24 Tryd.sizeOf9 Tryd.zeroValue9 rfl rfl rfl (by decide) rfl (fill_cons (cs := encs (List.replicate 4 ([] : Str))) (cs' := encs ((List.replicate 4 ([] : Str)).set 0 ([115, 101, 116] : Str))) (vs := [Str.v ([115, 101, 116] : Str)]) rfl rfl rfl ((Put.elemN (s := 1) (i := 0) (x := ([] : Str)) (y := ([115, 101, 116] : Str)) rfl rfl (Put.here (vs := [Str.v ([115, 101, 116] : Str)]) rfl)).off rfl) (fill_cons (cs := encs ((List.replicate 4 ([] : Str)).set 0 ([115, 101, 116] : Str))) (cs' := encs (((List.replicate 4 ([] : Str)).set 0 ([115, 101, 116] : Str)).set 1 ([97, 100, 100] : Str))) (vs := [Str.v ([97, 100, 100] : Str)]) rfl rfl rfl ((Put.elemN (s := 1) (i := 1) (x := ([] : Str)) (y := ([97, 100, 100] : Str)) rfl rfl (Put.here (vs := [Str.v ([97, 100, 100] : Str)]) rfl)).off rfl) (fill_cons (cs := encs (((List.replicate 4 ([] : Str)).set 0 ([115, 101, 116] : Str)).set 1 ([97, 100, 100] : Str))) (cs' := encs ((((List.replicate 4 ([] : Str)).set 0 ([115, 101, 116] : Str)).set 1 ([97, 100, 100] : Str)).set 2 ([109, 111, 115, 116] : Str))) (vs := [Str.v ([109, 111, 115, 116] : Str)]) rfl rfl rfl ((Put.elemN (s := 1) (i := 2) (x := ([] : Str)) (y := ([109, 111, 115, 116] : Str)) rfl rfl (Put.here (vs := [Str.v ([109, 111, 115, 116] : Str)]) rfl)).off rfl) (fill_cons (cs := encs ((((List.replicate 4 ([] : Str)).set 0 ([115, 101, 116] : Str)).set 1 ([97, 100, 100] : Str)).set 2 ([109, 111, 115, 116] : Str))) (cs' := encs (((((List.replicate 4 ([] : Str)).set 0 ([115, 101, 116] : Str)).set 1 ([97, 100, 100] : Str)).set 2 ([109, 111, 115, 116] : Str)).set 3 ([99, 111, 112, 121] : Str))) (vs := [Str.v ([99, 111, 112, 121] : Str)]) rfl rfl rfl ((Put.elemN (s := 1) (i := 3) (x := ([] : Str)) (y := ([99, 111, 112, 121] : Str)) rfl rfl (Put.here (vs := [Str.v ([99, 111, 112, 121] : Str)]) rfl)).off rfl) fill_nil))))) rfl rfl (by decide) (fun s10 _ => ?_)
 refine mv0 rfl ?_
 obtain ⟨x12, h13, H⟩ := bind_some H
 have g14 := lat_some h13
 refine Lst.r (Ev.indexS (α := Str) (xs := r3) rfl rfl Tryd.runUnderlying24 Tryd.sizeOf9 rfl (by decide) (rdo 1 rfl rfl rfl) g14.1 g14.2.1) ?_
 refine Lst.r (Ev.loadS (α := Str) rfl (rdo 1 rfl rfl rfl) Tryd.isAgg9 (v := Str.v x12) ((Get.elemN (s := 1) (x := x12) rfl g14.2.2 gh0).off (by omega))) ?_
 obtain ⟨r15, h16, H⟩ := bind_some H
 refine Lst.call1 rfl rfl (by decide) (vs := [Sl.v s10, Str.v x12]) ⟨rfl, rfl, trivial⟩ Tryd.call10 (slices_Index_string_string_sim h16 w0 _ _ _ (.refl _) (rdo 0 rfl rfl rfl)) ?_
 refine Lst.r (Ev.add rfl rfl) ?_
 refine Lst.r (Ev.assign rfl) ?_
 refine nsr ?_
 refine mv0 rfl ?_
 obtain ⟨x19, h20, H⟩ := bind_some H
 have g21 := lat_some h20
 refine Lst.r (Ev.indexS (α := Str) (xs := r3) rfl rfl Tryd.runUnderlying24 Tryd.sizeOf9 rfl (by decide) (rdo 1 rfl rfl rfl) g21.1 g21.2.1) ?_
 refine Lst.r (Ev.loadS (α := Str) rfl (rdo 1 rfl rfl rfl) Tryd.isAgg9 (v := Str.v x19) ((Get.elemN (s := 1) (x := x19) rfl g21.2.2 gh0).off (by omega))) ?_
 obtain ⟨r22, h23, H⟩ := bind_some H
 refine Lst.call1 rfl rfl (by decide) (vs := [Str.v x19]) ⟨rfl, trivial⟩ Tryd.call11 (same_number_sim h23 w0 _ M _ (sc2 (sc1 hM))) ?_
 refine mv0 rfl ?_
 refine Lst.r (Ev.extract rfl rfl) ?_
 refine Lst.r (Ev.extract rfl rfl) ?_
 refine Lst.r (Ev.assign rfl) ?_
 refine Lst.r (Ev.assign rfl) ?_
 refine nt0 ?_
 refine Cd.seq ?_
 refine Cd.as (e' := [(2, pv b1 0), (4, Sl.v s5), (5, iv (w64 (r15 + (1 : Int)))), (6, iv r22.1), (7, .bool r22.2)]) (L' := (.own s10 9 1 (encs ([([115, 101, 116] : Str), ([97, 100, 100] : Str), ([109, 111, 115, 116] : Str), ([99, 111, 112, 121] : Str)] : List Str))) :: (.own s5 9 1 (encs r3)) :: (.blk b1 (enc Cmd.zero) 26) :: L) ⟨rfl, rfl, rfl, rfl, rfl, trivial⟩ rfl ?_
 refine Cd.region ?_
 refine mv0 rfl ?_
 obtain ⟨x26, h27, H⟩ := bind_some H
 have g28 := lat_some h27
 refine Lst.r (Ev.indexS (α := Str) (xs := r3) rfl rfl Tryd.runUnderlying24 Tryd.sizeOf9 rfl (by decide) (rdo 1 rfl rfl rfl) g28.1 g28.2.1) ?_
 refine Lst.r (Ev.loadS (α := Str) rfl (rdo 1 rfl rfl rfl) Tryd.isAgg9 (v := Str.v x26) ((Get.elemN (s := 1) (x := x26) rfl g28.2.2 gh0).off (by omega))) ?_
 obtain ⟨r29, h30, H⟩ := bind_some H
 refine Lst.call1 rfl rfl (by decide) (vs := [Str.v x26]) ⟨rfl, trivial⟩ Tryd.call11 (same_number_sim h30 w0 _ M _ (sc2 (sc1 hM))) ?_
 refine mv0 rfl ?_
 refine Lst.r (Ev.extract rfl rfl) ?_
 refine Lst.r (Ev.extract rfl rfl) ?_
 refine Lst.r (Ev.assign rfl) ?_
 refine Lst.r (Ev.assign rfl) ?_
 refine nt0 ?_
 refine Cd.seq ?_
 refine Cd.block ?_
 refine sr0 ?_
 refine mv0 rfl ?_
 refine Lst.r (Ev.eql rfl rfl) ?_
 refine mv0 rfl ?_
 obtain ⟨o33, H, HKo33⟩ := bind_some H
 refine Lst.join (σ := Bool) 3 (fun y34 => [(2, pv b1 0), (5, iv (w64 (r15 + (1 : Int)))), (6, iv r22.1), (8, iv r29.1), (9, .bool r29.2), (42, .bool y34)]) (fun y34 => (.own s10 9 1 (encs ([([115, 101, 116] : Str), ([97, 100, 100] : Str), ([109, 111, 115, 116] : Str), ([99, 111, 112, 121] : Str)] : List Str))) :: (.own s5 9 1 (encs r3)) :: (.blk b1 (enc Cmd.zero) 26) :: L) (fun _ y34 => y34 = o33) ?_ ?_
 ·rcases Bool.eq_false_or_eq_true ((w64 (r15 + (1 : Int))) == (0 : Int)) with hb35 | hb35
  ·replace H := ite_t hb35 H
   refine Lst.skip rfl rfl rfl hb35 rfl (by decide) ?_
   refine Lst.skip rfl rfl rfl hb35 rfl (by decide) ?_
   refine Lst.r (Ev.pickT rfl hb35 rfl) ?_
   refine Lst.nil ?_
   exact At.meet true fl ⟨rfl, rfl, rfl, rfl, rfl, rfl, trivial⟩ rfl (some_inj H)
  replace H := ite_f hb35 H
  refine Lst.rG hb35 (Ev.move rfl) ?_
  refine Lst.rG hb35 (Ev.not rfl) ?_
  refine Lst.r (Ev.pickF rfl hb35 rfl) ?_
  refine Lst.nil ?_
  exact At.meet (!r22.2) fl ⟨rfl, rfl, rfl, rfl, rfl, rfl, trivial⟩ rfl (some_inj H)
 rintro F36 y34 hF37 hy
 subst hy
 refine Lst.as (e' := [(2, pv b1 0), (5, iv (w64 (r15 + (1 : Int)))), (6, iv r22.1), (8, iv r29.1), (9, .bool r29.2), (42, .bool y34)]) (L' := (.own s10 9 1 (encs ([([115, 101, 116] : Str), ([97, 100, 100] : Str), ([109, 111, 115, 116] : Str), ([99, 111, 112, 121] : Str)] : List Str))) :: (.own s5 9 1 (encs r3)) :: (.blk b1 (enc Cmd.zero) 26) :: L) ⟨rfl, rfl, rfl, rfl, rfl, rfl, trivial⟩ rfl ?_
 replace H := HKo33
 refine mv0 rfl ?_
 obtain ⟨o38, H, HKo38⟩ := bind_some H
 refine Lst.join (σ := Bool) 3 (fun y39 => [(2, pv b1 0), (5, iv (w64 (r15 + (1 : Int)))), (6, iv r22.1), (8, iv r29.1), (46, .bool y39)]) (fun y39 => (.own s10 9 1 (encs ([([115, 101, 116] : Str), ([97, 100, 100] : Str), ([109, 111, 115, 116] : Str), ([99, 111, 112, 121] : Str)] : List Str))) :: (.own s5 9 1 (encs r3)) :: (.blk b1 (enc Cmd.zero) 26) :: L) (fun _ y39 => y39 = o38) ?_ ?_
 ·rcases Bool.eq_false_or_eq_true y34 with hb40 | hb40
  ·replace H := ite_t hb40 H
   refine Lst.skip rfl rfl rfl hb40 rfl (by decide) ?_
   refine Lst.skip rfl rfl rfl hb40 rfl (by decide) ?_
   refine Lst.r (Ev.pickT rfl hb40 rfl) ?_
   refine Lst.nil ?_
   exact At.meet true fl ⟨rfl, rfl, rfl, rfl, rfl, trivial⟩ rfl (some_inj H)
  replace H := ite_f hb40 H
  refine Lst.rG hb40 (Ev.move rfl) ?_
  refine Lst.rG hb40 (Ev.not rfl) ?_
  refine Lst.r (Ev.pickF rfl hb40 rfl) ?_
  refine Lst.nil ?_
  exact At.meet (!r29.2) fl ⟨rfl, rfl, rfl, rfl, rfl, trivial⟩ rfl (some_inj H)
 rintro F41 y39 hF42 hy
 subst hy
 refine Lst.as (e' := [(2, pv b1 0), (5, iv (w64 (r15 + (1 : Int)))), (6, iv r22.1), (8, iv r29.1), (46, .bool y39)]) (L' := (.own s10 9 1 (encs ([([115, 101, 116] : Str), ([97, 100, 100] : Str), ([109, 111, 115, 116] : Str), ([99, 111, 112, 121] : Str)] : List Str))) :: (.own s5 9 1 (encs r3)) :: (.blk b1 (enc Cmd.zero) 26) :: L) ⟨rfl, rfl, rfl, rfl, rfl, trivial⟩ rfl ?_
 replace H := HKo38
 refine Lst.r (Ev.assign rfl) ?_
 refine nt0 ?_
 rcases Bool.eq_false_or_eq_true y39 with hb43 | hb43
 ·replace H := ite_t hb43 H
  refine Cd.condT rfl hb43 ?_
  refine sr0 ?_
  refine Lst.r (Ev.build (v := .agg (enc Cmd.zero).toArray) (pv := []) trivial (fun w => by kernel_rfl)) ?_
  refine Lst.store (i := 2) rfl rfl rfl rfl rfl Tryd.sizeOf26 (vs := enc Cmd.zero) rfl (Enc.len _) (Enc.one _) (cs' := enc Cmd.zero) (Put.here ((Enc.len _).trans (Enc.len _).symm)) (L' := (.own s10 9 1 (encs ([([115, 101, 116] : Str), ([97, 100, 100] : Str), ([109, 111, 115, 116] : Str), ([99, 111, 112, 121] : Str)] : List Str))) :: (.own s5 9 1 (encs r3)) :: (.blk b1 (enc Cmd.zero) 26) :: L) rfl ?_
  refine Lst.r (Ev.assign rfl) ?_
  refine nt0 ?_
  obtain rfl := some_inj H
  refine Cd.ret ?_
  refine At.in_ret ?_
  refine At.then_ret ?_
  exact At.ret2 rfl (Res.cellA (i := 2) rfl rfl Tryd.isAgg26 Tryd.sizeOf26 (Enc.len _)) (Res.tmp rfl) (FLe.trans (FLe.trans hF8 hF37) hF42) (sc1 (sc1 (sc1 (.refl _)))) ⟨rfl, rfl⟩
 replace H := ite_f hb43 H
 refine Cd.condF rfl hb43 ?_
 refine sr0 ?_
 refine mv0 rfl ?_
 obtain ⟨r44, h45, H⟩ := bind_some H
 refine Lst.call1 rfl rfl (by decide) (vs := [iv r22.1, iv (0 : Int), iv (9 : Int)]) ⟨rfl, rfl, rfl, trivial⟩ Tryd.call12 (same_in_sim h45 w0 _ M _ (sc2 (sc1 hM))) ?_
 refine Lst.r (Ev.not rfl) ?_
 refine mv0 rfl ?_
 rcases Bool.eq_false_or_eq_true (!r44) with hb48 | hb48
 ·replace H := ite_t hb48 H
  refine Lst.skip rfl rfl rfl hb48 rfl (by decide) ?_
  refine Lst.skip rfl rfl rfl hb48 rfl (by decide) ?_
  refine Lst.skip rfl rfl rfl hb48 rfl (by decide) ?_
  refine Lst.skipU rfl rfl rfl rfl (by decide) ?_
  refine Lst.skipU rfl rfl rfl rfl (by decide) ?_
  refine Lst.skipU rfl rfl rfl rfl (by decide) ?_
  refine Lst.skip rfl rfl rfl hb48 rfl (by decide) ?_
  refine Lst.r (Ev.pickT rfl hb48 rfl) ?_
  refine Lst.r (Ev.assign rfl) ?_
  refine nt0 ?_
  refine Cd.condT rfl rfl ?_
  refine Cd.seq ?_
  refine Cd.as (e' := [(2, pv b1 0)]) (L' := (.own s10 9 1 (encs ([([115, 101, 116] : Str), ([97, 100, 100] : Str), ([109, 111, 115, 116] : Str), ([99, 111, 112, 121] : Str)] : List Str))) :: (.own s5 9 1 (encs r3)) :: (.blk b1 (enc Cmd.zero) 26) :: L) ⟨rfl, trivial⟩ rfl ?_
  refine Cd.region ?_
  refine Lst.r (Ev.build (v := .agg (enc Cmd.zero).toArray) (pv := []) trivial (fun w => by kernel_rfl)) ?_
  refine Lst.store (i := 2) rfl rfl rfl rfl rfl Tryd.sizeOf26 (vs := enc Cmd.zero) rfl (Enc.len _) (Enc.one _) (cs' := enc Cmd.zero) (Put.here ((Enc.len _).trans (Enc.len _).symm)) (L' := (.own s10 9 1 (encs ([([115, 101, 116] : Str), ([97, 100, 100] : Str), ([109, 111, 115, 116] : Str), ([99, 111, 112, 121] : Str)] : List Str))) :: (.own s5 9 1 (encs r3)) :: (.blk b1 (enc Cmd.zero) 26) :: L) rfl ?_
  refine Lst.r (Ev.assign rfl) ?_
  refine nt0 ?_
  obtain rfl := some_inj H
  refine Cd.ret ?_
  refine At.in_ret ?_
  refine At.then_ret ?_
  exact At.ret2 rfl (Res.cellA (i := 2) rfl rfl Tryd.isAgg26 Tryd.sizeOf26 (Enc.len _)) (Res.tmp rfl) (FLe.trans (FLe.trans hF8 hF37) hF42) (sc1 (sc1 (sc1 (.refl _)))) ⟨rfl, rfl⟩
 replace H := ite_f hb48 H
 refine Lst.rG hb48 (Ev.move rfl) ?_
 refine Lst.rG hb48 (Ev.eql rfl rfl) ?_
 refine Lst.rG hb48 (Ev.move rfl) ?_
 obtain ⟨o49, H, HKo49⟩ := bind_some H
 refine Lst.join (σ := Bool) 4 (fun y50 => [(2, pv b1 0), (5, iv (w64 (r15 + (1 : Int)))), (6, iv r22.1), (8, iv r29.1), (52, .bool (!r44)), (59, .bool y50)]) (fun y50 => (.own s10 9 1 (encs ([([115, 101, 116] : Str), ([97, 100, 100] : Str), ([109, 111, 115, 116] : Str), ([99, 111, 112, 121] : Str)] : List Str))) :: (.own s5 9 1 (encs r3)) :: (.blk b1 (enc Cmd.zero) 26) :: L) (fun _ y50 => y50 = o49) ?_ ?_
 ·rcases (Bool.eq_false_or_eq_true ((w64 (r15 + (1 : Int))) == (4 : Int))).symm with hb51 | hb51
  ·replace H := ite_f hb51 H
   refine Lst.skip rfl rfl rfl hb51 rfl (by decide) ?_
   refine Lst.skip rfl rfl rfl hb51 rfl (by decide) ?_
   refine Lst.skip rfl rfl rfl hb51 rfl (by decide) ?_
   refine Lst.rG hb48 (Ev.pickF rfl hb51 rfl) ?_
   refine Lst.nil ?_
   exact At.meet false fl ⟨rfl, rfl, rfl, rfl, rfl, rfl, trivial⟩ rfl (some_inj H)
  replace H := ite_t hb51 H
  refine Lst.rG hb51 (Ev.move rfl) ?_
  obtain ⟨r52, h53, H⟩ := bind_some H
  refine Lst.call1G rfl rfl rfl hb51 rfl (by decide) (vs := [iv r29.1, iv (0 : Int), iv (9 : Int)]) ⟨rfl, rfl, rfl, trivial⟩ Tryd.call12 (same_in_sim h53 w0 _ M _ (sc2 (sc1 hM))) ?_
  refine Lst.rG hb51 (Ev.not rfl) ?_
  refine Lst.rG hb48 (Ev.pickT rfl hb51 rfl) ?_
  refine Lst.nil ?_
  exact At.meet (!r52) fl ⟨rfl, rfl, rfl, rfl, rfl, rfl, trivial⟩ rfl (some_inj H)
 rintro F56 y50 hF57 hy
 subst hy
 refine Lst.as (e' := [(2, pv b1 0), (5, iv (w64 (r15 + (1 : Int)))), (6, iv r22.1), (8, iv r29.1), (52, .bool (!r44)), (59, .bool y50)]) (L' := (.own s10 9 1 (encs ([([115, 101, 116] : Str), ([97, 100, 100] : Str), ([109, 111, 115, 116] : Str), ([99, 111, 112, 121] : Str)] : List Str))) :: (.own s5 9 1 (encs r3)) :: (.blk b1 (enc Cmd.zero) 26) :: L) ⟨rfl, rfl, rfl, rfl, rfl, rfl, trivial⟩ rfl ?_
 replace H := HKo49
 refine Lst.r (Ev.pickF rfl hb48 rfl) ?_
 refine Lst.r (Ev.assign rfl) ?_
 refine nt0 ?_
 rcases Bool.eq_false_or_eq_true y50 with hb58 | hb58
 ·replace H := ite_t hb58 H
  refine Cd.condT rfl hb58 ?_
  refine sr0 ?_
  refine Lst.r (Ev.build (v := .agg (enc Cmd.zero).toArray) (pv := []) trivial (fun w => by kernel_rfl)) ?_
  refine Lst.store (i := 2) rfl rfl rfl rfl rfl Tryd.sizeOf26 (vs := enc Cmd.zero) rfl (Enc.len _) (Enc.one _) (cs' := enc Cmd.zero) (Put.here ((Enc.len _).trans (Enc.len _).symm)) (L' := (.own s10 9 1 (encs ([([115, 101, 116] : Str), ([97, 100, 100] : Str), ([109, 111, 115, 116] : Str), ([99, 111, 112, 121] : Str)] : List Str))) :: (.own s5 9 1 (encs r3)) :: (.blk b1 (enc Cmd.zero) 26) :: L) rfl ?_
  refine Lst.r (Ev.assign rfl) ?_
  refine nt0 ?_
  obtain rfl := some_inj H
  refine Cd.ret ?_
  refine At.in_ret ?_
  refine At.then_ret ?_
  exact At.ret2 rfl (Res.cellA (i := 2) rfl rfl Tryd.isAgg26 Tryd.sizeOf26 (Enc.len _)) (Res.tmp rfl) (FLe.trans (FLe.trans (FLe.trans hF8 hF37) hF42) hF57) (sc1 (sc1 (sc1 (.refl _)))) ⟨rfl, rfl⟩
 replace H := ite_f hb58 H
 refine Cd.condF rfl hb58 ?_
 refine Cd.skip ?_
 refine At.in_normal ?_
 refine At.then ?_
 refine sr0 ?_
 refine mv0 rfl ?_
 refine mv0 rfl ?_
 refine mv0 rfl ?_
 refine Lst.r (Ev.build (v := .agg (enc ({ Cmd.zero with Kind := w64 (r15 + (1 : Int)), Key := r22.1, N := r29.1 } : Cmd)).toArray) (pv := [(0, iv (w64 (r15 + (1 : Int)))), (1, iv r22.1), (2, iv r29.1)]) ⟨rfl, rfl, ⟨rfl, rfl, ⟨rfl, rfl, trivial⟩⟩⟩ (fun w => by kernel_rfl)) ?_
 refine Lst.store (i := 2) rfl rfl rfl rfl rfl Tryd.sizeOf26 (vs := enc ({ Cmd.zero with Kind := w64 (r15 + (1 : Int)), Key := r22.1, N := r29.1 } : Cmd)) rfl (Enc.len _) (Enc.one _) (cs' := enc ({ Cmd.zero with Kind := w64 (r15 + (1 : Int)), Key := r22.1, N := r29.1 } : Cmd)) (Put.here ((Enc.len _).trans (Enc.len _).symm)) (L' := (.own s10 9 1 (encs ([([115, 101, 116] : Str), ([97, 100, 100] : Str), ([109, 111, 115, 116] : Str), ([99, 111, 112, 121] : Str)] : List Str))) :: (.own s5 9 1 (encs r3)) :: (.blk b1 (enc ({ Cmd.zero with Kind := w64 (r15 + (1 : Int)), Key := r22.1, N := r29.1 } : Cmd)) 26) :: L) rfl ?_
 refine Lst.r (Ev.assign rfl) ?_
 refine nt0 ?_
 obtain rfl := some_inj H
 refine Cd.ret ?_
 exact At.ret2 rfl (Res.cellA (i := 2) rfl rfl Tryd.isAgg26 Tryd.sizeOf26 (Enc.len _)) (Res.tmp rfl) (FLe.trans (FLe.trans (FLe.trans hF8 hF37) hF42) hF57) (sc1 (sc1 (sc1 (.refl _)))) ⟨rfl, rfl⟩
set_option maxRecDepth 20000 in
theorem strings_HasPrefix_sim {a0 : Str} {a1 : Str} {r : Bool} (H : strings_HasPrefix a0 a1 = some r) (w0 : World) (F : Frz) (M L : List Item) (hM : M.Sublist L) : Ok Tryd.prog w0 21 [Str.v a0, Str.v a1] F (L) (Is (.bool r) (L)) := by
 unfold strings_HasPrefix at H
 refine Ok.enter (m := 2) (n := 8) Tryd.func21 rfl rfl rfl (by decide) ?_
 refine Cd.env (e' := [(0, Str.v a0), (1, Str.v a1)]) rfl ?_
 refine sr0 ?_
 refine Lst.r (Ev.assign rfl) ?_
 refine nsr ?_
 refine mv0 rfl ?_
 refine mv0 rfl ?_
 obtain ⟨r1, h2, H⟩ := bind_some H
 refine Lst.call1 rfl rfl (by decide) (vs := [Str.v a0, Str.v a1]) ⟨rfl, rfl, trivial⟩ Tryd.call36 (internal_stringslite_HasPrefix_sim h2 w0 _ M _ hM) ?_
 refine Lst.r (Ev.assign rfl) ?_
 refine nt0 ?_
 obtain rfl := some_inj H
 refine Cd.ret ?_
 exact At.ret1 rfl (Res.tmp rfl) fl (.refl _) ⟨rfl, rfl⟩
set_option maxRecDepth 20000 in
theorem partref_numberOf_sim {a0 : Str} {r : Int × Bool} (H : partref_numberOf a0 = some r) (w0 : World) (F : Frz) (M L : List Item) (hM : M.Sublist L) : Ok Tryd.prog w0 13 [Str.v a0] F (L) (Is (.tuple #[iv r.1, .bool r.2]) (L)) := by
 unfold partref_numberOf at H
 refine Ok.enter (m := 1) (n := 45) Tryd.func13 rfl rfl rfl (by decide) ?_
 refine Cd.env (e' := [(0, Str.v a0)]) rfl ?_
 refine sr0 ?_
 refine Lst.r (Ev.assign rfl) ?_
 refine Lst.r (Ev.assign rfl) ?_
 refine nsr ?_
 refine mv0 rfl ?_
 refine Lst.r (Ev.assign rfl) ?_
 refine Lst.r (Ev.assign rfl) ?_
 refine nt0 ?_
 obtain ⟨o3, H, HKo3⟩ := bind_some H
 refine Cd.join (σ := Str × Int) (fun (y1, y2) => [(4, Str.v y1), (5, iv y2)]) (fun (y1, y2) => L) (fun _ (y1, y2) => (y1, y2) = o3) ?_ ?_
 ·refine sr0 ?_
  refine mv0 rfl ?_
  obtain ⟨r4, h5, H⟩ := bind_some H
  refine Lst.call1 rfl rfl (by decide) (vs := [Str.v a0, Str.v ([45] : Str)]) ⟨rfl, rfl, trivial⟩ Tryd.call21 (strings_HasPrefix_sim h5 w0 _ M _ hM) ?_
  refine nt0 ?_
  rcases (Bool.eq_false_or_eq_true r4).symm with hb8 | hb8
  ·replace H := ite_f hb8 H
   refine Cd.condF rfl hb8 ?_
   refine Cd.skip ?_
   exact At.meet (a0, (1 : Int)) fl ⟨rfl, rfl, trivial⟩ rfl (some_inj H)
  replace H := ite_t hb8 H
  refine Cd.condT rfl hb8 ?_
  refine Cd.region ?_
  refine mv0 rfl ?_
  obtain ⟨m9, h10, H⟩ := bind_some H
  refine Lst.r (Ev.sliceStrFrom rfl rfl  Tryd.runUnderlying9 h10) ?_
  refine Lst.r (Ev.assign rfl) ?_
  refine Lst.r (Ev.assign rfl) ?_
  refine Lst.nil ?_
  exact At.meet (m9, (-1 : Int)) fl ⟨rfl, rfl, trivial⟩ rfl (some_inj H)
 rintro F11 ⟨y1, y2⟩ hF12 hy
 subst hy
 refine Cd.as (e' := [(4, Str.v y1), (5, iv y2)]) (L' := L) ⟨rfl, rfl, trivial⟩ rfl ?_
 replace H := HKo3
 refine Cd.seq ?_
 refine sr0 ?_
 refine mv0 rfl ?_
 refine Lst.r (Ev.lenStr rfl rfl Tryd.runUnderlying9) ?_
 refine Lst.r (Ev.lss rfl rfl) ?_
 refine mv0 rfl ?_
 obtain ⟨o13, H, HKo13⟩ := bind_some H
 refine Lst.join (σ := Bool) 4 (fun y14 => [(4, Str.v y1), (5, iv y2), (21, .bool y14)]) (fun y14 => L) (fun _ y14 => y14 = o13) ?_ ?_
 ·rcases Bool.eq_false_or_eq_true (decide ((y1.length : Int) < (1 : Int))) with hb15 | hb15
  ·replace H := ite_t hb15 H
   refine Lst.skip rfl rfl rfl hb15 rfl (by decide) ?_
   refine Lst.skip rfl rfl rfl hb15 rfl (by decide) ?_
   refine Lst.skip rfl rfl rfl hb15 rfl (by decide) ?_
   refine Lst.r (Ev.pickT rfl hb15 rfl) ?_
   refine Lst.nil ?_
   exact At.meet true fl ⟨rfl, rfl, rfl, trivial⟩ rfl (some_inj H)
  replace H := ite_f hb15 H
  refine Lst.rG hb15 (Ev.move rfl) ?_
  refine Lst.rG hb15 (Ev.lenStr rfl rfl Tryd.runUnderlying9) ?_
  refine Lst.rG hb15 (Ev.gtr rfl rfl) ?_
  refine Lst.r (Ev.pickF rfl hb15 rfl) ?_
  refine Lst.nil ?_
  exact At.meet (decide ((y1.length : Int) > (9 : Int))) fl ⟨rfl, rfl, rfl, trivial⟩ rfl (some_inj H)
 rintro F16 y14 hF17 hy
 subst hy
 refine Lst.as (e' := [(4, Str.v y1), (5, iv y2), (21, .bool y14)]) (L' := L) ⟨rfl, rfl, rfl, trivial⟩ rfl ?_
 replace H := HKo13
 refine nt0 ?_
 rcases Bool.eq_false_or_eq_true y14 with hb18 | hb18
 ·replace H := ite_t hb18 H
  refine Cd.condT rfl hb18 ?_
  refine sr0 ?_
  refine Lst.r (Ev.assign rfl) ?_
  refine Lst.r (Ev.assign rfl) ?_
  refine nt0 ?_
  obtain rfl := some_inj H
  refine Cd.ret ?_
  refine At.then_ret ?_
  exact At.ret2 rfl (Res.tmp rfl) (Res.tmp rfl) (FLe.trans hF12 hF17) (.refl _) ⟨rfl, rfl⟩
 replace H := ite_f hb18 H
 refine Cd.condF rfl hb18 ?_
 refine Cd.skip ?_
 refine At.then ?_
 refine sr0 ?_
 refine Lst.r (Ev.assign rfl) ?_
 refine nt0 ?_
 refine Cd.seq ?_
 refine sr0 ?_
 refine mv0 rfl ?_
 obtain ⟨u19, h20, H⟩ := bind_some H
 refine Lst.bytesOf (el := 5) rfl rfl (by decide) rfl (by kernel_rfl) (by kernel_rfl) (by kernel_rfl) (by have := room_some h20; simp at this; omega) (fun s21 F22 hF23 hq24 => ?_)
 refine Lst.r (Ev.lenS (α := BitVec 8) (xs := (Str.bytes y1)) (by decide) rfl rfl Tryd.runUnderlying49 (hq24.mono fl (List.nil_sublist _))) ?_
 refine mv0 rfl ?_
 refine nt0 ?_
 refine Cd.block ?_
 refine Cd.bound (Rd.le (α := BitVec 8) (xs := (Str.bytes y1)) (by decide) (hq24.mono fl (List.nil_sublist _))) (fun hN38 => ?_)
 obtain ⟨ol25, H, HKl25⟩ := andThen_some H
 refine Cd.loop (σ := Nat × Nat × Int) (fun (i25, k25, y26) => [(5, iv y2), (6, iv y26), (23, Sl.v s21), (24, iv ((Str.bytes y1).length : Int)), (25, iv (i25 : Int))]) (fun (i25, k25, y26) => L) (fun _ => (fun (i25, k25, y26) => rangeM (partref_numberOf_B0 y1) k25 i25 y26 = some ol25 ∧ i25 + k25 = (Str.bytes y1).length)) (fun (i25, k25, y26) => k25) (0, (Str.bytes y1).length, (0 : Int)) ⟨rfl, rfl, rfl, rfl, rfl, trivial⟩ rfl ⟨H, by omega⟩ ?_
 rintro F27 ⟨i25, k25, y26⟩ hF28 ⟨H, hik25⟩
 refine Cd.as (e' := [(5, iv y2), (6, iv y26), (23, Sl.v s21), (24, iv ((Str.bytes y1).length : Int)), (25, iv (i25 : Int))]) (L' := L) ⟨rfl, rfl, rfl, rfl, rfl, trivial⟩ rfl ?_
 rcases k25 with _ | k25
 ·have hc25 : decide ((i25 : Int) < ((Str.bytes y1).length : Int)) = false := decide_eq_false (by omega)
  replace H := rangeM_end H
  refine sr0 ?_
  refine Lst.r (Ev.lss rfl rfl) ?_
  refine nt0 ?_
  refine Cd.seq ?_
  refine Cd.condF rfl hc25 ?_
  refine Cd.exit ?_
  refine At.then_exit ?_
  refine At.then_exit ?_
  refine At.in_exit ?_
  subst H
  replace H := HKl25
  refine At.then ?_
  refine sr0 ?_
  refine mv0 rfl ?_
  refine mv0 rfl ?_
  refine Lst.r (Ev.mul rfl rfl) ?_
  refine Lst.r (Ev.assign rfl) ?_
  refine Lst.r (Ev.assign rfl) ?_
  refine nt0 ?_
  obtain rfl := some_inj H
  refine Cd.ret ?_
  exact At.ret2 rfl (Res.tmp rfl) (Res.tmp rfl) (FLe.trans (FLe.trans (FLe.trans hF12 hF17) hF23) hF28) (.refl _) ⟨rfl, rfl⟩
 have hc25 : decide ((i25 : Int) < ((Str.bytes y1).length : Int)) = true := decide_eq_true (by omega)
 obtain ⟨c25, H, hgo25, hbrk25, hret25⟩ := rangeM_go H
 unfold partref_numberOf_B0 at H
 try dsimp only at H
 refine sr0 ?_
 refine Lst.r (Ev.lss rfl rfl) ?_
 refine nt0 ?_
 refine Cd.seq ?_
 refine Cd.condT rfl hc25 ?_
 refine Cd.skip ?_
 refine At.then ?_
 refine Cd.seq ?_
 refine Cd.block ?_
 refine sr0 ?_
 obtain ⟨x29, h30, H⟩ := bind_some H
 have g31 := lat_some h30
 refine Lst.r (Ev.indexS (α := BitVec 8) (xs := (Str.bytes y1)) rfl rfl Tryd.runUnderlying49 Tryd.sizeOf5 rfl (by decide) (hq24.mono hF28 (List.nil_sublist _)) g31.1 g31.2.1) ?_
 refine Lst.r (Ev.loadS (α := BitVec 8) rfl (hq24.mono hF28 (List.nil_sublist _)) Tryd.isAgg5 (v := .int .u8 x29.toNat) ((Get.elemN (s := 1) (x := x29) rfl g31.2.2 gh0).off (by omega))) ?_
 refine Lst.r (Ev.assign rfl) ?_
 refine nt0 ?_
 refine Cd.seq ?_
 refine sr0 ?_
 refine mv0 rfl ?_
 refine Lst.r (Ev.lss rfl rfl) ?_
 refine mv0 rfl ?_
 obtain ⟨o32, H, HKo32⟩ := bind_some H
 refine Lst.join (σ := Bool) 3 (fun y33 => [(5, iv y2), (6, iv y26), (8, .int .u8 x29.toNat), (23, Sl.v s21), (24, iv ((Str.bytes y1).length : Int)), (25, iv (i25 : Int)), (34, .bool y33)]) (fun y33 => L) (fun _ y33 => y33 = o32) ?_ ?_
 ·rcases Bool.eq_false_or_eq_true (decide ((x29.toNat : Int) < ((48 : BitVec 8).toNat : Int))) with hb34 | hb34
  ·replace H := ite_t hb34 H
   refine Lst.skip rfl rfl rfl hb34 rfl (by decide) ?_
   refine Lst.skip rfl rfl rfl hb34 rfl (by decide) ?_
   refine Lst.r (Ev.pickT rfl hb34 rfl) ?_
   refine Lst.nil ?_
   exact At.meet true fl ⟨rfl, rfl, rfl, rfl, rfl, rfl, rfl, trivial⟩ rfl (some_inj H)
  replace H := ite_f hb34 H
  refine Lst.rG hb34 (Ev.move rfl) ?_
  refine Lst.rG hb34 (Ev.gtr rfl rfl) ?_
  refine Lst.r (Ev.pickF rfl hb34 rfl) ?_
  refine Lst.nil ?_
  exact At.meet (decide ((x29.toNat : Int) > ((57 : BitVec 8).toNat : Int))) fl ⟨rfl, rfl, rfl, rfl, rfl, rfl, rfl, trivial⟩ rfl (some_inj H)
 rintro F35 y33 hF36 hy
 subst hy
 refine Lst.as (e' := [(5, iv y2), (6, iv y26), (8, .int .u8 x29.toNat), (23, Sl.v s21), (24, iv ((Str.bytes y1).length : Int)), (25, iv (i25 : Int)), (34, .bool y33)]) (L' := L) ⟨rfl, rfl, rfl, rfl, rfl, rfl, rfl, trivial⟩ rfl ?_
 replace H := HKo32
 refine nt0 ?_
 rcases Bool.eq_false_or_eq_true y33 with hb37 | hb37
 ·replace H := ite_t hb37 H
  refine Cd.condT rfl hb37 ?_
  refine sr0 ?_
  refine Lst.r (Ev.assign rfl) ?_
  refine Lst.r (Ev.assign rfl) ?_
  refine nt0 ?_
  have H := hret25 _ (some_inj H).symm
  subst H
  replace H := HKl25
  obtain rfl := some_inj H
  refine Cd.ret ?_
  refine At.then_ret ?_
  refine At.in_ret ?_
  refine At.then_ret ?_
  refine At.then_ret ?_
  refine At.in_ret ?_
  refine At.then_ret ?_
  exact At.ret2 rfl (Res.tmp rfl) (Res.tmp rfl) (FLe.trans (FLe.trans (FLe.trans (FLe.trans hF12 hF17) hF23) hF28) hF36) (.refl _) ⟨rfl, rfl⟩
 replace H := ite_f hb37 H
 refine Cd.condF rfl hb37 ?_
 refine Cd.skip ?_
 refine At.then ?_
 refine Cd.region ?_
 refine mv0 rfl ?_
 refine Lst.r (Ev.mul rfl rfl) ?_
 refine mv0 rfl ?_
 refine Lst.r (Ev.convIS (j := (x29.toNat : Int)) rfl Tryd.runUnderlying5 Tryd.runUnderlying3 (w64_id (by omega) (by omega))) ?_
 refine Lst.r (Ev.add rfl rfl) ?_
 refine Lst.r (Ev.sub rfl rfl) ?_
 refine Lst.r (Ev.assign rfl) ?_
 refine Lst.nil ?_
 refine At.in_normal ?_
 refine At.then ?_
 refine Cd.region ?_
 refine Lst.r (Ev.incr (by omega) rfl rfl) ?_
 refine mv0 rfl ?_
 refine Lst.nil ?_
 exact At.meet (i25 + 1, k25, w64 ((w64 ((w64 (y26 * (10 : Int))) + (x29.toNat : Int))) - (48 : Int))) (FLe.trans hF28 hF36) ⟨rfl, rfl, rfl, rfl, rfl, trivial⟩ rfl ⟨⟨hgo25 _ (some_inj H).symm, by omega⟩, Nat.lt_succ_self _⟩
set_option maxRecDepth 20000 in
theorem partref_ReadCmd_sim {fu : Nat} {a0 : Str} {r : Cmd × Int} (H : partref_ReadCmd fu a0 = some r) (w0 : World) (F : Frz) (M L : List Item) (hM : M.Sublist L) : Ok Tryd.prog w0 5 [Str.v a0] F (L) (Is (.tuple #[.agg (enc r.1).toArray, iv r.2]) (L)) := by
 unfold partref_ReadCmd at H
 refine Ok.enter (m := 1) (n := 69) Tryd.func5 rfl rfl rfl (by decide) ?_
 refine Cd.env (e' := [(0, Str.v a0)]) rfl ?_
 refine sr0 ?_
 refine Lst.alloc (cs := enc Cmd.zero) rfl rfl (by decide) Tryd.zeroValue26 rfl (fun b1 => ?_)
 refine Lst.r (Ev.assign rfl) ?_
 refine nsr ?_
 refine mv0 rfl ?_
 obtain ⟨r3, h4, H⟩ := bind_some H
 refine Lst.call rfl rfl (by decide) (vs := [Str.v a0, Str.v ([32] : Str)]) ⟨rfl, rfl, trivial⟩ Tryd.call9 (strings_Split_sim h4 w0 _ M _ (sc1 hM)) (fun F7 L' v hF8 hv => ?_)
 obtain ⟨s5, rfl, rfl⟩ := hv
 refine Lst.r (Ev.assign rfl) ?_
 refine nt0 ?_
 refine Cd.seq ?_
 refine sr0 ?_
 refine mv0 rfl ?_
 refine Lst.r (Ev.lenS (α := Str) (xs := r3) (by decide) rfl rfl Tryd.runUnderlying24 (rdo 0 rfl rfl rfl)) ?_
 refine Lst.r (Ev.neq rfl rfl) ?_
 refine nt0 ?_
 rcases Bool.eq_false_or_eq_true ((r3.length : Int) != (3 : Int)) with hb9 | hb9
 ·replace H := ite_t hb9 H
  refine Cd.condT rfl hb9 ?_
  refine sr0 ?_
  refine Lst.r (Ev.build (v := .agg (enc Cmd.zero).toArray) (pv := []) trivial (fun w => by kernel_rfl)) ?_
  refine Lst.store (i := 1) rfl rfl rfl rfl rfl Tryd.sizeOf26 (vs := enc Cmd.zero) rfl (Enc.len _) (Enc.one _) (cs' := enc Cmd.zero) (Put.here ((Enc.len _).trans (Enc.len _).symm)) (L' := (.own s5 9 1 (encs r3)) :: (.blk b1 (enc Cmd.zero) 26) :: L) rfl ?_
  refine Lst.r (Ev.assign rfl) ?_
  refine nt0 ?_
  obtain rfl := some_inj H
  refine Cd.ret ?_
  refine At.then_ret ?_
  exact At.ret2 rfl (Res.cellA (i := 1) rfl rfl Tryd.isAgg26 Tryd.sizeOf26 (Enc.len _)) (Res.tmp rfl) hF8 (sc1 (sc1 (.refl _))) ⟨rfl, rfl⟩
 replace H := ite_f hb9 H
 refine Cd.condF rfl hb9 ?_
 refine Cd.skip ?_
 refine At.then ?_
 refine sr0 ?_
 refine Lst.buildSlice (α := Str) (xs := ([([] : Str), ([115, 101, 116] : Str), ([97, 100, 100] : Str), ([109, 111, 115, 116] : Str), ([99, 111, 112, 121] : Str)] : List Str)) (pv := [(0, Str.v ([] : Str)), (1, Str.v ([115, 101, 116] : Str)), (2, Str.v ([97, 100, 100] : Str)), (3, Str.v ([109, 111, 115, 116] : Str)), (4, Str.v ([99, 111, 112, 121] : Str))]) rfl rfl (by decide) ⟨rfl, rfl, ⟨rfl, rfl, ⟨rfl, rfl, ⟨rfl, rfl, ⟨rfl, rfl, trivial⟩⟩⟩⟩⟩ (run_buildSlice (α := Str) (z0 := ([] : Str)) (xs := ([([] : Str), ([115, 101, 116] : Str), ([97, 100, 100] : Str), ([109, 111, 115, 116] : Str), ([99, 111, 112, 121] : Str)] : List Str)) Tryd.runUnderlying24 Tryd.sizeOf9 Tryd.zeroValue9 rfl rfl rfl (by decide) rfl (fill_cons (cs := encs (List.replicate 5 ([] : Str))) (cs' := encs ((List.replicate 5 ([] : Str)).set 0 ([] : Str))) (vs := [Str.v ([] : Str)]) rfl rfl rfl ((Put.elemN (s := 1) (i := 0) (x := ([] : Str)) (y := ([] : Str)) rfl rfl (Put.here (vs := [Str.v ([] : Str)]) rfl)).off rfl) (fill_cons (cs := encs ((List.replicate 5 ([] : Str)).set 0 ([] : Str))) (cs' := encs (((List.replicate 5 ([] : Str)).set 0 ([] : Str)).set 1 ([115, 101, 116] : Str))) (vs := [Str.v ([115, 101, 116] : Str)]) rfl rfl rfl ((Put.elemN (s := 1) (i := 1) (x := ([] : Str)) (y := ([115, 101, 116] : Str)) rfl rfl (Put.here (vs := [Str.v ([115, 101, 116] : Str)]) rfl)).off rfl) (fill_cons (cs := encs (((List.replicate 5 ([] : Str)).set 0 ([] : Str)).set 1 ([115, 101, 116] : Str))) (cs' := encs ((((List.replicate 5 ([] : Str)).set 0 ([] : Str)).set 1 ([115, 101, 116] : Str)).set 2 ([97, 100, 100] : Str))) (vs := [Str.v ([97, 100, 100] : Str)]) rfl rfl rfl ((Put.elemN (s := 1) (i := 2) (x := ([] : Str)) (y := ([97, 100, 100] : Str)) rfl rfl (Put.here (vs := [Str.v ([97, 100, 100] : Str)]) rfl)).off rfl) (fill_cons (cs := encs ((((List.replicate 5 ([] : Str)).set 0 ([] : Str)).set 1 ([115, 101, 116] : Str)).set 2 ([97, 100, 100] : Str))) (cs' := encs (((((List.replicate 5 ([] : Str)).set 0 ([] : Str)).set 1 ([115, 101, 116] : Str)).set 2 ([97, 100, 100] : Str)).set 3 ([109, 111, 115, 116] : Str))) (vs := [Str.v ([109, 111, 115, 116] : Str)]) rfl rfl rfl ((Put.elemN (s := 1) (i := 3) (x := ([] : Str)) (y := ([109, 111, 115, 116] : Str)) rfl rfl (Put.here (vs := [Str.v ([109, 111, 115, 116] : Str)]) rfl)).off rfl) (fill_cons (cs := encs (((((List.replicate 5 ([] : Str)).set 0 ([] : Str)).set 1 ([115, 101, 116] : Str)).set 2 ([97, 100, 100] : Str)).set 3 ([109, 111, 115, 116] : Str))) (cs' := encs ((((((List.replicate 5 ([] : Str)).set 0 ([] : Str)).set 1 ([115, 101, 116] : Str)).set 2 ([97, 100, 100] : Str)).set 3 ([109, 111, 115, 116] : Str)).set 4 ([99, 111, 112, 121] : Str))) (vs := [Str.v ([99, 111, 112, 121] : Str)]) rfl rfl rfl ((Put.elemN (s := 1) (i := 4) (x := ([] : Str)) (y := ([99, 111, 112, 121] : Str)) rfl rfl (Put.here (vs := [Str.v ([99, 111, 112, 121] : Str)]) rfl)).off rfl) fill_nil)))))) rfl rfl (by decide) (fun s10 _ => ?_)
 refine mv0 rfl ?_
 obtain ⟨x12, h13, H⟩ := bind_some H
 have g14 := lat_some h13
 refine Lst.r (Ev.indexS (α := Str) (xs := r3) rfl rfl Tryd.runUnderlying24 Tryd.sizeOf9 rfl (by decide) (rdo 1 rfl rfl rfl) g14.1 g14.2.1) ?_
 refine Lst.r (Ev.loadS (α := Str) rfl (rdo 1 rfl rfl rfl) Tryd.isAgg9 (v := Str.v x12) ((Get.elemN (s := 1) (x := x12) rfl g14.2.2 gh0).off (by omega))) ?_
 obtain ⟨r15, h16, H⟩ := bind_some H
 refine Lst.call1 rfl rfl (by decide) (vs := [Sl.v s10, Str.v x12]) ⟨rfl, rfl, trivial⟩ Tryd.call10 (slices_Index_string_string_sim h16 w0 _ _ _ (.refl _) (rdo 0 rfl rfl rfl)) ?_
 refine Lst.r (Ev.assign rfl) ?_
 refine nsr ?_
 refine mv0 rfl ?_
 obtain ⟨x19, h20, H⟩ := bind_some H
 have g21 := lat_some h20
 refine Lst.r (Ev.indexS (α := Str) (xs := r3) rfl rfl Tryd.runUnderlying24 Tryd.sizeOf9 rfl (by decide) (rdo 1 rfl rfl rfl) g21.1 g21.2.1) ?_
 refine Lst.r (Ev.loadS (α := Str) rfl (rdo 1 rfl rfl rfl) Tryd.isAgg9 (v := Str.v x19) ((Get.elemN (s := 1) (x := x19) rfl g21.2.2 gh0).off (by omega))) ?_
 obtain ⟨r22, h23, H⟩ := bind_some H
 refine Lst.call1 rfl rfl (by decide) (vs := [Str.v x19]) ⟨rfl, trivial⟩ Tryd.call13 (partref_numberOf_sim h23 w0 _ M _ (sc2 (sc1 hM))) ?_
 refine mv0 rfl ?_
 refine Lst.r (Ev.extract rfl rfl) ?_
 refine Lst.r (Ev.extract rfl rfl) ?_
 refine Lst.r (Ev.assign rfl) ?_
 refine Lst.r (Ev.assign rfl) ?_
 refine nt0 ?_
 refine Cd.seq ?_
 refine Cd.as (e' := [(2, pv b1 0), (4, Sl.v s5), (5, iv r15), (6, iv r22.1), (7, .bool r22.2)]) (L' := (.own s10 9 1 (encs ([([] : Str), ([115, 101, 116] : Str), ([97, 100, 100] : Str), ([109, 111, 115, 116] : Str), ([99, 111, 112, 121] : Str)] : List Str))) :: (.own s5 9 1 (encs r3)) :: (.blk b1 (enc Cmd.zero) 26) :: L) ⟨rfl, rfl, rfl, rfl, rfl, trivial⟩ rfl ?_
 refine Cd.region ?_
 refine mv0 rfl ?_
 obtain ⟨x26, h27, H⟩ := bind_some H
 have g28 := lat_some h27
 refine Lst.r (Ev.indexS (α := Str) (xs := r3) rfl rfl Tryd.runUnderlying24 Tryd.sizeOf9 rfl (by decide) (rdo 1 rfl rfl rfl) g28.1 g28.2.1) ?_
 refine Lst.r (Ev.loadS (α := Str) rfl (rdo 1 rfl rfl rfl) Tryd.isAgg9 (v := Str.v x26) ((Get.elemN (s := 1) (x := x26) rfl g28.2.2 gh0).off (by omega))) ?_
 obtain ⟨r29, h30, H⟩ := bind_some H
 refine Lst.call1 rfl rfl (by decide) (vs := [Str.v x26]) ⟨rfl, trivial⟩ Tryd.call13 (partref_numberOf_sim h30 w0 _ M _ (sc2 (sc1 hM))) ?_
 refine mv0 rfl ?_
 refine Lst.r (Ev.extract rfl rfl) ?_
 refine Lst.r (Ev.extract rfl rfl) ?_
 refine Lst.r (Ev.assign rfl) ?_
 refine Lst.r (Ev.assign rfl) ?_
 refine nt0 ?_
 refine Cd.seq ?_
 refine sr0 ?_
 refine mv0 rfl ?_
 refine Lst.r (Ev.lss rfl rfl) ?_
 refine mv0 rfl ?_
 obtain ⟨o33, H, HKo33⟩ := bind_some H
 refine Lst.join (σ := Bool) 3 (fun y34 => [(2, pv b1 0), (5, iv r15), (6, iv r22.1), (8, iv r29.1), (9, .bool r29.2), (40, .bool y34)]) (fun y34 => (.own s10 9 1 (encs ([([] : Str), ([115, 101, 116] : Str), ([97, 100, 100] : Str), ([109, 111, 115, 116] : Str), ([99, 111, 112, 121] : Str)] : List Str))) :: (.own s5 9 1 (encs r3)) :: (.blk b1 (enc Cmd.zero) 26) :: L) (fun _ y34 => y34 = o33) ?_ ?_
 ·rcases Bool.eq_false_or_eq_true (decide (r15 < (1 : Int))) with hb35 | hb35
  ·replace H := ite_t hb35 H
   refine Lst.skip rfl rfl rfl hb35 rfl (by decide) ?_
   refine Lst.skip rfl rfl rfl hb35 rfl (by decide) ?_
   refine Lst.r (Ev.pickT rfl hb35 rfl) ?_
   refine Lst.nil ?_
   exact At.meet true fl ⟨rfl, rfl, rfl, rfl, rfl, rfl, trivial⟩ rfl (some_inj H)
  replace H := ite_f hb35 H
  refine Lst.rG hb35 (Ev.move rfl) ?_
  refine Lst.rG hb35 (Ev.not rfl) ?_
  refine Lst.r (Ev.pickF rfl hb35 rfl) ?_
  refine Lst.nil ?_
  exact At.meet (!r22.2) fl ⟨rfl, rfl, rfl, rfl, rfl, rfl, trivial⟩ rfl (some_inj H)
 rintro F36 y34 hF37 hy
 subst hy
 refine Lst.as (e' := [(2, pv b1 0), (5, iv r15), (6, iv r22.1), (8, iv r29.1), (9, .bool r29.2), (40, .bool y34)]) (L' := (.own s10 9 1 (encs ([([] : Str), ([115, 101, 116] : Str), ([97, 100, 100] : Str), ([109, 111, 115, 116] : Str), ([99, 111, 112, 121] : Str)] : List Str))) :: (.own s5 9 1 (encs r3)) :: (.blk b1 (enc Cmd.zero) 26) :: L) ⟨rfl, rfl, rfl, rfl, rfl, rfl, trivial⟩ rfl ?_
 replace H := HKo33
 refine mv0 rfl ?_
 obtain ⟨o38, H, HKo38⟩ := bind_some H
 refine Lst.join (σ := Bool) 3 (fun y39 => [(2, pv b1 0), (5, iv r15), (6, iv r22.1), (8, iv r29.1), (44, .bool y39)]) (fun y39 => (.own s10 9 1 (encs ([([] : Str), ([115, 101, 116] : Str), ([97, 100, 100] : Str), ([109, 111, 115, 116] : Str), ([99, 111, 112, 121] : Str)] : List Str))) :: (.own s5 9 1 (encs r3)) :: (.blk b1 (enc Cmd.zero) 26) :: L) (fun _ y39 => y39 = o38) ?_ ?_
 ·rcases Bool.eq_false_or_eq_true y34 with hb40 | hb40
  ·replace H := ite_t hb40 H
   refine Lst.skip rfl rfl rfl hb40 rfl (by decide) ?_
   refine Lst.skip rfl rfl rfl hb40 rfl (by decide) ?_
   refine Lst.r (Ev.pickT rfl hb40 rfl) ?_
   refine Lst.nil ?_
   exact At.meet true fl ⟨rfl, rfl, rfl, rfl, rfl, trivial⟩ rfl (some_inj H)
  replace H := ite_f hb40 H
  refine Lst.rG hb40 (Ev.move rfl) ?_
  refine Lst.rG hb40 (Ev.not rfl) ?_
  refine Lst.r (Ev.pickF rfl hb40 rfl) ?_
  refine Lst.nil ?_
  exact At.meet (!r29.2) fl ⟨rfl, rfl, rfl, rfl, rfl, trivial⟩ rfl (some_inj H)
 rintro F41 y39 hF42 hy
 subst hy
 refine Lst.as (e' := [(2, pv b1 0), (5, iv r15), (6, iv r22.1), (8, iv r29.1), (44, .bool y39)]) (L' := (.own s10 9 1 (encs ([([] : Str), ([115, 101, 116] : Str), ([97, 100, 100] : Str), ([109, 111, 115, 116] : Str), ([99, 111, 112, 121] : Str)] : List Str))) :: (.own s5 9 1 (encs r3)) :: (.blk b1 (enc Cmd.zero) 26) :: L) ⟨rfl, rfl, rfl, rfl, rfl, trivial⟩ rfl ?_
 replace H := HKo38
 refine nt0 ?_
 rcases Bool.eq_false_or_eq_true y39 with hb43 | hb43
 ·replace H := ite_t hb43 H
  refine Cd.condT rfl hb43 ?_
  refine sr0 ?_
  refine Lst.r (Ev.build (v := .agg (enc Cmd.zero).toArray) (pv := []) trivial (fun w => by kernel_rfl)) ?_
  refine Lst.store (i := 2) rfl rfl rfl rfl rfl Tryd.sizeOf26 (vs := enc Cmd.zero) rfl (Enc.len _) (Enc.one _) (cs' := enc Cmd.zero) (Put.here ((Enc.len _).trans (Enc.len _).symm)) (L' := (.own s10 9 1 (encs ([([] : Str), ([115, 101, 116] : Str), ([97, 100, 100] : Str), ([109, 111, 115, 116] : Str), ([99, 111, 112, 121] : Str)] : List Str))) :: (.own s5 9 1 (encs r3)) :: (.blk b1 (enc Cmd.zero) 26) :: L) rfl ?_
  refine Lst.r (Ev.assign rfl) ?_
  refine nt0 ?_
  obtain rfl := some_inj H
  refine Cd.ret ?_
  refine At.then_ret ?_
  exact At.ret2 rfl (Res.cellA (i := 2) rfl rfl Tryd.isAgg26 Tryd.sizeOf26 (Enc.len _)) (Res.tmp rfl) (FLe.trans (FLe.trans hF8 hF37) hF42) (sc1 (sc1 (sc1 (.refl _)))) ⟨rfl, rfl⟩
 replace H := ite_f hb43 H
 refine Cd.condF rfl hb43 ?_
 refine Cd.skip ?_
 refine At.then ?_
 refine Cd.seq ?_
 refine sr0 ?_
 refine mv0 rfl ?_
 refine Lst.r (Ev.lss rfl rfl) ?_
 refine mv0 rfl ?_
 obtain ⟨o44, H, HKo44⟩ := bind_some H
 refine Lst.join (σ := Bool) 3 (fun y45 => [(2, pv b1 0), (5, iv r15), (6, iv r22.1), (8, iv r29.1), (51, .bool y45)]) (fun y45 => (.own s10 9 1 (encs ([([] : Str), ([115, 101, 116] : Str), ([97, 100, 100] : Str), ([109, 111, 115, 116] : Str), ([99, 111, 112, 121] : Str)] : List Str))) :: (.own s5 9 1 (encs r3)) :: (.blk b1 (enc Cmd.zero) 26) :: L) (fun _ y45 => y45 = o44) ?_ ?_
 ·rcases Bool.eq_false_or_eq_true (decide (r22.1 < (0 : Int))) with hb46 | hb46
  ·replace H := ite_t hb46 H
   refine Lst.skip rfl rfl rfl hb46 rfl (by decide) ?_
   refine Lst.skip rfl rfl rfl hb46 rfl (by decide) ?_
   refine Lst.r (Ev.pickT rfl hb46 rfl) ?_
   refine Lst.nil ?_
   exact At.meet true fl ⟨rfl, rfl, rfl, rfl, rfl, trivial⟩ rfl (some_inj H)
  replace H := ite_f hb46 H
  refine Lst.rG hb46 (Ev.move rfl) ?_
  refine Lst.rG hb46 (Ev.gtr rfl rfl) ?_
  refine Lst.r (Ev.pickF rfl hb46 rfl) ?_
  refine Lst.nil ?_
  exact At.meet (decide (r22.1 > (9 : Int))) fl ⟨rfl, rfl, rfl, rfl, rfl, trivial⟩ rfl (some_inj H)
 rintro F47 y45 hF48 hy
 subst hy
 refine Lst.as (e' := [(2, pv b1 0), (5, iv r15), (6, iv r22.1), (8, iv r29.1), (51, .bool y45)]) (L' := (.own s10 9 1 (encs ([([] : Str), ([115, 101, 116] : Str), ([97, 100, 100] : Str), ([109, 111, 115, 116] : Str), ([99, 111, 112, 121] : Str)] : List Str))) :: (.own s5 9 1 (encs r3)) :: (.blk b1 (enc Cmd.zero) 26) :: L) ⟨rfl, rfl, rfl, rfl, rfl, trivial⟩ rfl ?_
 replace H := HKo44
 refine mv0 rfl ?_
 rcases Bool.eq_false_or_eq_true y45 with hb49 | hb49
 ·replace H := ite_t hb49 H
  refine Lst.skip rfl rfl rfl hb49 rfl (by decide) ?_
  refine Lst.skip rfl rfl rfl hb49 rfl (by decide) ?_
  refine Lst.skip rfl rfl rfl hb49 rfl (by decide) ?_
  refine Lst.skipU rfl rfl rfl rfl (by decide) ?_
  refine Lst.skipU rfl rfl rfl rfl (by decide) ?_
  refine Lst.skipU rfl rfl rfl rfl (by decide) ?_
  refine Lst.skipU rfl rfl rfl rfl (by decide) ?_
  refine Lst.skipU rfl rfl rfl rfl (by decide) ?_
  refine Lst.skipU rfl rfl rfl rfl (by decide) ?_
  refine Lst.skip rfl rfl rfl hb49 rfl (by decide) ?_
  refine Lst.r (Ev.pickT rfl hb49 rfl) ?_
  refine nt0 ?_
  refine Cd.condT rfl rfl ?_
  refine Cd.seq ?_
  refine Cd.as (e' := [(2, pv b1 0)]) (L' := (.own s10 9 1 (encs ([([] : Str), ([115, 101, 116] : Str), ([97, 100, 100] : Str), ([109, 111, 115, 116] : Str), ([99, 111, 112, 121] : Str)] : List Str))) :: (.own s5 9 1 (encs r3)) :: (.blk b1 (enc Cmd.zero) 26) :: L) ⟨rfl, trivial⟩ rfl ?_
  refine Cd.region ?_
  refine Lst.r (Ev.build (v := .agg (enc Cmd.zero).toArray) (pv := []) trivial (fun w => by kernel_rfl)) ?_
  refine Lst.store (i := 2) rfl rfl rfl rfl rfl Tryd.sizeOf26 (vs := enc Cmd.zero) rfl (Enc.len _) (Enc.one _) (cs' := enc Cmd.zero) (Put.here ((Enc.len _).trans (Enc.len _).symm)) (L' := (.own s10 9 1 (encs ([([] : Str), ([115, 101, 116] : Str), ([97, 100, 100] : Str), ([109, 111, 115, 116] : Str), ([99, 111, 112, 121] : Str)] : List Str))) :: (.own s5 9 1 (encs r3)) :: (.blk b1 (enc Cmd.zero) 26) :: L) rfl ?_
  refine Lst.r (Ev.assign rfl) ?_
  refine nt0 ?_
  obtain rfl := some_inj H
  refine Cd.ret ?_
  refine At.then_ret ?_
  exact At.ret2 rfl (Res.cellA (i := 2) rfl rfl Tryd.isAgg26 Tryd.sizeOf26 (Enc.len _)) (Res.tmp rfl) (FLe.trans (FLe.trans (FLe.trans hF8 hF37) hF42) hF48) (sc1 (sc1 (sc1 (.refl _)))) ⟨rfl, rfl⟩
 replace H := ite_f hb49 H
 refine Lst.rG hb49 (Ev.move rfl) ?_
 refine Lst.rG hb49 (Ev.eql rfl rfl) ?_
 refine Lst.rG hb49 (Ev.move rfl) ?_
 rcases (Bool.eq_false_or_eq_true (r15 == (4 : Int))).symm with hb50 | hb50
 ·replace H := ite_f hb50 H
  refine Lst.skip rfl rfl rfl hb50 rfl (by decide) ?_
  refine Lst.skip rfl rfl rfl hb50 rfl (by decide) ?_
  refine Lst.skip rfl rfl rfl hb50 rfl (by decide) ?_
  refine Lst.skipU rfl rfl rfl rfl (by decide) ?_
  refine Lst.skipU rfl rfl rfl rfl (by decide) ?_
  refine Lst.skip rfl rfl rfl hb50 rfl (by decide) ?_
  refine Lst.rG hb49 (Ev.pickF rfl hb50 rfl) ?_
  refine Lst.r (Ev.pickF rfl hb49 rfl) ?_
  refine nt0 ?_
  refine Cd.condF rfl rfl ?_
  refine Cd.skip ?_
  refine At.then ?_
  refine sr0 ?_
  refine mv0 rfl ?_
  refine mv0 rfl ?_
  refine mv0 rfl ?_
  refine Lst.r (Ev.build (v := .agg (enc ({ Cmd.zero with Kind := r15, Key := r22.1, N := r29.1 } : Cmd)).toArray) (pv := [(0, iv r15), (1, iv r22.1), (2, iv r29.1)]) ⟨rfl, rfl, ⟨rfl, rfl, ⟨rfl, rfl, trivial⟩⟩⟩ (fun w => by kernel_rfl)) ?_
  refine Lst.store (i := 2) rfl rfl rfl rfl rfl Tryd.sizeOf26 (vs := enc ({ Cmd.zero with Kind := r15, Key := r22.1, N := r29.1 } : Cmd)) rfl (Enc.len _) (Enc.one _) (cs' := enc ({ Cmd.zero with Kind := r15, Key := r22.1, N := r29.1 } : Cmd)) (Put.here ((Enc.len _).trans (Enc.len _).symm)) (L' := (.own s10 9 1 (encs ([([] : Str), ([115, 101, 116] : Str), ([97, 100, 100] : Str), ([109, 111, 115, 116] : Str), ([99, 111, 112, 121] : Str)] : List Str))) :: (.own s5 9 1 (encs r3)) :: (.blk b1 (enc ({ Cmd.zero with Kind := r15, Key := r22.1, N := r29.1 } : Cmd)) 26) :: L) rfl ?_
  refine Lst.r (Ev.assign rfl) ?_
  refine nt0 ?_
  obtain rfl := some_inj H
  refine Cd.ret ?_
  exact At.ret2 rfl (Res.cellA (i := 2) rfl rfl Tryd.isAgg26 Tryd.sizeOf26 (Enc.len _)) (Res.tmp rfl) (FLe.trans (FLe.trans (FLe.trans hF8 hF37) hF42) hF48) (sc1 (sc1 (sc1 (.refl _)))) ⟨rfl, rfl⟩
 replace H := ite_t hb50 H
 refine Lst.rG hb50 (Ev.move rfl) ?_
 refine Lst.rG hb50 (Ev.lss rfl rfl) ?_
 refine Lst.rG hb50 (Ev.move rfl) ?_
 obtain ⟨o51, H, HKo51⟩ := bind_some H
 refine Lst.join (σ := Bool) 3 (fun y52 => [(2, pv b1 0), (5, iv r15), (6, iv r22.1), (8, iv r29.1), (52, .bool y45), (55, .bool (r15 == (4 : Int))), (61, .bool y52)]) (fun y52 => (.own s10 9 1 (encs ([([] : Str), ([115, 101, 116] : Str), ([97, 100, 100] : Str), ([109, 111, 115, 116] : Str), ([99, 111, 112, 121] : Str)] : List Str))) :: (.own s5 9 1 (encs r3)) :: (.blk b1 (enc Cmd.zero) 26) :: L) (fun _ y52 => y52 = o51) ?_ ?_
 ·rcases Bool.eq_false_or_eq_true (decide (r29.1 < (0 : Int))) with hb53 | hb53
  ·replace H := ite_t hb53 H
   refine Lst.skip rfl rfl rfl hb53 rfl (by decide) ?_
   refine Lst.skip rfl rfl rfl hb53 rfl (by decide) ?_
   refine Lst.rG hb50 (Ev.pickT rfl hb53 rfl) ?_
   refine Lst.nil ?_
   exact At.meet true fl ⟨rfl, rfl, rfl, rfl, rfl, rfl, rfl, trivial⟩ rfl (some_inj H)
  replace H := ite_f hb53 H
  refine Lst.rG hb53 (Ev.move rfl) ?_
  refine Lst.rG hb53 (Ev.gtr rfl rfl) ?_
  refine Lst.rG hb50 (Ev.pickF rfl hb53 rfl) ?_
  refine Lst.nil ?_
  exact At.meet (decide (r29.1 > (9 : Int))) fl ⟨rfl, rfl, rfl, rfl, rfl, rfl, rfl, trivial⟩ rfl (some_inj H)
 rintro F54 y52 hF55 hy
 subst hy
 refine Lst.as (e' := [(2, pv b1 0), (5, iv r15), (6, iv r22.1), (8, iv r29.1), (52, .bool y45), (55, .bool (r15 == (4 : Int))), (61, .bool y52)]) (L' := (.own s10 9 1 (encs ([([] : Str), ([115, 101, 116] : Str), ([97, 100, 100] : Str), ([109, 111, 115, 116] : Str), ([99, 111, 112, 121] : Str)] : List Str))) :: (.own s5 9 1 (encs r3)) :: (.blk b1 (enc Cmd.zero) 26) :: L) ⟨rfl, rfl, rfl, rfl, rfl, rfl, rfl, trivial⟩ rfl ?_
 replace H := HKo51
 refine Lst.rG hb49 (Ev.pickT rfl hb50 rfl) ?_
 refine Lst.r (Ev.pickF rfl hb49 rfl) ?_
 refine nt0 ?_
 rcases Bool.eq_false_or_eq_true y52 with hb56 | hb56
 ·replace H := ite_t hb56 H
  refine Cd.condT rfl hb56 ?_
  refine sr0 ?_
  refine Lst.r (Ev.build (v := .agg (enc Cmd.zero).toArray) (pv := []) trivial (fun w => by kernel_rfl)) ?_
  refine Lst.store (i := 2) rfl rfl rfl rfl rfl Tryd.sizeOf26 (vs := enc Cmd.zero) rfl (Enc.len _) (Enc.one _) (cs' := enc Cmd.zero) (Put.here ((Enc.len _).trans (Enc.len _).symm)) (L' := (.own s10 9 1 (encs ([([] : Str), ([115, 101, 116] : Str), ([97, 100, 100] : Str), ([109, 111, 115, 116] : Str), ([99, 111, 112, 121] : Str)] : List Str))) :: (.own s5 9 1 (encs r3)) :: (.blk b1 (enc Cmd.zero) 26) :: L) rfl ?_
  refine Lst.r (Ev.assign rfl) ?_
  refine nt0 ?_
  obtain rfl := some_inj H
  refine Cd.ret ?_
  refine At.then_ret ?_
  exact At.ret2 rfl (Res.cellA (i := 2) rfl rfl Tryd.isAgg26 Tryd.sizeOf26 (Enc.len _)) (Res.tmp rfl) (FLe.trans (FLe.trans (FLe.trans (FLe.trans hF8 hF37) hF42) hF48) hF55) (sc1 (sc1 (sc1 (.refl _)))) ⟨rfl, rfl⟩
 replace H := ite_f hb56 H
 refine Cd.condF rfl hb56 ?_
 refine Cd.skip ?_
 refine At.then ?_
 refine sr0 ?_
 refine mv0 rfl ?_
 refine mv0 rfl ?_
 refine mv0 rfl ?_
 refine Lst.r (Ev.build (v := .agg (enc ({ Cmd.zero with Kind := r15, Key := r22.1, N := r29.1 } : Cmd)).toArray) (pv := [(0, iv r15), (1, iv r22.1), (2, iv r29.1)]) ⟨rfl, rfl, ⟨rfl, rfl, ⟨rfl, rfl, trivial⟩⟩⟩ (fun w => by kernel_rfl)) ?_
 refine Lst.store (i := 2) rfl rfl rfl rfl rfl Tryd.sizeOf26 (vs := enc ({ Cmd.zero with Kind := r15, Key := r22.1, N := r29.1 } : Cmd)) rfl (Enc.len _) (Enc.one _) (cs' := enc ({ Cmd.zero with Kind := r15, Key := r22.1, N := r29.1 } : Cmd)) (Put.here ((Enc.len _).trans (Enc.len _).symm)) (L' := (.own s10 9 1 (encs ([([] : Str), ([115, 101, 116] : Str), ([97, 100, 100] : Str), ([109, 111, 115, 116] : Str), ([99, 111, 112, 121] : Str)] : List Str))) :: (.own s5 9 1 (encs r3)) :: (.blk b1 (enc ({ Cmd.zero with Kind := r15, Key := r22.1, N := r29.1 } : Cmd)) 26) :: L) rfl ?_
 refine Lst.r (Ev.assign rfl) ?_
 refine nt0 ?_
 obtain rfl := some_inj H
 refine Cd.ret ?_
 exact At.ret2 rfl (Res.cellA (i := 2) rfl rfl Tryd.isAgg26 Tryd.sizeOf26 (Enc.len _)) (Res.tmp rfl) (FLe.trans (FLe.trans (FLe.trans (FLe.trans hF8 hF37) hF42) hF48) hF55) (sc1 (sc1 (sc1 (.refl _)))) ⟨rfl, rfl⟩
set_option maxRecDepth 20000 in
theorem same_clamp_sim {a0 : Int} {r : Int} (H : same_clamp a0 = some r) (w0 : World) (F : Frz) (M L : List Item) (hM : M.Sublist L) : Ok Tryd.prog w0 22 [iv a0] F (L) (Is (iv r) (L)) := by
 unfold same_clamp at H
 refine Ok.enter (m := 1) (n := 6) Tryd.func22 rfl rfl rfl (by decide) ?_
 refine Cd.env (e' := [(0, iv a0)]) rfl ?_
 refine sr0 ?_
 refine Lst.r (Ev.assign rfl) ?_
 refine nsr ?_
 refine mv0 rfl ?_
 refine Lst.r (Ev.max2 rfl rfl) ?_
 refine Lst.r (Ev.min2 rfl rfl) ?_
 refine Lst.r (Ev.assign rfl) ?_
 refine nt0 ?_
 obtain rfl := some_inj H
 refine Cd.ret ?_
 exact At.ret1 rfl (Res.tmp rfl) fl (.refl _) ⟨rfl, rfl⟩
set_option maxRecDepth 20000 in
theorem same_run_sim {a0 : Vector Int 10} {a1 : Cmd} {b_a0 : Nat} {r : (Vector Int 10)} (H : same_run a0 a1 = some r) (w0 : World) (F : Frz) (M L : List Item) (hM : M.Sublist L) : Ok Tryd.prog w0 14 [pv b_a0 0, .agg (enc a1).toArray] F ((.blk b_a0 (enc a0) 23) :: L) (fun _ L' v => v = .tuple #[] ∧ L' = (.blk b_a0 (enc r) 23) :: L) := by
 unfold same_run at H
 refine Ok.enter (m := 2) (n := 54) Tryd.func14 rfl rfl rfl (by decide) ?_
 refine Cd.env (e' := [(0, pv b_a0 0), (1, .agg (enc a1).toArray)]) rfl ?_
 refine sr0 ?_
 refine Lst.box rfl rfl (by decide) rfl (cs := enc a1) rfl (fun b2 => ?_)
 refine nt0 ?_
 refine Cd.seq ?_
 refine Cd.quiet (by kernel_rfl) (by kernel_rfl) ?_
 refine Qt.r (Ev.move rfl) ?_
 refine Qt.r (Ev.fieldAddr (off' := 1) rfl Tryd.runUnderlying26 rfl Tryd.sizeOf3 rfl rfl) ?_
 refine Qt.r (Ev.load (i := 0) rfl rfl Tryd.isAgg3 (v := iv a1.Key) ((Cmd.get_Key gh0).off (by rfl))) ?_
 refine Qt.r (Ev.nilCheck rfl) ?_
 obtain ⟨x4, h5, H⟩ := bind_some H
 have g6 := vat_some h5
 refine Qt.r (Ev.indexAddr (off' := 0 + a1.Key.toNat * 1) rfl rfl Tryd.runUnderlying23 Tryd.sizeOf3 g6.1 g6.2.1 rfl) ?_
 refine Qt.r (Ev.assign rfl) ?_
 refine Qt.done ?_
 refine At.then ?_
 refine sr0 ?_
 refine Lst.r (Ev.fieldAddr (off' := 0) rfl Tryd.runUnderlying26 rfl Tryd.sizeOf3 rfl rfl) ?_
 refine Lst.r (Ev.load (i := 0) rfl rfl Tryd.isAgg3 (v := iv a1.Kind) ((Cmd.get_Kind gh0).off (by rfl))) ?_
 refine nt0 ?_
 refine Cd.block ?_
 refine sr0 ?_
 refine Lst.r (Ev.eql rfl rfl) ?_
 refine Lst.r (Ev.assign rfl) ?_
 refine nt0 ?_
 rcases Bool.eq_false_or_eq_true (a1.Kind == (1 : Int)) with hb7 | hb7
 ·replace H := ite_t hb7 H
  refine Cd.condT rfl hb7 ?_
  refine Cd.region ?_
  refine mv0 rfl ?_
  refine Lst.r (Ev.fieldAddr (off' := 2) rfl Tryd.runUnderlying26 rfl Tryd.sizeOf3 rfl rfl) ?_
  refine Lst.r (Ev.load (i := 0) rfl rfl Tryd.isAgg3 (v := iv a1.N) ((Cmd.get_N gh0).off (by rfl))) ?_
  obtain ⟨r8, h9, H⟩ := bind_some H
  refine Lst.call1 rfl rfl (by decide) (vs := [iv a1.N]) ⟨rfl, trivial⟩ Tryd.call22 (same_clamp_sim h9 w0 _ M _ (sc2 hM)) ?_
  refine Lst.r (Ev.nilCheck rfl) ?_
  obtain ⟨p12, h13, H⟩ := Let_some H
  refine Lst.store (i := 1) rfl rfl rfl rfl rfl Tryd.sizeOf3 (vs := [iv r8]) rfl rfl rfl (cs' := enc p12) (by rw [← h13]; exact (Put.vecN (s := 1) (x := x4) rfl g6.2.2 (Put.here (vs := [iv r8]) rfl)).off (by omega)) (L' := (.blk b2 (enc a1) 26) :: (.blk b_a0 (enc p12) 23) :: L) rfl ?_
  refine Lst.nil ?_
  refine At.in_normal ?_
  obtain rfl := some_inj H
  exact At.ret0 (.inr rfl) rfl fl (sc1 (sk1 (.refl _))) ⟨rfl, rfl⟩
 replace H := ite_f hb7 H
 refine Cd.condF rfl hb7 ?_
 refine sr0 ?_
 refine Lst.r (Ev.eql rfl rfl) ?_
 refine Lst.r (Ev.assign rfl) ?_
 refine nt0 ?_
 rcases Bool.eq_false_or_eq_true (a1.Kind == (2 : Int)) with hb14 | hb14
 ·replace H := ite_t hb14 H
  refine Cd.condT rfl hb14 ?_
  refine Cd.tail 12 (by kernel_rfl) (by kernel_rfl) ?_
  refine Qt.r (Ev.move rfl) ?_
  refine Qt.r (Ev.move rfl) ?_
  refine Qt.r (Ev.nilCheck rfl) ?_
  refine Qt.r (Ev.load (i := 1) rfl rfl Tryd.isAgg3 (v := iv x4) ((Get.vecN (s := 1) (x := x4) rfl g6.2.2 gh0).off (by omega))) ?_
  refine Qt.r (Ev.max2 rfl rfl) ?_
  refine Qt.r (Ev.min2 rfl rfl) ?_
  refine Qt.r (Ev.fieldAddr (off' := 2) rfl Tryd.runUnderlying26 rfl Tryd.sizeOf3 rfl rfl) ?_
  refine Qt.r (Ev.load (i := 0) rfl rfl Tryd.isAgg3 (v := iv a1.N) ((Cmd.get_N gh0).off (by rfl))) ?_
  obtain ⟨r15, h16, H⟩ := bind_some H
  refine Qt.call rfl rfl (by decide) (vs := [iv a1.N]) ⟨rfl, trivial⟩ Tryd.call22 (same_clamp_sim h16 w0 _ M _ (sc2 hM)) ?_
  refine Qt.r (Ev.add rfl rfl) ?_
  obtain ⟨r19, h20, H⟩ := bind_some H
  refine Qt.call rfl rfl (by decide) (vs := [iv (w64 ((min (max x4 (-4000000000 : Int)) (4000000000 : Int)) + r15))]) ⟨rfl, trivial⟩ Tryd.call22 (same_clamp_sim h20 w0 _ M _ (sc2 hM)) ?_
  refine Qt.r (Ev.nilCheck rfl) ?_
  refine Qt.tail ?_
  obtain ⟨p23, h24, H⟩ := Let_some H
  refine Lst.store (i := 1) rfl rfl rfl rfl rfl Tryd.sizeOf3 (vs := [iv r19]) rfl rfl rfl (cs' := enc p23) (by rw [← h24]; exact (Put.vecN (s := 1) (x := x4) rfl g6.2.2 (Put.here (vs := [iv r19]) rfl)).off (by omega)) (L' := (.blk b2 (enc a1) 26) :: (.blk b_a0 (enc p23) 23) :: L) rfl ?_
  refine Lst.nil ?_
  refine At.in_normal ?_
  obtain rfl := some_inj H
  exact At.ret0 (.inr rfl) rfl fl (sc1 (sk1 (.refl _))) ⟨rfl, rfl⟩
 replace H := ite_f hb14 H
 refine Cd.condF rfl hb14 ?_
 refine sr0 ?_
 refine Lst.r (Ev.eql rfl rfl) ?_
 refine Lst.r (Ev.assign rfl) ?_
 refine nt0 ?_
 rcases Bool.eq_false_or_eq_true (a1.Kind == (3 : Int)) with hb25 | hb25
 ·replace H := ite_t hb25 H
  refine Cd.condT rfl hb25 ?_
  refine Cd.as (e' := [(3, pv b2 0), (4, pv b_a0 (0 + a1.Key.toNat * 1))]) (L' := (.blk b2 (enc a1) 26) :: (.blk b_a0 (enc a0) 23) :: L) ⟨rfl, rfl, trivial⟩ rfl ?_
  refine Cd.tail 9 (by kernel_rfl) (by kernel_rfl) ?_
  refine Qt.r (Ev.move rfl) ?_
  refine Qt.r (Ev.move rfl) ?_
  refine Qt.r (Ev.nilCheck rfl) ?_
  refine Qt.r (Ev.load (i := 1) rfl rfl Tryd.isAgg3 (v := iv x4) ((Get.vecN (s := 1) (x := x4) rfl g6.2.2 gh0).off (by omega))) ?_
  refine Qt.r (Ev.fieldAddr (off' := 2) rfl Tryd.runUnderlying26 rfl Tryd.sizeOf3 rfl rfl) ?_
  refine Qt.r (Ev.load (i := 0) rfl rfl Tryd.isAgg3 (v := iv a1.N) ((Cmd.get_N gh0).off (by rfl))) ?_
  obtain ⟨r26, h27, H⟩ := bind_some H
  refine Qt.call rfl rfl (by decide) (vs := [iv a1.N]) ⟨rfl, trivial⟩ Tryd.call22 (same_clamp_sim h27 w0 _ M _ (sc2 hM)) ?_
  refine Qt.r (Ev.max2 rfl rfl) ?_
  refine Qt.r (Ev.nilCheck rfl) ?_
  refine Qt.tail ?_
  obtain ⟨p30, h31, H⟩ := Let_some H
  refine Lst.store (i := 1) rfl rfl rfl rfl rfl Tryd.sizeOf3 (vs := [iv (max x4 r26)]) rfl rfl rfl (cs' := enc p30) (by rw [← h31]; exact (Put.vecN (s := 1) (x := x4) rfl g6.2.2 (Put.here (vs := [iv (max x4 r26)]) rfl)).off (by omega)) (L' := (.blk b2 (enc a1) 26) :: (.blk b_a0 (enc p30) 23) :: L) rfl ?_
  refine Lst.nil ?_
  refine At.in_normal ?_
  obtain rfl := some_inj H
  exact At.ret0 (.inr rfl) rfl fl (sc1 (sk1 (.refl _))) ⟨rfl, rfl⟩
 replace H := ite_f hb25 H
 refine Cd.condF rfl hb25 ?_
 refine sr0 ?_
 refine Lst.r (Ev.eql rfl rfl) ?_
 refine Lst.r (Ev.assign rfl) ?_
 refine nt0 ?_
 rcases (Bool.eq_false_or_eq_true (a1.Kind == (4 : Int))).symm with hb32 | hb32
 ·replace H := ite_f hb32 H
  refine Cd.condF rfl hb32 ?_
  refine Cd.skip ?_
  refine At.in_normal ?_
  obtain rfl := some_inj H
  exact At.ret0 (.inr rfl) rfl fl (sc1 (sk1 (.refl _))) ⟨rfl, rfl⟩
 replace H := ite_t hb32 H
 refine Cd.condT rfl hb32 ?_
 refine Cd.as (e' := [(0, pv b_a0 0), (3, pv b2 0), (4, pv b_a0 (0 + a1.Key.toNat * 1))]) (L' := (.blk b2 (enc a1) 26) :: (.blk b_a0 (enc a0) 23) :: L) ⟨rfl, rfl, rfl, trivial⟩ rfl ?_
 refine Cd.tail 8 (by kernel_rfl) (by kernel_rfl) ?_
 refine Qt.r (Ev.move rfl) ?_
 refine Qt.r (Ev.move rfl) ?_
 refine Qt.r (Ev.fieldAddr (off' := 2) rfl Tryd.runUnderlying26 rfl Tryd.sizeOf3 rfl rfl) ?_
 refine Qt.r (Ev.load (i := 0) rfl rfl Tryd.isAgg3 (v := iv a1.N) ((Cmd.get_N gh0).off (by rfl))) ?_
 refine Qt.r (Ev.nilCheck rfl) ?_
 obtain ⟨x33, h34, H⟩ := bind_some H
 have g35 := vat_some h34
 refine Qt.r (Ev.indexAddr (off' := 0 + a1.N.toNat * 1) rfl rfl Tryd.runUnderlying23 Tryd.sizeOf3 g35.1 g35.2.1 rfl) ?_
 refine Qt.r (Ev.load (i := 1) rfl rfl Tryd.isAgg3 (v := iv x33) ((Get.vecN (s := 1) (x := x33) rfl g35.2.2 gh0).off (by omega))) ?_
 refine Qt.r (Ev.nilCheck rfl) ?_
 refine Qt.tail ?_
 obtain ⟨p36, h37, H⟩ := Let_some H
 refine Lst.store (i := 1) rfl rfl rfl rfl rfl Tryd.sizeOf3 (vs := [iv x33]) rfl rfl rfl (cs' := enc p36) (by rw [← h37]; exact (Put.vecN (s := 1) (x := x4) rfl g6.2.2 (Put.here (vs := [iv x33]) rfl)).off (by omega)) (L' := (.blk b2 (enc a1) 26) :: (.blk b_a0 (enc p36) 23) :: L) rfl ?_
 refine Lst.nil ?_
 refine At.in_normal ?_
 obtain rfl := some_inj H
 exact At.ret0 (.inr rfl) rfl fl (sc1 (sk1 (.refl _))) ⟨rfl, rfl⟩
set_option maxRecDepth 20000 in
theorem same_Run_sim {fu : Nat} {a0 : Vector Int 10} {a1 : List Str} {s_a1 : Sl} {r : (Vector Int 10) × Int} (H : same_Run fu a0 a1 = some r) (w0 : World) (F : Frz) (M L : List Item) (hM : M.Sublist L) (hs_a1 : Rd w0 F M s_a1 a1) : Ok Tryd.prog w0 6 [.agg (enc a0).toArray, Sl.v s_a1] F (L) (Is (.tuple #[.agg (enc r.1).toArray, iv r.2]) (L)) := by
 unfold same_Run at H
 refine Ok.enter (m := 2) (n := 31) Tryd.func6 rfl rfl rfl (by decide) ?_
 refine Cd.env (e' := [(0, .agg (enc a0).toArray), (1, Sl.v s_a1)]) rfl ?_
 refine sr0 ?_
 refine Lst.box rfl rfl (by decide) rfl (cs := enc a0) rfl (fun b1 => ?_)
 refine Lst.alloc (cs := enc (Vector.replicate 10 (0 : Int))) rfl rfl (by decide) Tryd.zeroValue23 rfl (fun b3 => ?_)
 refine Lst.r (Ev.assign rfl) ?_
 refine nsr ?_
 refine Lst.r (Ev.assign rfl) ?_
 refine nt0 ?_
 refine Cd.seq ?_
 refine sr0 ?_
 refine mv0 rfl ?_
 refine Lst.r (Ev.lenS (α := Str) (xs := a1) (by decide) rfl rfl Tryd.runUnderlying24 (hs_a1.mono fl (sc2 hM))) ?_
 refine mv0 rfl ?_
 refine nt0 ?_
 refine Cd.block ?_
 refine Cd.bound (Rd.le (α := Str) (xs := a1) (by decide) (hs_a1.mono fl (sc2 hM))) (fun hN24 => ?_)
 obtain ⟨ol5, H, HKl5⟩ := bind_some H
 refine Cd.loop (σ := Nat × Nat × Int × (Vector Int 10)) (fun (i5, k5, y6, y7) => [(2, pv b1 0), (4, pv b3 0), (6, iv y6), (11, Sl.v s_a1), (12, iv (a1.length : Int)), (13, iv (i5 : Int))]) (fun (i5, k5, y6, y7) => (.blk b3 (enc (Vector.replicate 10 (0 : Int))) 23) :: (.blk b1 (enc y7) 23) :: L) (fun _ => (fun (i5, k5, y6, y7) => rangeF (same_Run_B0 fu a1) k5 i5 (y6, y7) = some ol5 ∧ i5 + k5 = a1.length)) (fun (i5, k5, y6, y7) => k5) (0, a1.length, (0 : Int), a0) ⟨rfl, rfl, rfl, rfl, rfl, rfl, trivial⟩ rfl ⟨H, by omega⟩ ?_
 rintro F8 ⟨i5, k5, y6, y7⟩ hF9 ⟨H, hik5⟩
 refine Cd.as (e' := [(2, pv b1 0), (4, pv b3 0), (6, iv y6), (11, Sl.v s_a1), (12, iv (a1.length : Int)), (13, iv (i5 : Int))]) (L' := (.blk b3 (enc (Vector.replicate 10 (0 : Int))) 23) :: (.blk b1 (enc y7) 23) :: L) ⟨rfl, rfl, rfl, rfl, rfl, rfl, trivial⟩ rfl ?_
 rcases k5 with _ | k5
 ·have hc5 : decide ((i5 : Int) < (a1.length : Int)) = false := decide_eq_false (by omega)
  replace H := rangeF_end H
  refine sr0 ?_
  refine Lst.r (Ev.lss rfl rfl) ?_
  refine nt0 ?_
  refine Cd.seq ?_
  refine Cd.condF rfl hc5 ?_
  refine Cd.exit ?_
  refine At.then_exit ?_
  refine At.then_exit ?_
  refine At.in_exit ?_
  subst H
  replace H := HKl5
  refine At.then ?_
  refine sr0 ?_
  refine Lst.r (Ev.loadA (i := 1) rfl rfl Tryd.isAgg23 Tryd.sizeOf23 (ch := enc y7) (Enc.len _) gh0) ?_
  refine mv0 rfl ?_
  refine Lst.store (i := 0) rfl rfl rfl rfl rfl Tryd.sizeOf23 (vs := enc y7) rfl (Enc.len _) (Enc.one _) (cs' := enc y7) (Put.here ((Enc.len _).trans (Enc.len _).symm)) (L' := (.blk b3 (enc y7) 23) :: (.blk b1 (enc y7) 23) :: L) rfl ?_
  refine Lst.r (Ev.assign rfl) ?_
  refine nt0 ?_
  obtain rfl := some_inj H
  refine Cd.ret ?_
  exact At.ret2 rfl (Res.cellA (i := 0) rfl rfl Tryd.isAgg23 Tryd.sizeOf23 (Enc.len _)) (Res.tmp rfl) hF9 (sc1 (sc1 (.refl _))) ⟨rfl, rfl⟩
 have hc5 : decide ((i5 : Int) < (a1.length : Int)) = true := decide_eq_true (by omega)
 obtain ⟨c5, H, hgo5⟩ := rangeF_go H
 unfold same_Run_B0 at H
 try dsimp only at H
 refine sr0 ?_
 refine Lst.r (Ev.lss rfl rfl) ?_
 refine nt0 ?_
 refine Cd.seq ?_
 refine Cd.condT rfl hc5 ?_
 refine Cd.skip ?_
 refine At.then ?_
 refine Cd.seq ?_
 refine Cd.block ?_
 refine sr0 ?_
 obtain ⟨x10, h11, H⟩ := bind_some H
 have g12 := lat_some h11
 refine Lst.r (Ev.indexS (α := Str) (xs := a1) rfl rfl Tryd.runUnderlying24 Tryd.sizeOf9 rfl (by decide) (hs_a1.mono hF9 (sc2 hM)) g12.1 g12.2.1) ?_
 refine Lst.r (Ev.loadS (α := Str) rfl (hs_a1.mono hF9 (sc2 hM)) Tryd.isAgg9 (v := Str.v x10) ((Get.elemN (s := 1) (x := x10) rfl g12.2.2 gh0).off (by omega))) ?_
 refine Lst.r (Ev.assign rfl) ?_
 refine nsr ?_
 refine mv0 rfl ?_
 obtain ⟨r13, h14, H⟩ := bind_some H
 refine Lst.call1 rfl rfl (by decide) (vs := [Str.v x10]) ⟨rfl, trivial⟩ Tryd.call4 (same_Read_sim h14 w0 _ M _ (sc2 hM)) ?_
 refine mv0 rfl ?_
 refine Lst.r (Ev.extract rfl rfl) ?_
 refine Lst.r (Ev.extract rfl rfl) ?_
 refine Lst.alloc (cs := enc Cmd.zero) rfl rfl (by decide) Tryd.zeroValue26 rfl (fun b17 => ?_)
 refine Lst.store (i := 0) rfl rfl rfl rfl rfl Tryd.sizeOf26 (vs := enc r13.1) rfl (Enc.len _) (Enc.one _) (cs' := enc r13.1) (Put.here ((Enc.len _).trans (Enc.len _).symm)) (L' := (.blk b17 (enc r13.1) 26) :: (.blk b3 (enc (Vector.replicate 10 (0 : Int))) 23) :: (.blk b1 (enc y7) 23) :: L) rfl ?_
 refine Lst.r (Ev.assign rfl) ?_
 refine nt0 ?_
 refine Cd.seq ?_
 refine sr0 ?_
 refine mv0 rfl ?_
 refine Lst.r (Ev.neq rfl rfl) ?_
 refine nt0 ?_
 rcases Bool.eq_false_or_eq_true (r13.2 != (0 : Int)) with hb19 | hb19
 ·replace H := ite_t hb19 H
  refine Cd.condT rfl hb19 ?_
  refine sr0 ?_
  refine mv0 rfl ?_
  refine Lst.r (Ev.add rfl rfl) ?_
  refine Lst.r (Ev.assign rfl) ?_
  refine nt0 ?_
  refine Cd.exit ?_
  refine At.then_exit ?_
  refine At.in_exit ?_
  refine At.then ?_
  refine Cd.as (e' := [(2, pv b1 0), (4, pv b3 0), (6, iv (w64 (y6 + (1 : Int)))), (11, Sl.v s_a1), (12, iv (a1.length : Int)), (13, iv (i5 : Int))]) (L' := (.blk b17 (enc r13.1) 26) :: (.blk b3 (enc (Vector.replicate 10 (0 : Int))) 23) :: (.blk b1 (enc y7) 23) :: L) ⟨rfl, rfl, rfl, rfl, rfl, rfl, trivial⟩ rfl ?_
  refine Cd.region ?_
  refine Lst.r (Ev.incr (by omega) rfl rfl) ?_
  refine mv0 rfl ?_
  refine Lst.nil ?_
  refine At.less (L' := (.blk b3 (enc (Vector.replicate 10 (0 : Int))) 23) :: (.blk b1 (enc y7) 23) :: L) (sc1 (sk1 (sk1 (.refl _)))) ?_
  exact At.meet (i5 + 1, k5, w64 (y6 + (1 : Int)), y7) hF9 ⟨rfl, rfl, rfl, rfl, rfl, rfl, trivial⟩ rfl ⟨⟨hgo5 _ (some_inj H).symm, by omega⟩, Nat.lt_succ_self _⟩
 replace H := ite_f hb19 H
 refine Cd.condF rfl hb19 ?_
 refine Cd.skip ?_
 refine At.then ?_
 refine Cd.region ?_
 refine Lst.r (Ev.loadA (i := 0) rfl rfl Tryd.isAgg26 Tryd.sizeOf26 (ch := enc r13.1) (Enc.len _) gh0) ?_
 obtain ⟨r20, h21, H⟩ := bind_some H
 refine Lst.front (i := 2) rfl (L' := (.blk b1 (enc y7) 23) :: (.blk b17 (enc r13.1) 26) :: (.blk b3 (enc (Vector.replicate 10 (0 : Int))) 23) :: L) rfl ?_
 refine Lst.call rfl rfl (by decide) (vs := [pv b1 0, .agg (enc r13.1).toArray]) ⟨rfl, rfl, trivial⟩ Tryd.call14 (same_run_sim h21 w0 _ M _ (sc2 hM)) (fun F22 L' v hF23 hv => ?_)
 obtain ⟨rfl, rfl⟩ := hv
 refine Lst.nil ?_
 refine At.in_normal ?_
 refine At.then ?_
 refine Cd.as (e' := [(2, pv b1 0), (4, pv b3 0), (6, iv y6), (11, Sl.v s_a1), (12, iv (a1.length : Int)), (13, iv (i5 : Int))]) (L' := (.blk b1 (enc r20) 23) :: (.blk b17 (enc r13.1) 26) :: (.blk b3 (enc (Vector.replicate 10 (0 : Int))) 23) :: L) ⟨rfl, rfl, rfl, rfl, rfl, rfl, trivial⟩ rfl ?_
 refine Cd.region ?_
 refine Lst.r (Ev.incr (by omega) rfl rfl) ?_
 refine mv0 rfl ?_
 refine Lst.nil ?_
 refine At.front (i := 2) rfl (L' := (.blk b3 (enc (Vector.replicate 10 (0 : Int))) 23) :: (.blk b1 (enc r20) 23) :: (.blk b17 (enc r13.1) 26) :: L) rfl ?_
 refine At.less (L' := (.blk b3 (enc (Vector.replicate 10 (0 : Int))) 23) :: (.blk b1 (enc r20) 23) :: L) (sk1 (sk1 (sc1 (.refl _)))) ?_
 exact At.meet (i5 + 1, k5, y6, r20) (FLe.trans hF9 hF23) ⟨rfl, rfl, rfl, rfl, rfl, rfl, trivial⟩ rfl ⟨⟨hgo5 _ (some_inj H).symm, by omega⟩, Nat.lt_succ_self _⟩
set_option maxRecDepth 20000 in
theorem partref_RunCmds_1_sim {a0 : Int} {r : Int} (H : partref_RunCmds_1 a0 = some r) (w0 : World) (F : Frz) (M L : List Item) (hM : M.Sublist L) : Ok Tryd.prog w0 15 [iv a0] F (L) (Is (iv r) (L)) := by
 unfold partref_RunCmds_1 at H
 refine Ok.enter (m := 1) (n := 8) Tryd.func15 rfl rfl rfl (by decide) ?_
 refine Cd.env (e' := [(0, iv a0)]) rfl ?_
 refine sr0 ?_
 refine Lst.r (Ev.assign rfl) ?_
 refine nt0 ?_
 refine Cd.seq ?_
 refine sr0 ?_
 refine mv0 rfl ?_
 refine Lst.r (Ev.gtr rfl rfl) ?_
 refine nt0 ?_
 rcases Bool.eq_false_or_eq_true (decide (a0 > (1000000000 : Int))) with hb1 | hb1
 ·replace H := ite_t hb1 H
  refine Cd.condT rfl hb1 ?_
  refine sr0 ?_
  refine Lst.r (Ev.assign rfl) ?_
  refine nt0 ?_
  obtain rfl := some_inj H
  refine Cd.ret ?_
  refine At.then_ret ?_
  exact At.ret1 rfl (Res.tmp rfl) fl (.refl _) ⟨rfl, rfl⟩
 replace H := ite_f hb1 H
 refine Cd.condF rfl hb1 ?_
 refine Cd.skip ?_
 refine At.then ?_
 refine Cd.seq ?_
 refine sr0 ?_
 refine mv0 rfl ?_
 refine Lst.r (Ev.lss rfl rfl) ?_
 refine nt0 ?_
 rcases Bool.eq_false_or_eq_true (decide (a0 < (-1000000000 : Int))) with hb2 | hb2
 ·replace H := ite_t hb2 H
  refine Cd.condT rfl hb2 ?_
  refine sr0 ?_
  refine Lst.r (Ev.assign rfl) ?_
  refine nt0 ?_
  obtain rfl := some_inj H
  refine Cd.ret ?_
  refine At.then_ret ?_
  exact At.ret1 rfl (Res.tmp rfl) fl (.refl _) ⟨rfl, rfl⟩
 replace H := ite_f hb2 H
 refine Cd.condF rfl hb2 ?_
 refine Cd.skip ?_
 refine At.then ?_
 refine sr0 ?_
 refine mv0 rfl ?_
 refine Lst.r (Ev.assign rfl) ?_
 refine nt0 ?_
 obtain rfl := some_inj H
 refine Cd.ret ?_
 exact At.ret1 rfl (Res.tmp rfl) fl (.refl _) ⟨rfl, rfl⟩
set_option maxRecDepth 20000 in
theorem partref_RunCmds_sim {fu : Nat} {a0 : Vector Int 10} {a1 : List Str} {s_a1 : Sl} {r : (Vector Int 10) × Int} (H : partref_RunCmds fu a0 a1 = some r) (w0 : World) (F : Frz) (M L : List Item) (hM : M.Sublist L) (hs_a1 : Rd w0 F M s_a1 a1) : Ok Tryd.prog w0 7 [.agg (enc a0).toArray, Sl.v s_a1] F (L) (Is (.tuple #[.agg (enc r.1).toArray, iv r.2]) (L)) := by
 unfold partref_RunCmds at H
 refine Ok.enter (m := 2) (n := 67) Tryd.func7 rfl rfl rfl (by decide) ?_
 refine Cd.env (e' := [(0, .agg (enc a0).toArray), (1, Sl.v s_a1)]) rfl ?_
 refine sr0 ?_
 refine Lst.box rfl rfl (by decide) rfl (cs := enc a0) rfl (fun b1 => ?_)
 refine Lst.alloc (cs := enc (Vector.replicate 10 (0 : Int))) rfl rfl (by decide) Tryd.zeroValue23 rfl (fun b3 => ?_)
 refine Lst.r (Ev.assign rfl) ?_
 refine nsr ?_
 refine Lst.r (Ev.assign rfl) ?_
 refine nsr ?_
 refine Lst.r (Ev.assign rfl) ?_
 refine nt0 ?_
 refine Cd.seq ?_
 refine sr0 ?_
 refine mv0 rfl ?_
 refine Lst.r (Ev.lenS (α := Str) (xs := a1) (by decide) rfl rfl Tryd.runUnderlying24 (hs_a1.mono fl (sc2 hM))) ?_
 refine mv0 rfl ?_
 refine nt0 ?_
 refine Cd.block ?_
 refine Cd.bound (Rd.le (α := Str) (xs := a1) (by decide) (hs_a1.mono fl (sc2 hM))) (fun hN49 => ?_)
 obtain ⟨ol5, H, HKl5⟩ := bind_some H
 refine Cd.loop (σ := Nat × Nat × Int × (Vector Int 10)) (fun (i5, k5, y6, y7) => [(2, pv b1 0), (4, pv b3 0), (6, iv y6), (7, .func (.func 15) #[] #[]), (13, Sl.v s_a1), (14, iv (a1.length : Int)), (15, iv (i5 : Int))]) (fun (i5, k5, y6, y7) => (.blk b3 (enc (Vector.replicate 10 (0 : Int))) 23) :: (.blk b1 (enc y7) 23) :: L) (fun _ => (fun (i5, k5, y6, y7) => rangeF (partref_RunCmds_B0 fu a1) k5 i5 (y6, y7) = some ol5 ∧ i5 + k5 = a1.length)) (fun (i5, k5, y6, y7) => k5) (0, a1.length, (0 : Int), a0) ⟨rfl, rfl, rfl, rfl, rfl, rfl, rfl, trivial⟩ rfl ⟨H, by omega⟩ ?_
 rintro F8 ⟨i5, k5, y6, y7⟩ hF9 ⟨H, hik5⟩
 refine Cd.as (e' := [(2, pv b1 0), (4, pv b3 0), (6, iv y6), (7, .func (.func 15) #[] #[]), (13, Sl.v s_a1), (14, iv (a1.length : Int)), (15, iv (i5 : Int))]) (L' := (.blk b3 (enc (Vector.replicate 10 (0 : Int))) 23) :: (.blk b1 (enc y7) 23) :: L) ⟨rfl, rfl, rfl, rfl, rfl, rfl, rfl, trivial⟩ rfl ?_
 rcases k5 with _ | k5
 ·have hc5 : decide ((i5 : Int) < (a1.length : Int)) = false := decide_eq_false (by omega)
  replace H := rangeF_end H
  refine sr0 ?_
  refine Lst.r (Ev.lss rfl rfl) ?_
  refine nt0 ?_
  refine Cd.seq ?_
  refine Cd.condF rfl hc5 ?_
  refine Cd.exit ?_
  refine At.then_exit ?_
  refine At.then_exit ?_
  refine At.in_exit ?_
  subst H
  replace H := HKl5
  refine At.then ?_
  refine sr0 ?_
  refine Lst.r (Ev.loadA (i := 1) rfl rfl Tryd.isAgg23 Tryd.sizeOf23 (ch := enc y7) (Enc.len _) gh0) ?_
  refine mv0 rfl ?_
  refine Lst.store (i := 0) rfl rfl rfl rfl rfl Tryd.sizeOf23 (vs := enc y7) rfl (Enc.len _) (Enc.one _) (cs' := enc y7) (Put.here ((Enc.len _).trans (Enc.len _).symm)) (L' := (.blk b3 (enc y7) 23) :: (.blk b1 (enc y7) 23) :: L) rfl ?_
  refine Lst.r (Ev.assign rfl) ?_
  refine nt0 ?_
  obtain rfl := some_inj H
  refine Cd.ret ?_
  exact At.ret2 rfl (Res.cellA (i := 0) rfl rfl Tryd.isAgg23 Tryd.sizeOf23 (Enc.len _)) (Res.tmp rfl) hF9 (sc1 (sc1 (.refl _))) ⟨rfl, rfl⟩
 have hc5 : decide ((i5 : Int) < (a1.length : Int)) = true := decide_eq_true (by omega)
 obtain ⟨c5, H, hgo5⟩ := rangeF_go H
 unfold partref_RunCmds_B0 at H
 try dsimp only at H
 refine sr0 ?_
 refine Lst.r (Ev.lss rfl rfl) ?_
 refine nt0 ?_
 refine Cd.seq ?_
 refine Cd.condT rfl hc5 ?_
 refine Cd.skip ?_
 refine At.then ?_
 refine Cd.seq ?_
 refine Cd.block ?_
 refine sr0 ?_
 obtain ⟨x10, h11, H⟩ := bind_some H
 have g12 := lat_some h11
 refine Lst.r (Ev.indexS (α := Str) (xs := a1) rfl rfl Tryd.runUnderlying24 Tryd.sizeOf9 rfl (by decide) (hs_a1.mono hF9 (sc2 hM)) g12.1 g12.2.1) ?_
 refine Lst.r (Ev.loadS (α := Str) rfl (hs_a1.mono hF9 (sc2 hM)) Tryd.isAgg9 (v := Str.v x10) ((Get.elemN (s := 1) (x := x10) rfl g12.2.2 gh0).off (by omega))) ?_
 refine Lst.r (Ev.assign rfl) ?_
 refine nsr ?_
 refine mv0 rfl ?_
 obtain ⟨r13, h14, H⟩ := bind_some H
 refine Lst.call1 rfl rfl (by decide) (vs := [Str.v x10]) ⟨rfl, trivial⟩ Tryd.call5 (partref_ReadCmd_sim h14 w0 _ M _ (sc2 hM)) ?_
 refine mv0 rfl ?_
 refine Lst.r (Ev.extract rfl rfl) ?_
 refine Lst.r (Ev.extract rfl rfl) ?_
 refine Lst.alloc (cs := enc Cmd.zero) rfl rfl (by decide) Tryd.zeroValue26 rfl (fun b17 => ?_)
 refine Lst.store (i := 0) rfl rfl rfl rfl rfl Tryd.sizeOf26 (vs := enc r13.1) rfl (Enc.len _) (Enc.one _) (cs' := enc r13.1) (Put.here ((Enc.len _).trans (Enc.len _).symm)) (L' := (.blk b17 (enc r13.1) 26) :: (.blk b3 (enc (Vector.replicate 10 (0 : Int))) 23) :: (.blk b1 (enc y7) 23) :: L) rfl ?_
 refine Lst.r (Ev.assign rfl) ?_
 refine nt0 ?_
 refine Cd.seq ?_
 refine sr0 ?_
 refine mv0 rfl ?_
 refine Lst.r (Ev.neq rfl rfl) ?_
 refine nt0 ?_
 rcases Bool.eq_false_or_eq_true (r13.2 != (0 : Int)) with hb19 | hb19
 ·replace H := ite_t hb19 H
  refine Cd.condT rfl hb19 ?_
  refine sr0 ?_
  refine mv0 rfl ?_
  refine Lst.r (Ev.add rfl rfl) ?_
  refine Lst.r (Ev.assign rfl) ?_
  refine nt0 ?_
  refine Cd.exit ?_
  refine At.then_exit ?_
  refine At.in_exit ?_
  refine At.then ?_
  refine Cd.as (e' := [(2, pv b1 0), (4, pv b3 0), (6, iv (w64 (y6 + (1 : Int)))), (7, .func (.func 15) #[] #[]), (13, Sl.v s_a1), (14, iv (a1.length : Int)), (15, iv (i5 : Int))]) (L' := (.blk b17 (enc r13.1) 26) :: (.blk b3 (enc (Vector.replicate 10 (0 : Int))) 23) :: (.blk b1 (enc y7) 23) :: L) ⟨rfl, rfl, rfl, rfl, rfl, rfl, rfl, trivial⟩ rfl ?_
  refine Cd.region ?_
  refine Lst.r (Ev.incr (by omega) rfl rfl) ?_
  refine mv0 rfl ?_
  refine Lst.nil ?_
  refine At.less (L' := (.blk b3 (enc (Vector.replicate 10 (0 : Int))) 23) :: (.blk b1 (enc y7) 23) :: L) (sc1 (sk1 (sk1 (.refl _)))) ?_
  exact At.meet (i5 + 1, k5, w64 (y6 + (1 : Int)), y7) hF9 ⟨rfl, rfl, rfl, rfl, rfl, rfl, rfl, trivial⟩ rfl ⟨⟨hgo5 _ (some_inj H).symm, by omega⟩, Nat.lt_succ_self _⟩
 replace H := ite_f hb19 H
 refine Cd.condF rfl hb19 ?_
 refine Cd.skip ?_
 refine At.then ?_
 refine sr0 ?_
 refine mv0 rfl ?_
 refine Lst.r (Ev.fieldAddr (off' := 2) rfl Tryd.runUnderlying26 rfl Tryd.sizeOf3 rfl rfl) ?_
 refine Lst.r (Ev.load (i := 0) rfl rfl Tryd.isAgg3 (v := iv r13.1.N) ((Cmd.get_N gh0).off (by rfl))) ?_
 obtain ⟨r20, h21, H⟩ := bind_some H
 refine Lst.callV1 rfl rfl (by decide) (vs := [iv r13.1.N]) (cs := []) rfl ⟨rfl, trivial⟩ Tryd.call15 (partref_RunCmds_1_sim h21 w0 _ M _ (sc2 (sc1 hM))) ?_
 refine Lst.r (Ev.assign rfl) ?_
 refine nt0 ?_
 obtain ⟨o25, H, HKo25⟩ := bind_some H
 refine Cd.join (σ := Int) (fun y24 => [(2, pv b1 0), (4, pv b3 0), (6, iv y6), (7, .func (.func 15) #[] #[]), (10, pv b17 0), (12, iv y24), (13, Sl.v s_a1), (14, iv (a1.length : Int)), (15, iv (i5 : Int))]) (fun y24 => (.blk b17 (enc r13.1) 26) :: (.blk b3 (enc (Vector.replicate 10 (0 : Int))) 23) :: (.blk b1 (enc y7) 23) :: L) (fun _ y24 => y24 = o25) ?_ ?_
 ·refine Cd.seq ?_
  refine Cd.as (e' := [(2, pv b1 0), (4, pv b3 0), (6, iv y6), (7, .func (.func 15) #[] #[]), (13, Sl.v s_a1), (14, iv (a1.length : Int)), (15, iv (i5 : Int)), (10, pv b17 0), (12, iv r20)]) (L' := (.blk b17 (enc r13.1) 26) :: (.blk b3 (enc (Vector.replicate 10 (0 : Int))) 23) :: (.blk b1 (enc y7) 23) :: L) ⟨rfl, rfl, rfl, rfl, rfl, rfl, rfl, rfl, rfl, trivial⟩ rfl ?_
  refine Cd.region ?_
  refine Lst.r (Ev.fieldAddr (off' := 0) rfl Tryd.runUnderlying26 rfl Tryd.sizeOf3 rfl rfl) ?_
  refine Lst.r (Ev.load (i := 0) rfl rfl Tryd.isAgg3 (v := iv r13.1.Kind) ((Cmd.get_Kind gh0).off (by rfl))) ?_
  refine nt0 ?_
  refine Cd.block ?_
  refine sr0 ?_
  refine Lst.r (Ev.eql rfl rfl) ?_
  refine Lst.r (Ev.assign rfl) ?_
  refine nt0 ?_
  rcases Bool.eq_false_or_eq_true (r13.1.Kind == (2 : Int)) with hb26 | hb26
  ·replace H := ite_t hb26 H
   refine Cd.condT rfl hb26 ?_
   refine Cd.region ?_
   refine mv0 rfl ?_
   refine Lst.r (Ev.fieldAddr (off' := 1) rfl Tryd.runUnderlying26 rfl Tryd.sizeOf3 rfl rfl) ?_
   refine Lst.r (Ev.load (i := 0) rfl rfl Tryd.isAgg3 (v := iv r13.1.Key) ((Cmd.get_Key gh0).off (by rfl))) ?_
   obtain ⟨x27, h28, H⟩ := bind_some H
   have g29 := vat_some h28
   refine Lst.r (Ev.indexAddr (off' := 0 + r13.1.Key.toNat * 1) rfl rfl Tryd.runUnderlying23 Tryd.sizeOf3 g29.1 g29.2.1 rfl) ?_
   refine Lst.r (Ev.load (i := 2) rfl rfl Tryd.isAgg3 (v := iv x27) ((Get.vecN (s := 1) (x := x27) rfl g29.2.2 gh0).off (by omega))) ?_
   refine Lst.r (Ev.min2 rfl rfl) ?_
   refine Lst.r (Ev.max2 rfl rfl) ?_
   refine mv0 rfl ?_
   refine Lst.r (Ev.add rfl rfl) ?_
   obtain ⟨r30, h31, H⟩ := bind_some H
   refine Lst.callV1 rfl rfl (by decide) (vs := [iv (w64 ((max (-1099511627776 : Int) (min x27 (1099511627776 : Int))) + r20))]) (cs := []) rfl ⟨rfl, trivial⟩ Tryd.call15 (partref_RunCmds_1_sim h31 w0 _ M _ (sc2 (sc1 hM))) ?_
   refine Lst.r (Ev.assign rfl) ?_
   refine Lst.nil ?_
   refine At.in_normal ?_
   exact At.meet r30 fl ⟨rfl, rfl, rfl, rfl, rfl, rfl, rfl, rfl, rfl, trivial⟩ rfl (some_inj H)
  replace H := ite_f hb26 H
  refine Cd.condF rfl hb26 ?_
  refine sr0 ?_
  refine Lst.r (Ev.eql rfl rfl) ?_
  refine Lst.r (Ev.assign rfl) ?_
  refine nt0 ?_
  rcases Bool.eq_false_or_eq_true (r13.1.Kind == (3 : Int)) with hb34 | hb34
  ·replace H := ite_t hb34 H
   refine Cd.condT rfl hb34 ?_
   refine Cd.region ?_
   refine mv0 rfl ?_
   refine Lst.r (Ev.fieldAddr (off' := 1) rfl Tryd.runUnderlying26 rfl Tryd.sizeOf3 rfl rfl) ?_
   refine Lst.r (Ev.load (i := 0) rfl rfl Tryd.isAgg3 (v := iv r13.1.Key) ((Cmd.get_Key gh0).off (by rfl))) ?_
   obtain ⟨x35, h36, H⟩ := bind_some H
   have g37 := vat_some h36
   refine Lst.r (Ev.indexAddr (off' := 0 + r13.1.Key.toNat * 1) rfl rfl Tryd.runUnderlying23 Tryd.sizeOf3 g37.1 g37.2.1 rfl) ?_
   refine Lst.r (Ev.load (i := 2) rfl rfl Tryd.isAgg3 (v := iv x35) ((Get.vecN (s := 1) (x := x35) rfl g37.2.2 gh0).off (by omega))) ?_
   refine Lst.r (Ev.max2 rfl rfl) ?_
   refine Lst.r (Ev.assign rfl) ?_
   refine Lst.nil ?_
   refine At.in_normal ?_
   exact At.meet (max r20 x35) fl ⟨rfl, rfl, rfl, rfl, rfl, rfl, rfl, rfl, rfl, trivial⟩ rfl (some_inj H)
  replace H := ite_f hb34 H
  refine Cd.condF rfl hb34 ?_
  refine sr0 ?_
  refine Lst.r (Ev.eql rfl rfl) ?_
  refine Lst.r (Ev.assign rfl) ?_
  refine nt0 ?_
  rcases (Bool.eq_false_or_eq_true (r13.1.Kind == (4 : Int))).symm with hb38 | hb38
  ·replace H := ite_f hb38 H
   refine Cd.condF rfl hb38 ?_
   refine Cd.skip ?_
   refine At.in_normal ?_
   exact At.meet r20 fl ⟨rfl, rfl, rfl, rfl, rfl, rfl, rfl, rfl, rfl, trivial⟩ rfl (some_inj H)
  replace H := ite_t hb38 H
  refine Cd.condT rfl hb38 ?_
  refine Cd.region ?_
  refine Lst.r (Ev.fieldAddr (off' := 2) rfl Tryd.runUnderlying26 rfl Tryd.sizeOf3 rfl rfl) ?_
  refine Lst.r (Ev.load (i := 0) rfl rfl Tryd.isAgg3 (v := iv r13.1.N) ((Cmd.get_N gh0).off (by rfl))) ?_
  obtain ⟨x39, h40, H⟩ := bind_some H
  have g41 := vat_some h40
  refine Lst.r (Ev.indexAddr (off' := 0 + r13.1.N.toNat * 1) rfl rfl Tryd.runUnderlying23 Tryd.sizeOf3 g41.1 g41.2.1 rfl) ?_
  refine Lst.r (Ev.load (i := 2) rfl rfl Tryd.isAgg3 (v := iv x39) ((Get.vecN (s := 1) (x := x39) rfl g41.2.2 gh0).off (by omega))) ?_
  refine Lst.r (Ev.assign rfl) ?_
  refine Lst.nil ?_
  refine At.in_normal ?_
  exact At.meet x39 fl ⟨rfl, rfl, rfl, rfl, rfl, rfl, rfl, rfl, rfl, trivial⟩ rfl (some_inj H)
 rintro F42 y24 hF43 hy
 subst hy
 refine Cd.as (e' := [(2, pv b1 0), (4, pv b3 0), (6, iv y6), (7, .func (.func 15) #[] #[]), (10, pv b17 0), (12, iv y24), (13, Sl.v s_a1), (14, iv (a1.length : Int)), (15, iv (i5 : Int))]) (L' := (.blk b17 (enc r13.1) 26) :: (.blk b3 (enc (Vector.replicate 10 (0 : Int))) 23) :: (.blk b1 (enc y7) 23) :: L) ⟨rfl, rfl, rfl, rfl, rfl, rfl, rfl, rfl, rfl, trivial⟩ rfl ?_
 replace H := HKo25
 refine Cd.region ?_
 refine Lst.r (Ev.fieldAddr (off' := 1) rfl Tryd.runUnderlying26 rfl Tryd.sizeOf3 rfl rfl) ?_
 refine Lst.r (Ev.load (i := 0) rfl rfl Tryd.isAgg3 (v := iv r13.1.Key) ((Cmd.get_Key gh0).off (by rfl))) ?_
 refine mv0 rfl ?_
 obtain ⟨x44, h45, H⟩ := bind_some H
 have g46 := vat_some h45
 refine Lst.r (Ev.indexAddr (off' := 0 + r13.1.Key.toNat * 1) rfl rfl Tryd.runUnderlying23 Tryd.sizeOf3 g46.1 g46.2.1 rfl) ?_
 obtain ⟨p47, h48, H⟩ := Let_some H
 refine Lst.store (i := 2) rfl rfl rfl rfl rfl Tryd.sizeOf3 (vs := [iv y24]) rfl rfl rfl (cs' := enc p47) (by rw [← h48]; exact (Put.vecN (s := 1) (x := x44) rfl g46.2.2 (Put.here (vs := [iv y24]) rfl)).off (by omega)) (L' := (.blk b17 (enc r13.1) 26) :: (.blk b3 (enc (Vector.replicate 10 (0 : Int))) 23) :: (.blk b1 (enc p47) 23) :: L) rfl ?_
 refine Lst.nil ?_
 refine At.in_normal ?_
 refine At.then ?_
 refine Cd.region ?_
 refine Lst.r (Ev.incr (by omega) rfl rfl) ?_
 refine mv0 rfl ?_
 refine Lst.nil ?_
 refine At.less (L' := (.blk b3 (enc (Vector.replicate 10 (0 : Int))) 23) :: (.blk b1 (enc p47) 23) :: L) (sc1 (sk1 (sk1 (.refl _)))) ?_
 exact At.meet (i5 + 1, k5, y6, p47) (FLe.trans hF9 hF43) ⟨rfl, rfl, rfl, rfl, rfl, rfl, rfl, trivial⟩ rfl ⟨⟨hgo5 _ (some_inj H).symm, by omega⟩, Nat.lt_succ_self _⟩
set_option maxRecDepth 20000 in
theorem same_Swaps_1_sim {a0 : Cmd} {a1 : Cmd} {r : Bool} (H : same_Swaps_1 a0 a1 = some r) (w0 : World) (F : Frz) (M L : List Item) (hM : M.Sublist L) : Ok Tryd.prog w0 16 [.agg (enc a0).toArray, .agg (enc a1).toArray] F (L) (Is (.bool r) (L)) := by
 unfold same_Swaps_1 at H
 refine Ok.enter (m := 2) (n := 15) Tryd.func16 rfl rfl rfl (by decide) ?_
 refine Cd.env (e' := [(0, .agg (enc a0).toArray), (1, .agg (enc a1).toArray)]) rfl ?_
 refine sr0 ?_
 refine Lst.box rfl rfl (by decide) rfl (cs := enc a0) rfl (fun b1 => ?_)
 refine Lst.box rfl rfl (by decide) rfl (cs := enc a1) rfl (fun b3 => ?_)
 refine Lst.r (Ev.assign rfl) ?_
 refine nsr ?_
 refine Lst.r (Ev.fieldAddr (off' := 0) rfl Tryd.runUnderlying26 rfl Tryd.sizeOf3 rfl rfl) ?_
 refine Lst.r (Ev.load (i := 1) rfl rfl Tryd.isAgg3 (v := iv a0.Kind) ((Cmd.get_Kind gh0).off (by rfl))) ?_
 refine Lst.r (Ev.eql rfl rfl) ?_
 refine mv0 rfl ?_
 obtain ⟨o5, H, HKo5⟩ := bind_some H
 refine Lst.join (σ := Bool) 6 (fun y6 => [(14, .bool y6)]) (fun y6 => (.blk b3 (enc a1) 26) :: (.blk b1 (enc a0) 26) :: L) (fun _ y6 => y6 = o5) ?_ ?_
 ·rcases (Bool.eq_false_or_eq_true (a0.Kind == (4 : Int))).symm with hb7 | hb7
  ·replace H := ite_f hb7 H
   refine Lst.skip rfl rfl rfl hb7 rfl (by decide) ?_
   refine Lst.skip rfl rfl rfl hb7 rfl (by decide) ?_
   refine Lst.skip rfl rfl rfl hb7 rfl (by decide) ?_
   refine Lst.skip rfl rfl rfl hb7 rfl (by decide) ?_
   refine Lst.skip rfl rfl rfl hb7 rfl (by decide) ?_
   refine Lst.r (Ev.pickF rfl hb7 rfl) ?_
   refine Lst.nil ?_
   exact At.meet false fl ⟨rfl, trivial⟩ rfl (some_inj H)
  replace H := ite_t hb7 H
  refine Lst.rG hb7 (Ev.fieldAddr (off' := 2) rfl Tryd.runUnderlying26 rfl Tryd.sizeOf3 rfl rfl) ?_
  refine Lst.rG hb7 (Ev.load (i := 1) rfl rfl Tryd.isAgg3 (v := iv a0.N) ((Cmd.get_N gh0).off (by rfl))) ?_
  refine Lst.rG hb7 (Ev.fieldAddr (off' := 1) rfl Tryd.runUnderlying26 rfl Tryd.sizeOf3 rfl rfl) ?_
  refine Lst.rG hb7 (Ev.load (i := 0) rfl rfl Tryd.isAgg3 (v := iv a1.Key) ((Cmd.get_Key gh0).off (by rfl))) ?_
  refine Lst.rG hb7 (Ev.eql rfl rfl) ?_
  refine Lst.r (Ev.pickT rfl hb7 rfl) ?_
  refine Lst.nil ?_
  exact At.meet (a0.N == a1.Key) fl ⟨rfl, trivial⟩ rfl (some_inj H)
 rintro F8 y6 hF9 hy
 subst hy
 refine Lst.as (e' := [(14, .bool y6)]) (L' := (.blk b3 (enc a1) 26) :: (.blk b1 (enc a0) 26) :: L) ⟨rfl, trivial⟩ rfl ?_
 replace H := HKo5
 refine Lst.r (Ev.assign rfl) ?_
 refine nt0 ?_
 obtain rfl := some_inj H
 refine Cd.ret ?_
 exact At.ret1 rfl (Res.tmp rfl) hF9 (sc1 (sc1 (.refl _))) ⟨rfl, rfl⟩
set_option maxRecDepth 20000 in
theorem same_Swaps_sim {fu : Nat} {a0 : Str} {a1 : Str} {r : Bool} (H : same_Swaps fu a0 a1 = some r) (w0 : World) (F : Frz) (M L : List Item) (hM : M.Sublist L) : Ok Tryd.prog w0 8 [Str.v a0, Str.v a1] F (L) (Is (.bool r) (L)) := by
 unfold same_Swaps at H
 refine Ok.enter (m := 2) (n := 66) Tryd.func8 rfl rfl rfl (by decide) ?_
 refine Cd.env (e' := [(0, Str.v a0), (1, Str.v a1)]) rfl ?_
 refine sr0 ?_
 refine Lst.r (Ev.assign rfl) ?_
 refine nsr ?_
 refine mv0 rfl ?_
 obtain ⟨r1, h2, H⟩ := bind_some H
 refine Lst.call1 rfl rfl (by decide) (vs := [Str.v a0]) ⟨rfl, trivial⟩ Tryd.call4 (same_Read_sim h2 w0 _ M _ hM) ?_
 refine mv0 rfl ?_
 refine Lst.r (Ev.extract rfl rfl) ?_
 refine Lst.r (Ev.extract rfl rfl) ?_
 refine Lst.alloc (cs := enc Cmd.zero) rfl rfl (by decide) Tryd.zeroValue26 rfl (fun b5 => ?_)
 refine Lst.store (i := 0) rfl rfl rfl rfl rfl Tryd.sizeOf26 (vs := enc r1.1) rfl (Enc.len _) (Enc.one _) (cs' := enc r1.1) (Put.here ((Enc.len _).trans (Enc.len _).symm)) (L' := (.blk b5 (enc r1.1) 26) :: L) rfl ?_
 refine Lst.r (Ev.assign rfl) ?_
 refine nsr ?_
 refine mv0 rfl ?_
 obtain ⟨r7, h8, H⟩ := bind_some H
 refine Lst.call1 rfl rfl (by decide) (vs := [Str.v a1]) ⟨rfl, trivial⟩ Tryd.call4 (same_Read_sim h8 w0 _ M _ (sc1 hM)) ?_
 refine mv0 rfl ?_
 refine Lst.r (Ev.extract rfl rfl) ?_
 refine Lst.r (Ev.extract rfl rfl) ?_
 refine Lst.alloc (cs := enc Cmd.zero) rfl rfl (by decide) Tryd.zeroValue26 rfl (fun b11 => ?_)
 refine Lst.store (i := 0) rfl rfl rfl rfl rfl Tryd.sizeOf26 (vs := enc r7.1) rfl (Enc.len _) (Enc.one _) (cs' := enc r7.1) (Put.here ((Enc.len _).trans (Enc.len _).symm)) (L' := (.blk b11 (enc r7.1) 26) :: (.blk b5 (enc r1.1) 26) :: L) rfl ?_
 refine Lst.r (Ev.assign rfl) ?_
 refine nt0 ?_
 refine Cd.seq ?_
 refine sr0 ?_
 refine mv0 rfl ?_
 refine Lst.r (Ev.neq rfl rfl) ?_
 refine mv0 rfl ?_
 obtain ⟨o13, H, HKo13⟩ := bind_some H
 refine Lst.join (σ := Bool) 3 (fun y14 => [(5, pv b5 0), (7, pv b11 0), (25, .bool y14)]) (fun y14 => (.blk b11 (enc r7.1) 26) :: (.blk b5 (enc r1.1) 26) :: L) (fun _ y14 => y14 = o13) ?_ ?_
 ·rcases Bool.eq_false_or_eq_true (r1.2 != (0 : Int)) with hb15 | hb15
  ·replace H := ite_t hb15 H
   refine Lst.skip rfl rfl rfl hb15 rfl (by decide) ?_
   refine Lst.skip rfl rfl rfl hb15 rfl (by decide) ?_
   refine Lst.r (Ev.pickT rfl hb15 rfl) ?_
   refine Lst.nil ?_
   exact At.meet true fl ⟨rfl, rfl, rfl, trivial⟩ rfl (some_inj H)
  replace H := ite_f hb15 H
  refine Lst.rG hb15 (Ev.move rfl) ?_
  refine Lst.rG hb15 (Ev.neq rfl rfl) ?_
  refine Lst.r (Ev.pickF rfl hb15 rfl) ?_
  refine Lst.nil ?_
  exact At.meet (r7.2 != (0 : Int)) fl ⟨rfl, rfl, rfl, trivial⟩ rfl (some_inj H)
 rintro F16 y14 hF17 hy
 subst hy
 refine Lst.as (e' := [(5, pv b5 0), (7, pv b11 0), (25, .bool y14)]) (L' := (.blk b11 (enc r7.1) 26) :: (.blk b5 (enc r1.1) 26) :: L) ⟨rfl, rfl, rfl, trivial⟩ rfl ?_
 replace H := HKo13
 refine mv0 rfl ?_
 obtain ⟨o18, H, HKo18⟩ := bind_some H
 refine Lst.join (σ := Bool) 4 (fun y19 => [(5, pv b5 0), (7, pv b11 0), (30, .bool y19)]) (fun y19 => (.blk b11 (enc r7.1) 26) :: (.blk b5 (enc r1.1) 26) :: L) (fun _ y19 => y19 = o18) ?_ ?_
 ·rcases Bool.eq_false_or_eq_true y14 with hb20 | hb20
  ·replace H := ite_t hb20 H
   refine Lst.skip rfl rfl rfl hb20 rfl (by decide) ?_
   refine Lst.skip rfl rfl rfl hb20 rfl (by decide) ?_
   refine Lst.skip rfl rfl rfl hb20 rfl (by decide) ?_
   refine Lst.r (Ev.pickT rfl hb20 rfl) ?_
   refine Lst.nil ?_
   exact At.meet true fl ⟨rfl, rfl, rfl, trivial⟩ rfl (some_inj H)
  replace H := ite_f hb20 H
  refine Lst.rG hb20 (Ev.loadA (i := 1) rfl rfl Tryd.isAgg26 Tryd.sizeOf26 (ch := enc r1.1) (Enc.len _) gh0) ?_
  refine Lst.rG hb20 (Ev.loadA (i := 0) rfl rfl Tryd.isAgg26 Tryd.sizeOf26 (ch := enc r7.1) (Enc.len _) gh0) ?_
  refine Lst.rG hb20 (Ev.eqlA rfl rfl (by kernel_rfl) (eq26 _ _)) ?_
  refine Lst.r (Ev.pickF rfl hb20 rfl) ?_
  refine Lst.nil ?_
  exact At.meet (decide (r1.1 = r7.1)) fl ⟨rfl, rfl, rfl, trivial⟩ rfl (some_inj H)
 rintro F21 y19 hF22 hy
 subst hy
 refine Lst.as (e' := [(5, pv b5 0), (7, pv b11 0), (30, .bool y19)]) (L' := (.blk b11 (enc r7.1) 26) :: (.blk b5 (enc r1.1) 26) :: L) ⟨rfl, rfl, rfl, trivial⟩ rfl ?_
 replace H := HKo18
 refine nt0 ?_
 rcases Bool.eq_false_or_eq_true y19 with hb23 | hb23
 ·replace H := ite_t hb23 H
  refine Cd.condT rfl hb23 ?_
  refine sr0 ?_
  refine Lst.r (Ev.assign rfl) ?_
  refine nt0 ?_
  obtain rfl := some_inj H
  refine Cd.ret ?_
  refine At.then_ret ?_
  exact At.ret1 rfl (Res.tmp rfl) (FLe.trans hF17 hF22) (sc1 (sc1 (.refl _))) ⟨rfl, rfl⟩
 replace H := ite_f hb23 H
 refine Cd.condF rfl hb23 ?_
 refine Cd.skip ?_
 refine At.then ?_
 refine sr0 ?_
 refine Lst.r (Ev.assign rfl) ?_
 refine nt0 ?_
 refine Cd.seq ?_
 refine sr0 ?_
 refine mv0 rfl ?_
 refine Lst.r (Ev.loadA (i := 1) rfl rfl Tryd.isAgg26 Tryd.sizeOf26 (ch := enc r1.1) (Enc.len _) gh0) ?_
 refine Lst.r (Ev.loadA (i := 0) rfl rfl Tryd.isAgg26 Tryd.sizeOf26 (ch := enc r7.1) (Enc.len _) gh0) ?_
 obtain ⟨r24, h25, H⟩ := bind_some H
 refine Lst.callV1 rfl rfl (by decide) (vs := [.agg (enc r1.1).toArray, .agg (enc r7.1).toArray]) (cs := []) rfl ⟨rfl, rfl, trivial⟩ Tryd.call16 (same_Swaps_1_sim h25 w0 _ M _ (sc2 hM)) ?_
 refine mv0 rfl ?_
 obtain ⟨o28, H, HKo28⟩ := bind_some H
 refine Lst.join (σ := Bool) 5 (fun y29 => [(5, pv b5 0), (7, pv b11 0), (9, .func (.func 16) #[] #[]), (40, .bool y29)]) (fun y29 => (.blk b11 (enc r7.1) 26) :: (.blk b5 (enc r1.1) 26) :: L) (fun _ y29 => y29 = o28) ?_ ?_
 ·rcases Bool.eq_false_or_eq_true r24 with hb30 | hb30
  ·replace H := ite_t hb30 H
   refine Lst.skip rfl rfl rfl hb30 rfl (by decide) ?_
   refine Lst.skip rfl rfl rfl hb30 rfl (by decide) ?_
   refine Lst.skip rfl rfl rfl hb30 rfl (by decide) ?_
   refine Lst.skip rfl rfl rfl hb30 rfl (by decide) ?_
   refine Lst.r (Ev.pickT rfl hb30 rfl) ?_
   refine Lst.nil ?_
   exact At.meet true fl ⟨rfl, rfl, rfl, rfl, trivial⟩ rfl (some_inj H)
  replace H := ite_f hb30 H
  refine Lst.rG hb30 (Ev.move rfl) ?_
  refine Lst.rG hb30 (Ev.loadA (i := 0) rfl rfl Tryd.isAgg26 Tryd.sizeOf26 (ch := enc r7.1) (Enc.len _) gh0) ?_
  refine Lst.rG hb30 (Ev.loadA (i := 1) rfl rfl Tryd.isAgg26 Tryd.sizeOf26 (ch := enc r1.1) (Enc.len _) gh0) ?_
  obtain ⟨r31, h32, H⟩ := bind_some H
  refine Lst.callV1G rfl rfl rfl hb30 rfl (by decide) (vs := [.agg (enc r7.1).toArray, .agg (enc r1.1).toArray]) (cs := []) rfl ⟨rfl, rfl, trivial⟩ Tryd.call16 (same_Swaps_1_sim h32 w0 _ M _ (sc2 hM)) ?_
  refine Lst.r (Ev.pickF rfl hb30 rfl) ?_
  refine Lst.nil ?_
  exact At.meet r31 fl ⟨rfl, rfl, rfl, rfl, trivial⟩ rfl (some_inj H)
 rintro F35 y29 hF36 hy
 subst hy
 refine Lst.as (e' := [(5, pv b5 0), (7, pv b11 0), (9, .func (.func 16) #[] #[]), (40, .bool y29)]) (L' := (.blk b11 (enc r7.1) 26) :: (.blk b5 (enc r1.1) 26) :: L) ⟨rfl, rfl, rfl, rfl, trivial⟩ rfl ?_
 replace H := HKo28
 refine nt0 ?_
 rcases Bool.eq_false_or_eq_true y29 with hb37 | hb37
 ·replace H := ite_t hb37 H
  refine Cd.condT rfl hb37 ?_
  refine sr0 ?_
  refine mv0 rfl ?_
  refine Lst.r (Ev.loadA (i := 1) rfl rfl Tryd.isAgg26 Tryd.sizeOf26 (ch := enc r1.1) (Enc.len _) gh0) ?_
  refine Lst.r (Ev.loadA (i := 1) rfl rfl Tryd.isAgg26 Tryd.sizeOf26 (ch := enc r1.1) (Enc.len _) gh0) ?_
  obtain ⟨r38, h39, H⟩ := bind_some H
  refine Lst.callV1 rfl rfl (by decide) (vs := [.agg (enc r1.1).toArray, .agg (enc r1.1).toArray]) (cs := []) rfl ⟨rfl, rfl, trivial⟩ Tryd.call16 (same_Swaps_1_sim h39 w0 _ M _ (sc2 hM)) ?_
  refine mv0 rfl ?_
  obtain ⟨o42, H, HKo42⟩ := bind_some H
  refine Lst.join (σ := Bool) 5 (fun y43 => [(50, .bool y43)]) (fun y43 => (.blk b11 (enc r7.1) 26) :: (.blk b5 (enc r1.1) 26) :: L) (fun _ y43 => y43 = o42) ?_ ?_
  ·rcases Bool.eq_false_or_eq_true r38 with hb44 | hb44
   ·replace H := ite_t hb44 H
    refine Lst.skip rfl rfl rfl hb44 rfl (by decide) ?_
    refine Lst.skip rfl rfl rfl hb44 rfl (by decide) ?_
    refine Lst.skip rfl rfl rfl hb44 rfl (by decide) ?_
    refine Lst.skip rfl rfl rfl hb44 rfl (by decide) ?_
    refine Lst.r (Ev.pickT rfl hb44 rfl) ?_
    refine Lst.nil ?_
    exact At.meet true fl ⟨rfl, trivial⟩ rfl (some_inj H)
   replace H := ite_f hb44 H
   refine Lst.rG hb44 (Ev.move rfl) ?_
   refine Lst.rG hb44 (Ev.loadA (i := 0) rfl rfl Tryd.isAgg26 Tryd.sizeOf26 (ch := enc r7.1) (Enc.len _) gh0) ?_
   refine Lst.rG hb44 (Ev.loadA (i := 0) rfl rfl Tryd.isAgg26 Tryd.sizeOf26 (ch := enc r7.1) (Enc.len _) gh0) ?_
   obtain ⟨r45, h46, H⟩ := bind_some H
   refine Lst.callV1G rfl rfl rfl hb44 rfl (by decide) (vs := [.agg (enc r7.1).toArray, .agg (enc r7.1).toArray]) (cs := []) rfl ⟨rfl, rfl, trivial⟩ Tryd.call16 (same_Swaps_1_sim h46 w0 _ M _ (sc2 hM)) ?_
   refine Lst.r (Ev.pickF rfl hb44 rfl) ?_
   refine Lst.nil ?_
   exact At.meet r45 fl ⟨rfl, trivial⟩ rfl (some_inj H)
  rintro F49 y43 hF50 hy
  subst hy
  refine Lst.as (e' := [(50, .bool y43)]) (L' := (.blk b11 (enc r7.1) 26) :: (.blk b5 (enc r1.1) 26) :: L) ⟨rfl, trivial⟩ rfl ?_
  replace H := HKo42
  refine Lst.r (Ev.assign rfl) ?_
  refine nt0 ?_
  obtain rfl := some_inj H
  refine Cd.ret ?_
  refine At.then_ret ?_
  exact At.ret1 rfl (Res.tmp rfl) (FLe.trans (FLe.trans (FLe.trans hF17 hF22) hF36) hF50) (sc1 (sc1 (.refl _))) ⟨rfl, rfl⟩
 replace H := ite_f hb37 H
 refine Cd.condF rfl hb37 ?_
 refine Cd.skip ?_
 refine At.then ?_
 refine sr0 ?_
 refine Lst.r (Ev.fieldAddr (off' := 1) rfl Tryd.runUnderlying26 rfl Tryd.sizeOf3 rfl rfl) ?_
 refine Lst.r (Ev.load (i := 1) rfl rfl Tryd.isAgg3 (v := iv r1.1.Key) ((Cmd.get_Key gh0).off (by rfl))) ?_
 refine Lst.r (Ev.fieldAddr (off' := 1) rfl Tryd.runUnderlying26 rfl Tryd.sizeOf3 rfl rfl) ?_
 refine Lst.r (Ev.load (i := 0) rfl rfl Tryd.isAgg3 (v := iv r7.1.Key) ((Cmd.get_Key gh0).off (by rfl))) ?_
 refine Lst.r (Ev.neq rfl rfl) ?_
 refine mv0 rfl ?_
 rcases Bool.eq_false_or_eq_true (r1.1.Key != r7.1.Key) with hb51 | hb51
 ·replace H := ite_t hb51 H
  refine Lst.skip rfl rfl rfl hb51 rfl (by decide) ?_
  refine Lst.skip rfl rfl rfl hb51 rfl (by decide) ?_
  refine Lst.skip rfl rfl rfl hb51 rfl (by decide) ?_
  refine Lst.skip rfl rfl rfl hb51 rfl (by decide) ?_
  refine Lst.skipU rfl rfl rfl rfl (by decide) ?_
  refine Lst.skipU rfl rfl rfl rfl (by decide) ?_
  refine Lst.skipU rfl rfl rfl rfl (by decide) ?_
  refine Lst.skip rfl rfl rfl hb51 rfl (by decide) ?_
  refine Lst.r (Ev.pickT rfl hb51 rfl) ?_
  refine Lst.r (Ev.assign rfl) ?_
  refine nt0 ?_
  obtain rfl := some_inj H
  refine Cd.ret ?_
  exact At.ret1 rfl (Res.tmp rfl) (FLe.trans (FLe.trans hF17 hF22) hF36) (sc1 (sc1 (.refl _))) ⟨rfl, rfl⟩
 replace H := ite_f hb51 H
 refine Lst.rG hb51 (Ev.fieldAddr (off' := 0) rfl Tryd.runUnderlying26 rfl Tryd.sizeOf3 rfl rfl) ?_
 refine Lst.rG hb51 (Ev.load (i := 1) rfl rfl Tryd.isAgg3 (v := iv r1.1.Kind) ((Cmd.get_Kind gh0).off (by rfl))) ?_
 refine Lst.rG hb51 (Ev.eql rfl rfl) ?_
 refine Lst.rG hb51 (Ev.move rfl) ?_
 obtain ⟨o52, H, HKo52⟩ := bind_some H
 refine Lst.join (σ := Bool) 4 (fun y53 => [(56, .bool (r1.1.Key != r7.1.Key)), (64, .bool y53)]) (fun y53 => (.blk b11 (enc r7.1) 26) :: (.blk b5 (enc r1.1) 26) :: L) (fun _ y53 => y53 = o52) ?_ ?_
 ·rcases (Bool.eq_false_or_eq_true (r1.1.Kind == (3 : Int))).symm with hb54 | hb54
  ·replace H := ite_f hb54 H
   refine Lst.skip rfl rfl rfl hb54 rfl (by decide) ?_
   refine Lst.skip rfl rfl rfl hb54 rfl (by decide) ?_
   refine Lst.skip rfl rfl rfl hb54 rfl (by decide) ?_
   refine Lst.rG hb51 (Ev.pickF rfl hb54 rfl) ?_
   refine Lst.nil ?_
   exact At.meet false fl ⟨rfl, rfl, trivial⟩ rfl (some_inj H)
  replace H := ite_t hb54 H
  refine Lst.rG hb54 (Ev.fieldAddr (off' := 0) rfl Tryd.runUnderlying26 rfl Tryd.sizeOf3 rfl rfl) ?_
  refine Lst.rG hb54 (Ev.load (i := 0) rfl rfl Tryd.isAgg3 (v := iv r7.1.Kind) ((Cmd.get_Kind gh0).off (by rfl))) ?_
  refine Lst.rG hb54 (Ev.eql rfl rfl) ?_
  refine Lst.rG hb51 (Ev.pickT rfl hb54 rfl) ?_
  refine Lst.nil ?_
  exact At.meet (r7.1.Kind == (3 : Int)) fl ⟨rfl, rfl, trivial⟩ rfl (some_inj H)
 rintro F55 y53 hF56 hy
 subst hy
 refine Lst.as (e' := [(56, .bool (r1.1.Key != r7.1.Key)), (64, .bool y53)]) (L' := (.blk b11 (enc r7.1) 26) :: (.blk b5 (enc r1.1) 26) :: L) ⟨rfl, rfl, trivial⟩ rfl ?_
 replace H := HKo52
 refine Lst.r (Ev.pickF rfl hb51 rfl) ?_
 refine Lst.r (Ev.assign rfl) ?_
 refine nt0 ?_
 obtain rfl := some_inj H
 refine Cd.ret ?_
 exact At.ret1 rfl (Res.tmp rfl) (FLe.trans (FLe.trans (FLe.trans hF17 hF22) hF36) hF56) (sc1 (sc1 (.refl _))) ⟨rfl, rfl⟩
set_option maxHeartbeats 2000000 in
set_option maxRecDepth 20000 in
theorem partlaw_SameSays_sim {fu : Nat} {a0 : Str} {a1 : Vector Int 10} {a2 : List Str} {a3 : Str} {a4 : Str} {s_a2 : Sl} {r : Bool} (H : partlaw_SameSays fu a0 a1 a2 a3 a4 = some r) (w0 : World) (F : Frz) (M L : List Item) (hM : M.Sublist L) (hs_a2 : Rd w0 F M s_a2 a2) : Ok Tryd.prog w0 3 [Str.v a0, .agg (enc a1).toArray, Sl.v s_a2, Str.v a3, Str.v a4] F (L) (Is (.bool r) (L)) := by
 unfold partlaw_SameSays at H
 refine Ok.enter (m := 5) (n := 155) Tryd.func3 rfl rfl rfl (by decide) ?_
 refine Cd.env (e' := [(0, Str.v a0), (1, .agg (enc a1).toArray), (2, Sl.v s_a2), (3, Str.v a3), (4, Str.v a4)]) rfl ?_
 refine sr0 ?_
 refine Lst.box rfl rfl (by decide) rfl (cs := enc a1) rfl (fun b1 => ?_)
 refine Lst.r (Ev.assign rfl) ?_
 refine nsr ?_
 refine mv0 rfl ?_
 obtain ⟨r3, h4, H⟩ := bind_some H
 refine Lst.call1 rfl rfl (by decide) (vs := [Str.v a0]) ⟨rfl, trivial⟩ Tryd.call4 (same_Read_sim h4 w0 _ M _ (sc1 hM)) ?_
 refine mv0 rfl ?_
 refine Lst.r (Ev.extract rfl rfl) ?_
 refine Lst.r (Ev.extract rfl rfl) ?_
 refine Lst.alloc (cs := enc Cmd.zero) rfl rfl (by decide) Tryd.zeroValue26 rfl (fun b7 => ?_)
 refine Lst.store (i := 0) rfl rfl rfl rfl rfl Tryd.sizeOf26 (vs := enc r3.1) rfl (Enc.len _) (Enc.one _) (cs' := enc r3.1) (Put.here ((Enc.len _).trans (Enc.len _).symm)) (L' := (.blk b7 (enc r3.1) 26) :: (.blk b1 (enc a1) 23) :: L) rfl ?_
 refine Lst.r (Ev.assign rfl) ?_
 refine nsr ?_
 refine mv0 rfl ?_
 obtain ⟨r9, h10, H⟩ := bind_some H
 refine Lst.call1 rfl rfl (by decide) (vs := [Str.v a0]) ⟨rfl, trivial⟩ Tryd.call5 (partref_ReadCmd_sim h10 w0 _ M _ (sc2 hM)) ?_
 refine mv0 rfl ?_
 refine Lst.r (Ev.extract rfl rfl) ?_
 refine Lst.r (Ev.extract rfl rfl) ?_
 refine Lst.alloc (cs := enc Cmd.zero) rfl rfl (by decide) Tryd.zeroValue26 rfl (fun b13 => ?_)
 refine Lst.store (i := 0) rfl rfl rfl rfl rfl Tryd.sizeOf26 (vs := enc r9.1) rfl (Enc.len _) (Enc.one _) (cs' := enc r9.1) (Put.here ((Enc.len _).trans (Enc.len _).symm)) (L' := (.blk b13 (enc r9.1) 26) :: (.blk b7 (enc r3.1) 26) :: (.blk b1 (enc a1) 23) :: L) rfl ?_
 refine Lst.r (Ev.assign rfl) ?_
 refine nsr ?_
 refine Lst.r (Ev.loadA (i := 2) rfl rfl Tryd.isAgg23 Tryd.sizeOf23 (ch := enc a1) (Enc.len _) gh0) ?_
 refine mv0 rfl ?_
 obtain ⟨r15, h16, H⟩ := bind_some H
 refine Lst.call1 rfl rfl (by decide) (vs := [.agg (enc a1).toArray, Sl.v s_a2]) ⟨rfl, rfl, trivial⟩ Tryd.call6 (same_Run_sim h16 w0 _ M _ (sc2 (sc1 hM)) (hs_a2.mono fl (.refl _))) ?_
 refine mv0 rfl ?_
 refine Lst.r (Ev.extract rfl rfl) ?_
 refine Lst.r (Ev.extract rfl rfl) ?_
 refine Lst.alloc (cs := enc (Vector.replicate 10 (0 : Int))) rfl rfl (by decide) Tryd.zeroValue23 rfl (fun b19 => ?_)
 refine Lst.store (i := 0) rfl rfl rfl rfl rfl Tryd.sizeOf23 (vs := enc r15.1) rfl (Enc.len _) (Enc.one _) (cs' := enc r15.1) (Put.here ((Enc.len _).trans (Enc.len _).symm)) (L' := (.blk b19 (enc r15.1) 23) :: (.blk b13 (enc r9.1) 26) :: (.blk b7 (enc r3.1) 26) :: (.blk b1 (enc a1) 23) :: L) rfl ?_
 refine Lst.r (Ev.assign rfl) ?_
 refine nt0 ?_
 refine Cd.seq ?_
 refine Cd.as (e' := [(2, Sl.v s_a2), (3, Str.v a3), (4, Str.v a4), (6, pv b1 0), (11, pv b7 0), (12, iv r3.2), (13, pv b13 0), (14, iv r9.2), (15, pv b19 0), (16, iv r15.2)]) (L' := (.blk b19 (enc r15.1) 23) :: (.blk b13 (enc r9.1) 26) :: (.blk b7 (enc r3.1) 26) :: (.blk b1 (enc a1) 23) :: L) ⟨rfl, rfl, rfl, rfl, rfl, rfl, rfl, rfl, rfl, rfl, trivial⟩ rfl ?_
 refine Cd.region ?_
 refine Lst.r (Ev.loadA (i := 3) rfl rfl Tryd.isAgg23 Tryd.sizeOf23 (ch := enc a1) (Enc.len _) gh0) ?_
 refine mv0 rfl ?_
 obtain ⟨r21, h22, H⟩ := bind_some H
 refine Lst.call1 rfl rfl (by decide) (vs := [.agg (enc a1).toArray, Sl.v s_a2]) ⟨rfl, rfl, trivial⟩ Tryd.call7 (partref_RunCmds_sim h22 w0 _ M _ (sc4 hM) (hs_a2.mono fl (.refl _))) ?_
 refine mv0 rfl ?_
 refine Lst.r (Ev.extract rfl rfl) ?_
 refine Lst.r (Ev.extract rfl rfl) ?_
 refine Lst.alloc (cs := enc (Vector.replicate 10 (0 : Int))) rfl rfl (by decide) Tryd.zeroValue23 rfl (fun b25 => ?_)
 refine Lst.store (i := 0) rfl rfl rfl rfl rfl Tryd.sizeOf23 (vs := enc r21.1) rfl (Enc.len _) (Enc.one _) (cs' := enc r21.1) (Put.here ((Enc.len _).trans (Enc.len _).symm)) (L' := (.blk b25 (enc r21.1) 23) :: (.blk b19 (enc r15.1) 23) :: (.blk b13 (enc r9.1) 26) :: (.blk b7 (enc r3.1) 26) :: (.blk b1 (enc a1) 23) :: L) rfl ?_
 refine Lst.r (Ev.assign rfl) ?_
 refine nt0 ?_
 refine Cd.seq ?_
 refine sr0 ?_
 refine Lst.r (Ev.loadA (i := 3) rfl rfl Tryd.isAgg26 Tryd.sizeOf26 (ch := enc r3.1) (Enc.len _) gh0) ?_
 refine Lst.r (Ev.loadA (i := 2) rfl rfl Tryd.isAgg26 Tryd.sizeOf26 (ch := enc r9.1) (Enc.len _) gh0) ?_
 refine Lst.r (Ev.neqA rfl rfl (by kernel_rfl) (eq26 _ _)) ?_
 refine mv0 rfl ?_
 obtain ⟨o27, H, HKo27⟩ := bind_some H
 refine Lst.join (σ := Bool) 4 (fun y28 => [(3, Str.v a3), (4, Str.v a4), (15, pv b19 0), (16, iv r15.2), (17, pv b25 0), (18, iv r21.2), (55, .bool y28)]) (fun y28 => (.blk b25 (enc r21.1) 23) :: (.blk b19 (enc r15.1) 23) :: (.blk b13 (enc r9.1) 26) :: (.blk b7 (enc r3.1) 26) :: (.blk b1 (enc a1) 23) :: L) (fun _ y28 => y28 = o27) ?_ ?_
 ·rcases Bool.eq_false_or_eq_true (!(decide (r3.1 = r9.1))) with hb29 | hb29
  ·replace H := ite_t hb29 H
   refine Lst.skip rfl rfl rfl hb29 rfl (by decide) ?_
   refine Lst.skip rfl rfl rfl hb29 rfl (by decide) ?_
   refine Lst.skip rfl rfl rfl hb29 rfl (by decide) ?_
   refine Lst.r (Ev.pickT rfl hb29 rfl) ?_
   refine Lst.nil ?_
   exact At.meet true fl ⟨rfl, rfl, rfl, rfl, rfl, rfl, rfl, trivial⟩ rfl (some_inj H)
  replace H := ite_f hb29 H
  refine Lst.rG hb29 (Ev.move rfl) ?_
  refine Lst.rG hb29 (Ev.move rfl) ?_
  refine Lst.rG hb29 (Ev.neq rfl rfl) ?_
  refine Lst.r (Ev.pickF rfl hb29 rfl) ?_
  refine Lst.nil ?_
  exact At.meet (r3.2 != r9.2) fl ⟨rfl, rfl, rfl, rfl, rfl, rfl, rfl, trivial⟩ rfl (some_inj H)
 rintro F30 y28 hF31 hy
 subst hy
 refine Lst.as (e' := [(3, Str.v a3), (4, Str.v a4), (15, pv b19 0), (16, iv r15.2), (17, pv b25 0), (18, iv r21.2), (55, .bool y28)]) (L' := (.blk b25 (enc r21.1) 23) :: (.blk b19 (enc r15.1) 23) :: (.blk b13 (enc r9.1) 26) :: (.blk b7 (enc r3.1) 26) :: (.blk b1 (enc a1) 23) :: L) ⟨rfl, rfl, rfl, rfl, rfl, rfl, rfl, trivial⟩ rfl ?_
 replace H := HKo27
 refine mv0 rfl ?_
 obtain ⟨o32, H, HKo32⟩ := bind_some H
 refine Lst.join (σ := Bool) 4 (fun y33 => [(3, Str.v a3), (4, Str.v a4), (16, iv r15.2), (18, iv r21.2), (60, .bool y33)]) (fun y33 => (.blk b25 (enc r21.1) 23) :: (.blk b19 (enc r15.1) 23) :: (.blk b13 (enc r9.1) 26) :: (.blk b7 (enc r3.1) 26) :: (.blk b1 (enc a1) 23) :: L) (fun _ y33 => y33 = o32) ?_ ?_
 ·rcases Bool.eq_false_or_eq_true y28 with hb34 | hb34
  ·replace H := ite_t hb34 H
   refine Lst.skip rfl rfl rfl hb34 rfl (by decide) ?_
   refine Lst.skip rfl rfl rfl hb34 rfl (by decide) ?_
   refine Lst.skip rfl rfl rfl hb34 rfl (by decide) ?_
   refine Lst.r (Ev.pickT rfl hb34 rfl) ?_
   refine Lst.nil ?_
   exact At.meet true fl ⟨rfl, rfl, rfl, rfl, rfl, trivial⟩ rfl (some_inj H)
  replace H := ite_f hb34 H
  refine Lst.rG hb34 (Ev.loadA (i := 1) rfl rfl Tryd.isAgg23 Tryd.sizeOf23 (ch := enc r15.1) (Enc.len _) gh0) ?_
  refine Lst.rG hb34 (Ev.loadA (i := 0) rfl rfl Tryd.isAgg23 Tryd.sizeOf23 (ch := enc r21.1) (Enc.len _) gh0) ?_
  refine Lst.rG hb34 (Ev.neqA rfl rfl (by kernel_rfl) (eq23 _ _)) ?_
  refine Lst.r (Ev.pickF rfl hb34 rfl) ?_
  refine Lst.nil ?_
  exact At.meet (!(decide (r15.1 = r21.1))) fl ⟨rfl, rfl, rfl, rfl, rfl, trivial⟩ rfl (some_inj H)
 rintro F35 y33 hF36 hy
 subst hy
 refine Lst.as (e' := [(3, Str.v a3), (4, Str.v a4), (16, iv r15.2), (18, iv r21.2), (60, .bool y33)]) (L' := (.blk b25 (enc r21.1) 23) :: (.blk b19 (enc r15.1) 23) :: (.blk b13 (enc r9.1) 26) :: (.blk b7 (enc r3.1) 26) :: (.blk b1 (enc a1) 23) :: L) ⟨rfl, rfl, rfl, rfl, rfl, trivial⟩ rfl ?_
 replace H := HKo32
 refine mv0 rfl ?_
 obtain ⟨o37, H, HKo37⟩ := bind_some H
 refine Lst.join (σ := Bool) 4 (fun y38 => [(3, Str.v a3), (4, Str.v a4), (65, .bool y38)]) (fun y38 => (.blk b25 (enc r21.1) 23) :: (.blk b19 (enc r15.1) 23) :: (.blk b13 (enc r9.1) 26) :: (.blk b7 (enc r3.1) 26) :: (.blk b1 (enc a1) 23) :: L) (fun _ y38 => y38 = o37) ?_ ?_
 ·rcases Bool.eq_false_or_eq_true y33 with hb39 | hb39
  ·replace H := ite_t hb39 H
   refine Lst.skip rfl rfl rfl hb39 rfl (by decide) ?_
   refine Lst.skip rfl rfl rfl hb39 rfl (by decide) ?_
   refine Lst.skip rfl rfl rfl hb39 rfl (by decide) ?_
   refine Lst.r (Ev.pickT rfl hb39 rfl) ?_
   refine Lst.nil ?_
   exact At.meet true fl ⟨rfl, rfl, rfl, trivial⟩ rfl (some_inj H)
  replace H := ite_f hb39 H
  refine Lst.rG hb39 (Ev.move rfl) ?_
  refine Lst.rG hb39 (Ev.move rfl) ?_
  refine Lst.rG hb39 (Ev.neq rfl rfl) ?_
  refine Lst.r (Ev.pickF rfl hb39 rfl) ?_
  refine Lst.nil ?_
  exact At.meet (r15.2 != r21.2) fl ⟨rfl, rfl, rfl, trivial⟩ rfl (some_inj H)
 rintro F40 y38 hF41 hy
 subst hy
 refine Lst.as (e' := [(3, Str.v a3), (4, Str.v a4), (65, .bool y38)]) (L' := (.blk b25 (enc r21.1) 23) :: (.blk b19 (enc r15.1) 23) :: (.blk b13 (enc r9.1) 26) :: (.blk b7 (enc r3.1) 26) :: (.blk b1 (enc a1) 23) :: L) ⟨rfl, rfl, rfl, trivial⟩ rfl ?_
 replace H := HKo37
 refine nt0 ?_
 rcases Bool.eq_false_or_eq_true y38 with hb42 | hb42
 ·replace H := ite_t hb42 H
  refine Cd.condT rfl hb42 ?_
  refine sr0 ?_
  refine Lst.r (Ev.assign rfl) ?_
  refine nt0 ?_
  obtain rfl := some_inj H
  refine Cd.ret ?_
  refine At.then_ret ?_
  exact At.ret1 rfl (Res.tmp rfl) (FLe.trans (FLe.trans hF31 hF36) hF41) (sc1 (sc1 (sc1 (sc1 (sc1 (.refl _)))))) ⟨rfl, rfl⟩
 replace H := ite_f hb42 H
 refine Cd.condF rfl hb42 ?_
 refine Cd.skip ?_
 refine At.then ?_
 refine sr0 ?_
 refine mv0 rfl ?_
 obtain ⟨r43, h44, H⟩ := bind_some H
 refine Lst.call1 rfl rfl (by decide) (vs := [Str.v a3]) ⟨rfl, trivial⟩ Tryd.call5 (partref_ReadCmd_sim h44 w0 _ M _ (sc4 (sc1 hM))) ?_
 refine mv0 rfl ?_
 refine Lst.r (Ev.extract rfl rfl) ?_
 refine Lst.r (Ev.extract rfl rfl) ?_
 refine Lst.alloc (cs := enc Cmd.zero) rfl rfl (by decide) Tryd.zeroValue26 rfl (fun b47 => ?_)
 refine Lst.store (i := 0) rfl rfl rfl rfl rfl Tryd.sizeOf26 (vs := enc r43.1) rfl (Enc.len _) (Enc.one _) (cs' := enc r43.1) (Put.here ((Enc.len _).trans (Enc.len _).symm)) (L' := (.blk b47 (enc r43.1) 26) :: (.blk b25 (enc r21.1) 23) :: (.blk b19 (enc r15.1) 23) :: (.blk b13 (enc r9.1) 26) :: (.blk b7 (enc r3.1) 26) :: (.blk b1 (enc a1) 23) :: L) rfl ?_
 refine Lst.r (Ev.assign rfl) ?_
 refine nsr ?_
 refine mv0 rfl ?_
 obtain ⟨r49, h50, H⟩ := bind_some H
 refine Lst.call1 rfl rfl (by decide) (vs := [Str.v a4]) ⟨rfl, trivial⟩ Tryd.call5 (partref_ReadCmd_sim h50 w0 _ M _ (sc4 (sc2 hM))) ?_
 refine mv0 rfl ?_
 refine Lst.r (Ev.extract rfl rfl) ?_
 refine Lst.r (Ev.extract rfl rfl) ?_
 refine Lst.alloc (cs := enc Cmd.zero) rfl rfl (by decide) Tryd.zeroValue26 rfl (fun b53 => ?_)
 refine Lst.store (i := 0) rfl rfl rfl rfl rfl Tryd.sizeOf26 (vs := enc r49.1) rfl (Enc.len _) (Enc.one _) (cs' := enc r49.1) (Put.here ((Enc.len _).trans (Enc.len _).symm)) (L' := (.blk b53 (enc r49.1) 26) :: (.blk b47 (enc r43.1) 26) :: (.blk b25 (enc r21.1) 23) :: (.blk b19 (enc r15.1) 23) :: (.blk b13 (enc r9.1) 26) :: (.blk b7 (enc r3.1) 26) :: (.blk b1 (enc a1) 23) :: L) rfl ?_
 refine Lst.r (Ev.assign rfl) ?_
 refine nsr ?_
 refine Lst.r (Ev.fieldAddr (off' := 0) rfl Tryd.runUnderlying26 rfl Tryd.sizeOf3 rfl rfl) ?_
 refine Lst.r (Ev.load (i := 1) rfl rfl Tryd.isAgg3 (v := iv r43.1.Kind) ((Cmd.get_Kind gh0).off (by rfl))) ?_
 refine Lst.r (Ev.eql rfl rfl) ?_
 refine mv0 rfl ?_
 obtain ⟨o55, H, HKo55⟩ := bind_some H
 refine Lst.join (σ := Bool) 6 (fun y56 => [(3, Str.v a3), (4, Str.v a4), (19, pv b47 0), (20, iv r43.2), (21, pv b53 0), (22, iv r49.2), (85, .bool y56)]) (fun y56 => (.blk b53 (enc r49.1) 26) :: (.blk b47 (enc r43.1) 26) :: (.blk b25 (enc r21.1) 23) :: (.blk b19 (enc r15.1) 23) :: (.blk b13 (enc r9.1) 26) :: (.blk b7 (enc r3.1) 26) :: (.blk b1 (enc a1) 23) :: L) (fun _ y56 => y56 = o55) ?_ ?_
 ·rcases (Bool.eq_false_or_eq_true (r43.1.Kind == (4 : Int))).symm with hb57 | hb57
  ·replace H := ite_f hb57 H
   refine Lst.skip rfl rfl rfl hb57 rfl (by decide) ?_
   refine Lst.skip rfl rfl rfl hb57 rfl (by decide) ?_
   refine Lst.skip rfl rfl rfl hb57 rfl (by decide) ?_
   refine Lst.skip rfl rfl rfl hb57 rfl (by decide) ?_
   refine Lst.skip rfl rfl rfl hb57 rfl (by decide) ?_
   refine Lst.r (Ev.pickF rfl hb57 rfl) ?_
   refine Lst.nil ?_
   exact At.meet false fl ⟨rfl, rfl, rfl, rfl, rfl, rfl, rfl, trivial⟩ rfl (some_inj H)
  replace H := ite_t hb57 H
  refine Lst.rG hb57 (Ev.fieldAddr (off' := 2) rfl Tryd.runUnderlying26 rfl Tryd.sizeOf3 rfl rfl) ?_
  refine Lst.rG hb57 (Ev.load (i := 1) rfl rfl Tryd.isAgg3 (v := iv r43.1.N) ((Cmd.get_N gh0).off (by rfl))) ?_
  refine Lst.rG hb57 (Ev.fieldAddr (off' := 1) rfl Tryd.runUnderlying26 rfl Tryd.sizeOf3 rfl rfl) ?_
  refine Lst.rG hb57 (Ev.load (i := 0) rfl rfl Tryd.isAgg3 (v := iv r49.1.Key) ((Cmd.get_Key gh0).off (by rfl))) ?_
  refine Lst.rG hb57 (Ev.eql rfl rfl) ?_
  refine Lst.r (Ev.pickT rfl hb57 rfl) ?_
  refine Lst.nil ?_
  exact At.meet (r43.1.N == r49.1.Key) fl ⟨rfl, rfl, rfl, rfl, rfl, rfl, rfl, trivial⟩ rfl (some_inj H)
 rintro F58 y56 hF59 hy
 subst hy
 refine Lst.as (e' := [(3, Str.v a3), (4, Str.v a4), (19, pv b47 0), (20, iv r43.2), (21, pv b53 0), (22, iv r49.2), (85, .bool y56)]) (L' := (.blk b53 (enc r49.1) 26) :: (.blk b47 (enc r43.1) 26) :: (.blk b25 (enc r21.1) 23) :: (.blk b19 (enc r15.1) 23) :: (.blk b13 (enc r9.1) 26) :: (.blk b7 (enc r3.1) 26) :: (.blk b1 (enc a1) 23) :: L) ⟨rfl, rfl, rfl, rfl, rfl, rfl, rfl, trivial⟩ rfl ?_
 replace H := HKo55
 refine mv0 rfl ?_
 rcases Bool.eq_false_or_eq_true y56 with hb60 | hb60
 ·replace H := ite_t hb60 H
  refine Lst.skip rfl rfl rfl hb60 rfl (by decide) ?_
  refine Lst.skip rfl rfl rfl hb60 rfl (by decide) ?_
  refine Lst.skip rfl rfl rfl hb60 rfl (by decide) ?_
  refine Lst.skip rfl rfl rfl hb60 rfl (by decide) ?_
  refine Lst.skipU rfl rfl rfl rfl (by decide) ?_
  refine Lst.skipU rfl rfl rfl rfl (by decide) ?_
  refine Lst.skipU rfl rfl rfl rfl (by decide) ?_
  refine Lst.skipU rfl rfl rfl rfl (by decide) ?_
  refine Lst.skipU rfl rfl rfl rfl (by decide) ?_
  refine Lst.skip rfl rfl rfl hb60 rfl (by decide) ?_
  refine Lst.r (Ev.pickT rfl hb60 rfl) ?_
  refine Lst.r (Ev.assign rfl) ?_
  refine nsr ?_
  refine Lst.r (Ev.fieldAddr (off' := 0) rfl Tryd.runUnderlying26 rfl Tryd.sizeOf3 rfl rfl) ?_
  refine Lst.r (Ev.load (i := 1) rfl rfl Tryd.isAgg3 (v := iv r43.1.Kind) ((Cmd.get_Kind gh0).off (by rfl))) ?_
  refine Lst.r (Ev.eql rfl rfl) ?_
  refine mv0 rfl ?_
  obtain ⟨o61, H, HKo61⟩ := bind_some H
  refine Lst.join (σ := Bool) 6 (fun y62 => [(3, Str.v a3), (4, Str.v a4), (19, pv b47 0), (20, iv r43.2), (21, pv b53 0), (22, iv r49.2), (23, .bool true), (107, .bool y62)]) (fun y62 => (.blk b53 (enc r49.1) 26) :: (.blk b47 (enc r43.1) 26) :: (.blk b25 (enc r21.1) 23) :: (.blk b19 (enc r15.1) 23) :: (.blk b13 (enc r9.1) 26) :: (.blk b7 (enc r3.1) 26) :: (.blk b1 (enc a1) 23) :: L) (fun _ y62 => y62 = o61) ?_ ?_
  ·rcases (Bool.eq_false_or_eq_true (r43.1.Kind == (4 : Int))).symm with hb63 | hb63
   ·replace H := ite_f hb63 H
    refine Lst.skip rfl rfl rfl hb63 rfl (by decide) ?_
    refine Lst.skip rfl rfl rfl hb63 rfl (by decide) ?_
    refine Lst.skip rfl rfl rfl hb63 rfl (by decide) ?_
    refine Lst.skip rfl rfl rfl hb63 rfl (by decide) ?_
    refine Lst.skip rfl rfl rfl hb63 rfl (by decide) ?_
    refine Lst.r (Ev.pickF rfl hb63 rfl) ?_
    refine Lst.nil ?_
    exact At.meet false fl ⟨rfl, rfl, rfl, rfl, rfl, rfl, rfl, rfl, trivial⟩ rfl (some_inj H)
   replace H := ite_t hb63 H
   refine Lst.rG hb63 (Ev.fieldAddr (off' := 2) rfl Tryd.runUnderlying26 rfl Tryd.sizeOf3 rfl rfl) ?_
   refine Lst.rG hb63 (Ev.load (i := 1) rfl rfl Tryd.isAgg3 (v := iv r43.1.N) ((Cmd.get_N gh0).off (by rfl))) ?_
   refine Lst.rG hb63 (Ev.fieldAddr (off' := 1) rfl Tryd.runUnderlying26 rfl Tryd.sizeOf3 rfl rfl) ?_
   refine Lst.rG hb63 (Ev.load (i := 1) rfl rfl Tryd.isAgg3 (v := iv r43.1.Key) ((Cmd.get_Key gh0).off (by rfl))) ?_
   refine Lst.rG hb63 (Ev.eql rfl rfl) ?_
   refine Lst.r (Ev.pickT rfl hb63 rfl) ?_
   refine Lst.nil ?_
   exact At.meet (r43.1.N == r43.1.Key) fl ⟨rfl, rfl, rfl, rfl, rfl, rfl, rfl, rfl, trivial⟩ rfl (some_inj H)
  rintro F64 y62 hF65 hy
  subst hy
  refine Lst.as (e' := [(3, Str.v a3), (4, Str.v a4), (19, pv b47 0), (20, iv r43.2), (21, pv b53 0), (22, iv r49.2), (23, .bool true), (107, .bool y62)]) (L' := (.blk b53 (enc r49.1) 26) :: (.blk b47 (enc r43.1) 26) :: (.blk b25 (enc r21.1) 23) :: (.blk b19 (enc r15.1) 23) :: (.blk b13 (enc r9.1) 26) :: (.blk b7 (enc r3.1) 26) :: (.blk b1 (enc a1) 23) :: L) ⟨rfl, rfl, rfl, rfl, rfl, rfl, rfl, rfl, trivial⟩ rfl ?_
  replace H := HKo61
  refine mv0 rfl ?_
  rcases Bool.eq_false_or_eq_true y62 with hb66 | hb66
  ·replace H := ite_t hb66 H
   refine Lst.skip rfl rfl rfl hb66 rfl (by decide) ?_
   refine Lst.skip rfl rfl rfl hb66 rfl (by decide) ?_
   refine Lst.skip rfl rfl rfl hb66 rfl (by decide) ?_
   refine Lst.skip rfl rfl rfl hb66 rfl (by decide) ?_
   refine Lst.skipU rfl rfl rfl rfl (by decide) ?_
   refine Lst.skipU rfl rfl rfl rfl (by decide) ?_
   refine Lst.skipU rfl rfl rfl rfl (by decide) ?_
   refine Lst.skipU rfl rfl rfl rfl (by decide) ?_
   refine Lst.skipU rfl rfl rfl rfl (by decide) ?_
   refine Lst.skip rfl rfl rfl hb66 rfl (by decide) ?_
   refine Lst.r (Ev.pickT rfl hb66 rfl) ?_
   refine Lst.r (Ev.assign rfl) ?_
   refine nsr ?_
   refine Lst.r (Ev.fieldAddr (off' := 1) rfl Tryd.runUnderlying26 rfl Tryd.sizeOf3 rfl rfl) ?_
   refine Lst.r (Ev.load (i := 1) rfl rfl Tryd.isAgg3 (v := iv r43.1.Key) ((Cmd.get_Key gh0).off (by rfl))) ?_
   refine Lst.r (Ev.fieldAddr (off' := 1) rfl Tryd.runUnderlying26 rfl Tryd.sizeOf3 rfl rfl) ?_
   refine Lst.r (Ev.load (i := 0) rfl rfl Tryd.isAgg3 (v := iv r49.1.Key) ((Cmd.get_Key gh0).off (by rfl))) ?_
   refine Lst.r (Ev.neq rfl rfl) ?_
   refine mv0 rfl ?_
   rcases Bool.eq_false_or_eq_true (r43.1.Key != r49.1.Key) with hb67 | hb67
   ·replace H := ite_t hb67 H
    refine Lst.skip rfl rfl rfl hb67 rfl (by decide) ?_
    refine Lst.skip rfl rfl rfl hb67 rfl (by decide) ?_
    refine Lst.skip rfl rfl rfl hb67 rfl (by decide) ?_
    refine Lst.skip rfl rfl rfl hb67 rfl (by decide) ?_
    refine Lst.skipU rfl rfl rfl rfl (by decide) ?_
    refine Lst.skipU rfl rfl rfl rfl (by decide) ?_
    refine Lst.skipU rfl rfl rfl rfl (by decide) ?_
    refine Lst.skip rfl rfl rfl hb67 rfl (by decide) ?_
    refine Lst.r (Ev.pickT rfl hb67 rfl) ?_
    refine Lst.r (Ev.assign rfl) ?_
    refine nt0 ?_
    obtain ⟨o68, H, HKo68⟩ := bind_some H
    refine Cd.join (σ := Unit) (fun (_ : Unit) => [(3, Str.v a3), (4, Str.v a4), (19, pv b47 0), (20, iv r43.2), (21, pv b53 0), (22, iv r49.2), (25, .bool true)]) (fun (_ : Unit) => (.blk b53 (enc r49.1) 26) :: (.blk b47 (enc r43.1) 26) :: (.blk b25 (enc r21.1) 23) :: (.blk b19 (enc r15.1) 23) :: (.blk b13 (enc r9.1) 26) :: (.blk b7 (enc r3.1) 26) :: (.blk b1 (enc a1) 23) :: L) (fun _ (_ : Unit) => () = o68) ?_ ?_
    ·refine Cd.seq ?_
     refine Cd.as (e' := [(3, Str.v a3), (4, Str.v a4), (19, pv b47 0), (20, iv r43.2), (21, pv b53 0), (22, iv r49.2), (23, .bool true), (24, .bool true), (25, .bool true)]) (L' := (.blk b53 (enc r49.1) 26) :: (.blk b47 (enc r43.1) 26) :: (.blk b25 (enc r21.1) 23) :: (.blk b19 (enc r15.1) 23) :: (.blk b13 (enc r9.1) 26) :: (.blk b7 (enc r3.1) 26) :: (.blk b1 (enc a1) 23) :: L) ⟨rfl, rfl, rfl, rfl, rfl, rfl, rfl, rfl, rfl, trivial⟩ rfl ?_
     refine Cd.region ?_
     refine mv0 rfl ?_
     refine nt0 ?_
     refine Cd.condT rfl rfl ?_
     refine Cd.region ?_
     refine mv0 rfl ?_
     refine Lst.r (Ev.assign rfl) ?_
     refine Lst.nil ?_
     exact At.meet () fl ⟨rfl, rfl, rfl, rfl, rfl, rfl, rfl, trivial⟩ rfl (some_inj H)
    rintro F69 _u hF70 hy
    subst hy
    refine Cd.as (e' := [(3, Str.v a3), (4, Str.v a4), (19, pv b47 0), (20, iv r43.2), (21, pv b53 0), (22, iv r49.2), (25, .bool true)]) (L' := (.blk b53 (enc r49.1) 26) :: (.blk b47 (enc r43.1) 26) :: (.blk b25 (enc r21.1) 23) :: (.blk b19 (enc r15.1) 23) :: (.blk b13 (enc r9.1) 26) :: (.blk b7 (enc r3.1) 26) :: (.blk b1 (enc a1) 23) :: L) ⟨rfl, rfl, rfl, rfl, rfl, rfl, rfl, trivial⟩ rfl ?_
    replace H := HKo68
    refine sr0 ?_
    refine mv0 rfl ?_
    refine mv0 rfl ?_
    obtain ⟨r71, h72, H⟩ := bind_some H
    refine Lst.call1 rfl rfl (by decide) (vs := [Str.v a3, Str.v a4]) ⟨rfl, rfl, trivial⟩ Tryd.call8 (same_Swaps_sim h72 w0 _ M _ (sc4 (sc2 (sc1 hM)))) ?_
    refine mv0 rfl ?_
    refine Lst.r (Ev.neq rfl rfl) ?_
    refine mv0 rfl ?_
    obtain ⟨o75, H, HKo75⟩ := bind_some H
    refine Lst.join (σ := Bool) 3 (fun y76 => [(19, pv b47 0), (21, pv b53 0), (25, .bool true), (139, .bool r71), (145, .bool y76)]) (fun y76 => (.blk b53 (enc r49.1) 26) :: (.blk b47 (enc r43.1) 26) :: (.blk b25 (enc r21.1) 23) :: (.blk b19 (enc r15.1) 23) :: (.blk b13 (enc r9.1) 26) :: (.blk b7 (enc r3.1) 26) :: (.blk b1 (enc a1) 23) :: L) (fun _ y76 => y76 = o75) ?_ ?_
    ·rcases Bool.eq_false_or_eq_true (r43.2 != (0 : Int)) with hb77 | hb77
     ·replace H := ite_t hb77 H
      refine Lst.skip rfl rfl rfl hb77 rfl (by decide) ?_
      refine Lst.skip rfl rfl rfl hb77 rfl (by decide) ?_
      refine Lst.r (Ev.pickT rfl hb77 rfl) ?_
      refine Lst.nil ?_
      exact At.meet true fl ⟨rfl, rfl, rfl, rfl, rfl, trivial⟩ rfl (some_inj H)
     replace H := ite_f hb77 H
     refine Lst.rG hb77 (Ev.move rfl) ?_
     refine Lst.rG hb77 (Ev.neq rfl rfl) ?_
     refine Lst.r (Ev.pickF rfl hb77 rfl) ?_
     refine Lst.nil ?_
     exact At.meet (r49.2 != (0 : Int)) fl ⟨rfl, rfl, rfl, rfl, rfl, trivial⟩ rfl (some_inj H)
    rintro F78 y76 hF79 hy
    subst hy
    refine Lst.as (e' := [(19, pv b47 0), (21, pv b53 0), (25, .bool true), (139, .bool r71), (145, .bool y76)]) (L' := (.blk b53 (enc r49.1) 26) :: (.blk b47 (enc r43.1) 26) :: (.blk b25 (enc r21.1) 23) :: (.blk b19 (enc r15.1) 23) :: (.blk b13 (enc r9.1) 26) :: (.blk b7 (enc r3.1) 26) :: (.blk b1 (enc a1) 23) :: L) ⟨rfl, rfl, rfl, rfl, rfl, trivial⟩ rfl ?_
    replace H := HKo75
    refine mv0 rfl ?_
    obtain ⟨o80, H, HKo80⟩ := bind_some H
    refine Lst.join (σ := Bool) 4 (fun y81 => [(25, .bool true), (139, .bool r71), (150, .bool y81)]) (fun y81 => (.blk b53 (enc r49.1) 26) :: (.blk b47 (enc r43.1) 26) :: (.blk b25 (enc r21.1) 23) :: (.blk b19 (enc r15.1) 23) :: (.blk b13 (enc r9.1) 26) :: (.blk b7 (enc r3.1) 26) :: (.blk b1 (enc a1) 23) :: L) (fun _ y81 => y81 = o80) ?_ ?_
    ·rcases Bool.eq_false_or_eq_true y76 with hb82 | hb82
     ·replace H := ite_t hb82 H
      refine Lst.skip rfl rfl rfl hb82 rfl (by decide) ?_
      refine Lst.skip rfl rfl rfl hb82 rfl (by decide) ?_
      refine Lst.skip rfl rfl rfl hb82 rfl (by decide) ?_
      refine Lst.r (Ev.pickT rfl hb82 rfl) ?_
      refine Lst.nil ?_
      exact At.meet true fl ⟨rfl, rfl, rfl, trivial⟩ rfl (some_inj H)
     replace H := ite_f hb82 H
     refine Lst.rG hb82 (Ev.loadA (i := 1) rfl rfl Tryd.isAgg26 Tryd.sizeOf26 (ch := enc r43.1) (Enc.len _) gh0) ?_
     refine Lst.rG hb82 (Ev.loadA (i := 0) rfl rfl Tryd.isAgg26 Tryd.sizeOf26 (ch := enc r49.1) (Enc.len _) gh0) ?_
     refine Lst.rG hb82 (Ev.eqlA rfl rfl (by kernel_rfl) (eq26 _ _)) ?_
     refine Lst.r (Ev.pickF rfl hb82 rfl) ?_
     refine Lst.nil ?_
     exact At.meet (decide (r43.1 = r49.1)) fl ⟨rfl, rfl, rfl, trivial⟩ rfl (some_inj H)
    rintro F83 y81 hF84 hy
    subst hy
    refine Lst.as (e' := [(25, .bool true), (139, .bool r71), (150, .bool y81)]) (L' := (.blk b53 (enc r49.1) 26) :: (.blk b47 (enc r43.1) 26) :: (.blk b25 (enc r21.1) 23) :: (.blk b19 (enc r15.1) 23) :: (.blk b13 (enc r9.1) 26) :: (.blk b7 (enc r3.1) 26) :: (.blk b1 (enc a1) 23) :: L) ⟨rfl, rfl, rfl, trivial⟩ rfl ?_
    replace H := HKo80
    refine mv0 rfl ?_
    obtain ⟨o85, H, HKo85⟩ := bind_some H
    refine Lst.join (σ := Bool) 2 (fun y86 => [(139, .bool r71), (153, .bool y86)]) (fun y86 => (.blk b53 (enc r49.1) 26) :: (.blk b47 (enc r43.1) 26) :: (.blk b25 (enc r21.1) 23) :: (.blk b19 (enc r15.1) 23) :: (.blk b13 (enc r9.1) 26) :: (.blk b7 (enc r3.1) 26) :: (.blk b1 (enc a1) 23) :: L) (fun _ y86 => y86 = o85) ?_ ?_
    ·rcases Bool.eq_false_or_eq_true y81 with hb87 | hb87
     ·replace H := ite_t hb87 H
      refine Lst.skip rfl rfl rfl hb87 rfl (by decide) ?_
      refine Lst.r (Ev.pickT rfl hb87 rfl) ?_
      refine Lst.nil ?_
      exact At.meet true fl ⟨rfl, rfl, trivial⟩ rfl (some_inj H)
     replace H := ite_f hb87 H
     refine Lst.rG hb87 (Ev.move rfl) ?_
     refine Lst.r (Ev.pickF rfl hb87 rfl) ?_
     refine Lst.nil ?_
     exact At.meet true fl ⟨rfl, rfl, trivial⟩ rfl (some_inj H)
    rintro F88 y86 hF89 hy
    subst hy
    refine Lst.as (e' := [(139, .bool r71), (153, .bool y86)]) (L' := (.blk b53 (enc r49.1) 26) :: (.blk b47 (enc r43.1) 26) :: (.blk b25 (enc r21.1) 23) :: (.blk b19 (enc r15.1) 23) :: (.blk b13 (enc r9.1) 26) :: (.blk b7 (enc r3.1) 26) :: (.blk b1 (enc a1) 23) :: L) ⟨rfl, rfl, trivial⟩ rfl ?_
    replace H := HKo85
    refine Lst.r (Ev.eqlB rfl rfl Tryd.runUnderlying4) ?_
    refine Lst.r (Ev.assign rfl) ?_
    refine nt0 ?_
    obtain rfl := some_inj H
    refine Cd.ret ?_
    exact At.ret1 rfl (Res.tmp rfl) (FLe.trans (FLe.trans (FLe.trans (FLe.trans (FLe.trans (FLe.trans (FLe.trans (FLe.trans hF31 hF36) hF41) hF59) hF65) hF70) hF79) hF84) hF89) (sc1 (sc1 (sc1 (sc1 (sc1 (sc1 (sc1 (.refl _)))))))) ⟨rfl, rfl⟩
   replace H := ite_f hb67 H
   refine Lst.rG hb67 (Ev.fieldAddr (off' := 0) rfl Tryd.runUnderlying26 rfl Tryd.sizeOf3 rfl rfl) ?_
   refine Lst.rG hb67 (Ev.load (i := 1) rfl rfl Tryd.isAgg3 (v := iv r43.1.Kind) ((Cmd.get_Kind gh0).off (by rfl))) ?_
   refine Lst.rG hb67 (Ev.eql rfl rfl) ?_
   refine Lst.rG hb67 (Ev.move rfl) ?_
   obtain ⟨o90, H, HKo90⟩ := bind_some H
   refine Lst.join (σ := Bool) 4 (fun y91 => [(3, Str.v a3), (4, Str.v a4), (19, pv b47 0), (20, iv r43.2), (21, pv b53 0), (22, iv r49.2), (23, .bool true), (24, .bool true), (125, .bool (r43.1.Key != r49.1.Key)), (133, .bool y91)]) (fun y91 => (.blk b53 (enc r49.1) 26) :: (.blk b47 (enc r43.1) 26) :: (.blk b25 (enc r21.1) 23) :: (.blk b19 (enc r15.1) 23) :: (.blk b13 (enc r9.1) 26) :: (.blk b7 (enc r3.1) 26) :: (.blk b1 (enc a1) 23) :: L) (fun _ y91 => y91 = o90) ?_ ?_
   ·rcases (Bool.eq_false_or_eq_true (r43.1.Kind == (3 : Int))).symm with hb92 | hb92
    ·replace H := ite_f hb92 H
     refine Lst.skip rfl rfl rfl hb92 rfl (by decide) ?_
     refine Lst.skip rfl rfl rfl hb92 rfl (by decide) ?_
     refine Lst.skip rfl rfl rfl hb92 rfl (by decide) ?_
     refine Lst.rG hb67 (Ev.pickF rfl hb92 rfl) ?_
     refine Lst.nil ?_
     exact At.meet false fl ⟨rfl, rfl, rfl, rfl, rfl, rfl, rfl, rfl, rfl, rfl, trivial⟩ rfl (some_inj H)
    replace H := ite_t hb92 H
    refine Lst.rG hb92 (Ev.fieldAddr (off' := 0) rfl Tryd.runUnderlying26 rfl Tryd.sizeOf3 rfl rfl) ?_
    refine Lst.rG hb92 (Ev.load (i := 0) rfl rfl Tryd.isAgg3 (v := iv r49.1.Kind) ((Cmd.get_Kind gh0).off (by rfl))) ?_
    refine Lst.rG hb92 (Ev.eql rfl rfl) ?_
    refine Lst.rG hb67 (Ev.pickT rfl hb92 rfl) ?_
    refine Lst.nil ?_
    exact At.meet (r49.1.Kind == (3 : Int)) fl ⟨rfl, rfl, rfl, rfl, rfl, rfl, rfl, rfl, rfl, rfl, trivial⟩ rfl (some_inj H)
   rintro F93 y91 hF94 hy
   subst hy
   refine Lst.as (e' := [(3, Str.v a3), (4, Str.v a4), (19, pv b47 0), (20, iv r43.2), (21, pv b53 0), (22, iv r49.2), (23, .bool true), (24, .bool true), (125, .bool (r43.1.Key != r49.1.Key)), (133, .bool y91)]) (L' := (.blk b53 (enc r49.1) 26) :: (.blk b47 (enc r43.1) 26) :: (.blk b25 (enc r21.1) 23) :: (.blk b19 (enc r15.1) 23) :: (.blk b13 (enc r9.1) 26) :: (.blk b7 (enc r3.1) 26) :: (.blk b1 (enc a1) 23) :: L) ⟨rfl, rfl, rfl, rfl, rfl, rfl, rfl, rfl, rfl, rfl, trivial⟩ rfl ?_
   replace H := HKo90
   refine Lst.r (Ev.pickF rfl hb67 rfl) ?_
   refine Lst.r (Ev.assign rfl) ?_
   refine nt0 ?_
   obtain ⟨o96, H, HKo96⟩ := bind_some H
   refine Cd.join (σ := Bool) (fun y95 => [(3, Str.v a3), (4, Str.v a4), (19, pv b47 0), (20, iv r43.2), (21, pv b53 0), (22, iv r49.2), (25, .bool y95)]) (fun y95 => (.blk b53 (enc r49.1) 26) :: (.blk b47 (enc r43.1) 26) :: (.blk b25 (enc r21.1) 23) :: (.blk b19 (enc r15.1) 23) :: (.blk b13 (enc r9.1) 26) :: (.blk b7 (enc r3.1) 26) :: (.blk b1 (enc a1) 23) :: L) (fun _ y95 => y95 = o96) ?_ ?_
   ·refine sr0 ?_
    refine mv0 rfl ?_
    refine nt0 ?_
    refine Cd.condT rfl rfl ?_
    refine Cd.region ?_
    refine mv0 rfl ?_
    refine Lst.r (Ev.assign rfl) ?_
    refine Lst.nil ?_
    exact At.meet true fl ⟨rfl, rfl, rfl, rfl, rfl, rfl, rfl, trivial⟩ rfl (some_inj H)
   rintro F97 y95 hF98 hy
   subst hy
   refine Cd.as (e' := [(3, Str.v a3), (4, Str.v a4), (19, pv b47 0), (20, iv r43.2), (21, pv b53 0), (22, iv r49.2), (25, .bool y95)]) (L' := (.blk b53 (enc r49.1) 26) :: (.blk b47 (enc r43.1) 26) :: (.blk b25 (enc r21.1) 23) :: (.blk b19 (enc r15.1) 23) :: (.blk b13 (enc r9.1) 26) :: (.blk b7 (enc r3.1) 26) :: (.blk b1 (enc a1) 23) :: L) ⟨rfl, rfl, rfl, rfl, rfl, rfl, rfl, trivial⟩ rfl ?_
   replace H := HKo96
   refine sr0 ?_
   refine mv0 rfl ?_
   refine mv0 rfl ?_
   obtain ⟨r99, h100, H⟩ := bind_some H
   refine Lst.call1 rfl rfl (by decide) (vs := [Str.v a3, Str.v a4]) ⟨rfl, rfl, trivial⟩ Tryd.call8 (same_Swaps_sim h100 w0 _ M _ (sc4 (sc2 (sc1 hM)))) ?_
   refine mv0 rfl ?_
   refine Lst.r (Ev.neq rfl rfl) ?_
   refine mv0 rfl ?_
   obtain ⟨o103, H, HKo103⟩ := bind_some H
   refine Lst.join (σ := Bool) 3 (fun y104 => [(19, pv b47 0), (21, pv b53 0), (25, .bool y95), (139, .bool r99), (145, .bool y104)]) (fun y104 => (.blk b53 (enc r49.1) 26) :: (.blk b47 (enc r43.1) 26) :: (.blk b25 (enc r21.1) 23) :: (.blk b19 (enc r15.1) 23) :: (.blk b13 (enc r9.1) 26) :: (.blk b7 (enc r3.1) 26) :: (.blk b1 (enc a1) 23) :: L) (fun _ y104 => y104 = o103) ?_ ?_
   ·rcases Bool.eq_false_or_eq_true (r43.2 != (0 : Int)) with hb105 | hb105
    ·replace H := ite_t hb105 H
     refine Lst.skip rfl rfl rfl hb105 rfl (by decide) ?_
     refine Lst.skip rfl rfl rfl hb105 rfl (by decide) ?_
     refine Lst.r (Ev.pickT rfl hb105 rfl) ?_
     refine Lst.nil ?_
     exact At.meet true fl ⟨rfl, rfl, rfl, rfl, rfl, trivial⟩ rfl (some_inj H)
    replace H := ite_f hb105 H
    refine Lst.rG hb105 (Ev.move rfl) ?_
    refine Lst.rG hb105 (Ev.neq rfl rfl) ?_
    refine Lst.r (Ev.pickF rfl hb105 rfl) ?_
    refine Lst.nil ?_
    exact At.meet (r49.2 != (0 : Int)) fl ⟨rfl, rfl, rfl, rfl, rfl, trivial⟩ rfl (some_inj H)
   rintro F106 y104 hF107 hy
   subst hy
   refine Lst.as (e' := [(19, pv b47 0), (21, pv b53 0), (25, .bool y95), (139, .bool r99), (145, .bool y104)]) (L' := (.blk b53 (enc r49.1) 26) :: (.blk b47 (enc r43.1) 26) :: (.blk b25 (enc r21.1) 23) :: (.blk b19 (enc r15.1) 23) :: (.blk b13 (enc r9.1) 26) :: (.blk b7 (enc r3.1) 26) :: (.blk b1 (enc a1) 23) :: L) ⟨rfl, rfl, rfl, rfl, rfl, trivial⟩ rfl ?_
   replace H := HKo103
   refine mv0 rfl ?_
   obtain ⟨o108, H, HKo108⟩ := bind_some H
   refine Lst.join (σ := Bool) 4 (fun y109 => [(25, .bool y95), (139, .bool r99), (150, .bool y109)]) (fun y109 => (.blk b53 (enc r49.1) 26) :: (.blk b47 (enc r43.1) 26) :: (.blk b25 (enc r21.1) 23) :: (.blk b19 (enc r15.1) 23) :: (.blk b13 (enc r9.1) 26) :: (.blk b7 (enc r3.1) 26) :: (.blk b1 (enc a1) 23) :: L) (fun _ y109 => y109 = o108) ?_ ?_
   ·rcases Bool.eq_false_or_eq_true y104 with hb110 | hb110
    ·replace H := ite_t hb110 H
     refine Lst.skip rfl rfl rfl hb110 rfl (by decide) ?_
     refine Lst.skip rfl rfl rfl hb110 rfl (by decide) ?_
     refine Lst.skip rfl rfl rfl hb110 rfl (by decide) ?_
     refine Lst.r (Ev.pickT rfl hb110 rfl) ?_
     refine Lst.nil ?_
     exact At.meet true fl ⟨rfl, rfl, rfl, trivial⟩ rfl (some_inj H)
    replace H := ite_f hb110 H
    refine Lst.rG hb110 (Ev.loadA (i := 1) rfl rfl Tryd.isAgg26 Tryd.sizeOf26 (ch := enc r43.1) (Enc.len _) gh0) ?_
    refine Lst.rG hb110 (Ev.loadA (i := 0) rfl rfl Tryd.isAgg26 Tryd.sizeOf26 (ch := enc r49.1) (Enc.len _) gh0) ?_
    refine Lst.rG hb110 (Ev.eqlA rfl rfl (by kernel_rfl) (eq26 _ _)) ?_
    refine Lst.r (Ev.pickF rfl hb110 rfl) ?_
    refine Lst.nil ?_
    exact At.meet (decide (r43.1 = r49.1)) fl ⟨rfl, rfl, rfl, trivial⟩ rfl (some_inj H)
   rintro F111 y109 hF112 hy
   subst hy
   refine Lst.as (e' := [(25, .bool y95), (139, .bool r99), (150, .bool y109)]) (L' := (.blk b53 (enc r49.1) 26) :: (.blk b47 (enc r43.1) 26) :: (.blk b25 (enc r21.1) 23) :: (.blk b19 (enc r15.1) 23) :: (.blk b13 (enc r9.1) 26) :: (.blk b7 (enc r3.1) 26) :: (.blk b1 (enc a1) 23) :: L) ⟨rfl, rfl, rfl, trivial⟩ rfl ?_
   replace H := HKo108
   refine mv0 rfl ?_
   obtain ⟨o113, H, HKo113⟩ := bind_some H
   refine Lst.join (σ := Bool) 2 (fun y114 => [(139, .bool r99), (153, .bool y114)]) (fun y114 => (.blk b53 (enc r49.1) 26) :: (.blk b47 (enc r43.1) 26) :: (.blk b25 (enc r21.1) 23) :: (.blk b19 (enc r15.1) 23) :: (.blk b13 (enc r9.1) 26) :: (.blk b7 (enc r3.1) 26) :: (.blk b1 (enc a1) 23) :: L) (fun _ y114 => y114 = o113) ?_ ?_
   ·rcases Bool.eq_false_or_eq_true y109 with hb115 | hb115
    ·replace H := ite_t hb115 H
     refine Lst.skip rfl rfl rfl hb115 rfl (by decide) ?_
     refine Lst.r (Ev.pickT rfl hb115 rfl) ?_
     refine Lst.nil ?_
     exact At.meet true fl ⟨rfl, rfl, trivial⟩ rfl (some_inj H)
    replace H := ite_f hb115 H
    refine Lst.rG hb115 (Ev.move rfl) ?_
    refine Lst.r (Ev.pickF rfl hb115 rfl) ?_
    refine Lst.nil ?_
    exact At.meet y95 fl ⟨rfl, rfl, trivial⟩ rfl (some_inj H)
   rintro F116 y114 hF117 hy
   subst hy
   refine Lst.as (e' := [(139, .bool r99), (153, .bool y114)]) (L' := (.blk b53 (enc r49.1) 26) :: (.blk b47 (enc r43.1) 26) :: (.blk b25 (enc r21.1) 23) :: (.blk b19 (enc r15.1) 23) :: (.blk b13 (enc r9.1) 26) :: (.blk b7 (enc r3.1) 26) :: (.blk b1 (enc a1) 23) :: L) ⟨rfl, rfl, trivial⟩ rfl ?_
   replace H := HKo113
   refine Lst.r (Ev.eqlB rfl rfl Tryd.runUnderlying4) ?_
   refine Lst.r (Ev.assign rfl) ?_
   refine nt0 ?_
   obtain rfl := some_inj H
   refine Cd.ret ?_
   exact At.ret1 rfl (Res.tmp rfl) (FLe.trans (FLe.trans (FLe.trans (FLe.trans (FLe.trans (FLe.trans (FLe.trans (FLe.trans (FLe.trans hF31 hF36) hF41) hF59) hF65) hF94) hF98) hF107) hF112) hF117) (sc1 (sc1 (sc1 (sc1 (sc1 (sc1 (sc1 (.refl _)))))))) ⟨rfl, rfl⟩
  replace H := ite_f hb66 H
  refine Lst.rG hb66 (Ev.fieldAddr (off' := 0) rfl Tryd.runUnderlying26 rfl Tryd.sizeOf3 rfl rfl) ?_
  refine Lst.rG hb66 (Ev.load (i := 0) rfl rfl Tryd.isAgg3 (v := iv r49.1.Kind) ((Cmd.get_Kind gh0).off (by rfl))) ?_
  refine Lst.rG hb66 (Ev.eql rfl rfl) ?_
  refine Lst.rG hb66 (Ev.move rfl) ?_
  obtain ⟨o118, H, HKo118⟩ := bind_some H
  refine Lst.join (σ := Bool) 6 (fun y119 => [(3, Str.v a3), (4, Str.v a4), (19, pv b47 0), (20, iv r43.2), (21, pv b53 0), (22, iv r49.2), (23, .bool true), (108, .bool y62), (118, .bool y119)]) (fun y119 => (.blk b53 (enc r49.1) 26) :: (.blk b47 (enc r43.1) 26) :: (.blk b25 (enc r21.1) 23) :: (.blk b19 (enc r15.1) 23) :: (.blk b13 (enc r9.1) 26) :: (.blk b7 (enc r3.1) 26) :: (.blk b1 (enc a1) 23) :: L) (fun _ y119 => y119 = o118) ?_ ?_
  ·rcases (Bool.eq_false_or_eq_true (r49.1.Kind == (4 : Int))).symm with hb120 | hb120
   ·replace H := ite_f hb120 H
    refine Lst.skip rfl rfl rfl hb120 rfl (by decide) ?_
    refine Lst.skip rfl rfl rfl hb120 rfl (by decide) ?_
    refine Lst.skip rfl rfl rfl hb120 rfl (by decide) ?_
    refine Lst.skip rfl rfl rfl hb120 rfl (by decide) ?_
    refine Lst.skip rfl rfl rfl hb120 rfl (by decide) ?_
    refine Lst.rG hb66 (Ev.pickF rfl hb120 rfl) ?_
    refine Lst.nil ?_
    exact At.meet false fl ⟨rfl, rfl, rfl, rfl, rfl, rfl, rfl, rfl, rfl, trivial⟩ rfl (some_inj H)
   replace H := ite_t hb120 H
   refine Lst.rG hb120 (Ev.fieldAddr (off' := 2) rfl Tryd.runUnderlying26 rfl Tryd.sizeOf3 rfl rfl) ?_
   refine Lst.rG hb120 (Ev.load (i := 0) rfl rfl Tryd.isAgg3 (v := iv r49.1.N) ((Cmd.get_N gh0).off (by rfl))) ?_
   refine Lst.rG hb120 (Ev.fieldAddr (off' := 1) rfl Tryd.runUnderlying26 rfl Tryd.sizeOf3 rfl rfl) ?_
   refine Lst.rG hb120 (Ev.load (i := 0) rfl rfl Tryd.isAgg3 (v := iv r49.1.Key) ((Cmd.get_Key gh0).off (by rfl))) ?_
   refine Lst.rG hb120 (Ev.eql rfl rfl) ?_
   refine Lst.rG hb66 (Ev.pickT rfl hb120 rfl) ?_
   refine Lst.nil ?_
   exact At.meet (r49.1.N == r49.1.Key) fl ⟨rfl, rfl, rfl, rfl, rfl, rfl, rfl, rfl, rfl, trivial⟩ rfl (some_inj H)
  rintro F121 y119 hF122 hy
  subst hy
  refine Lst.as (e' := [(3, Str.v a3), (4, Str.v a4), (19, pv b47 0), (20, iv r43.2), (21, pv b53 0), (22, iv r49.2), (23, .bool true), (108, .bool y62), (118, .bool y119)]) (L' := (.blk b53 (enc r49.1) 26) :: (.blk b47 (enc r43.1) 26) :: (.blk b25 (enc r21.1) 23) :: (.blk b19 (enc r15.1) 23) :: (.blk b13 (enc r9.1) 26) :: (.blk b7 (enc r3.1) 26) :: (.blk b1 (enc a1) 23) :: L) ⟨rfl, rfl, rfl, rfl, rfl, rfl, rfl, rfl, rfl, trivial⟩ rfl ?_
  replace H := HKo118
  refine Lst.r (Ev.pickF rfl hb66 rfl) ?_
  refine Lst.r (Ev.assign rfl) ?_
  refine nsr ?_
  refine Lst.r (Ev.fieldAddr (off' := 1) rfl Tryd.runUnderlying26 rfl Tryd.sizeOf3 rfl rfl) ?_
  refine Lst.r (Ev.load (i := 1) rfl rfl Tryd.isAgg3 (v := iv r43.1.Key) ((Cmd.get_Key gh0).off (by rfl))) ?_
  refine Lst.r (Ev.fieldAddr (off' := 1) rfl Tryd.runUnderlying26 rfl Tryd.sizeOf3 rfl rfl) ?_
  refine Lst.r (Ev.load (i := 0) rfl rfl Tryd.isAgg3 (v := iv r49.1.Key) ((Cmd.get_Key gh0).off (by rfl))) ?_
  refine Lst.r (Ev.neq rfl rfl) ?_
  refine mv0 rfl ?_
  rcases Bool.eq_false_or_eq_true (r43.1.Key != r49.1.Key) with hb123 | hb123
  ·replace H := ite_t hb123 H
   refine Lst.skip rfl rfl rfl hb123 rfl (by decide) ?_
   refine Lst.skip rfl rfl rfl hb123 rfl (by decide) ?_
   refine Lst.skip rfl rfl rfl hb123 rfl (by decide) ?_
   refine Lst.skip rfl rfl rfl hb123 rfl (by decide) ?_
   refine Lst.skipU rfl rfl rfl rfl (by decide) ?_
   refine Lst.skipU rfl rfl rfl rfl (by decide) ?_
   refine Lst.skipU rfl rfl rfl rfl (by decide) ?_
   refine Lst.skip rfl rfl rfl hb123 rfl (by decide) ?_
   refine Lst.r (Ev.pickT rfl hb123 rfl) ?_
   refine Lst.r (Ev.assign rfl) ?_
   refine nt0 ?_
   obtain ⟨o125, H, HKo125⟩ := bind_some H
   refine Cd.join (σ := Bool) (fun y124 => [(3, Str.v a3), (4, Str.v a4), (19, pv b47 0), (20, iv r43.2), (21, pv b53 0), (22, iv r49.2), (25, .bool y124)]) (fun y124 => (.blk b53 (enc r49.1) 26) :: (.blk b47 (enc r43.1) 26) :: (.blk b25 (enc r21.1) 23) :: (.blk b19 (enc r15.1) 23) :: (.blk b13 (enc r9.1) 26) :: (.blk b7 (enc r3.1) 26) :: (.blk b1 (enc a1) 23) :: L) (fun _ y124 => y124 = o125) ?_ ?_
   ·refine Cd.seq ?_
    refine Cd.as (e' := [(3, Str.v a3), (4, Str.v a4), (19, pv b47 0), (20, iv r43.2), (21, pv b53 0), (22, iv r49.2), (23, .bool true), (24, .bool y119), (25, .bool true)]) (L' := (.blk b53 (enc r49.1) 26) :: (.blk b47 (enc r43.1) 26) :: (.blk b25 (enc r21.1) 23) :: (.blk b19 (enc r15.1) 23) :: (.blk b13 (enc r9.1) 26) :: (.blk b7 (enc r3.1) 26) :: (.blk b1 (enc a1) 23) :: L) ⟨rfl, rfl, rfl, rfl, rfl, rfl, rfl, rfl, rfl, trivial⟩ rfl ?_
    refine Cd.region ?_
    refine mv0 rfl ?_
    refine nt0 ?_
    refine Cd.condT rfl rfl ?_
    refine Cd.region ?_
    refine mv0 rfl ?_
    refine Lst.r (Ev.assign rfl) ?_
    refine Lst.nil ?_
    exact At.meet y119 fl ⟨rfl, rfl, rfl, rfl, rfl, rfl, rfl, trivial⟩ rfl (some_inj H)
   rintro F126 y124 hF127 hy
   subst hy
   refine Cd.as (e' := [(3, Str.v a3), (4, Str.v a4), (19, pv b47 0), (20, iv r43.2), (21, pv b53 0), (22, iv r49.2), (25, .bool y124)]) (L' := (.blk b53 (enc r49.1) 26) :: (.blk b47 (enc r43.1) 26) :: (.blk b25 (enc r21.1) 23) :: (.blk b19 (enc r15.1) 23) :: (.blk b13 (enc r9.1) 26) :: (.blk b7 (enc r3.1) 26) :: (.blk b1 (enc a1) 23) :: L) ⟨rfl, rfl, rfl, rfl, rfl, rfl, rfl, trivial⟩ rfl ?_
   replace H := HKo125
   refine sr0 ?_
   refine mv0 rfl ?_
   refine mv0 rfl ?_
   obtain ⟨r128, h129, H⟩ := bind_some H
   refine Lst.call1 rfl rfl (by decide) (vs := [Str.v a3, Str.v a4]) ⟨rfl, rfl, trivial⟩ Tryd.call8 (same_Swaps_sim h129 w0 _ M _ (sc4 (sc2 (sc1 hM)))) ?_
   refine mv0 rfl ?_
   refine Lst.r (Ev.neq rfl rfl) ?_
   refine mv0 rfl ?_
   obtain ⟨o132, H, HKo132⟩ := bind_some H
   refine Lst.join (σ := Bool) 3 (fun y133 => [(19, pv b47 0), (21, pv b53 0), (25, .bool y124), (139, .bool r128), (145, .bool y133)]) (fun y133 => (.blk b53 (enc r49.1) 26) :: (.blk b47 (enc r43.1) 26) :: (.blk b25 (enc r21.1) 23) :: (.blk b19 (enc r15.1) 23) :: (.blk b13 (enc r9.1) 26) :: (.blk b7 (enc r3.1) 26) :: (.blk b1 (enc a1) 23) :: L) (fun _ y133 => y133 = o132) ?_ ?_
   ·rcases Bool.eq_false_or_eq_true (r43.2 != (0 : Int)) with hb134 | hb134
    ·replace H := ite_t hb134 H
     refine Lst.skip rfl rfl rfl hb134 rfl (by decide) ?_
     refine Lst.skip rfl rfl rfl hb134 rfl (by decide) ?_
     refine Lst.r (Ev.pickT rfl hb134 rfl) ?_
     refine Lst.nil ?_
     exact At.meet true fl ⟨rfl, rfl, rfl, rfl, rfl, trivial⟩ rfl (some_inj H)
    replace H := ite_f hb134 H
    refine Lst.rG hb134 (Ev.move rfl) ?_
    refine Lst.rG hb134 (Ev.neq rfl rfl) ?_
    refine Lst.r (Ev.pickF rfl hb134 rfl) ?_
    refine Lst.nil ?_
    exact At.meet (r49.2 != (0 : Int)) fl ⟨rfl, rfl, rfl, rfl, rfl, trivial⟩ rfl (some_inj H)
   rintro F135 y133 hF136 hy
   subst hy
   refine Lst.as (e' := [(19, pv b47 0), (21, pv b53 0), (25, .bool y124), (139, .bool r128), (145, .bool y133)]) (L' := (.blk b53 (enc r49.1) 26) :: (.blk b47 (enc r43.1) 26) :: (.blk b25 (enc r21.1) 23) :: (.blk b19 (enc r15.1) 23) :: (.blk b13 (enc r9.1) 26) :: (.blk b7 (enc r3.1) 26) :: (.blk b1 (enc a1) 23) :: L) ⟨rfl, rfl, rfl, rfl, rfl, trivial⟩ rfl ?_
   replace H := HKo132
   refine mv0 rfl ?_
   obtain ⟨o137, H, HKo137⟩ := bind_some H
   refine Lst.join (σ := Bool) 4 (fun y138 => [(25, .bool y124), (139, .bool r128), (150, .bool y138)]) (fun y138 => (.blk b53 (enc r49.1) 26) :: (.blk b47 (enc r43.1) 26) :: (.blk b25 (enc r21.1) 23) :: (.blk b19 (enc r15.1) 23) :: (.blk b13 (enc r9.1) 26) :: (.blk b7 (enc r3.1) 26) :: (.blk b1 (enc a1) 23) :: L) (fun _ y138 => y138 = o137) ?_ ?_
   ·rcases Bool.eq_false_or_eq_true y133 with hb139 | hb139
    ·replace H := ite_t hb139 H
     refine Lst.skip rfl rfl rfl hb139 rfl (by decide) ?_
     refine Lst.skip rfl rfl rfl hb139 rfl (by decide) ?_
     refine Lst.skip rfl rfl rfl hb139 rfl (by decide) ?_
     refine Lst.r (Ev.pickT rfl hb139 rfl) ?_
     refine Lst.nil ?_
     exact At.meet true fl ⟨rfl, rfl, rfl, trivial⟩ rfl (some_inj H)
    replace H := ite_f hb139 H
    refine Lst.rG hb139 (Ev.loadA (i := 1) rfl rfl Tryd.isAgg26 Tryd.sizeOf26 (ch := enc r43.1) (Enc.len _) gh0) ?_
    refine Lst.rG hb139 (Ev.loadA (i := 0) rfl rfl Tryd.isAgg26 Tryd.sizeOf26 (ch := enc r49.1) (Enc.len _) gh0) ?_
    refine Lst.rG hb139 (Ev.eqlA rfl rfl (by kernel_rfl) (eq26 _ _)) ?_
    refine Lst.r (Ev.pickF rfl hb139 rfl) ?_
    refine Lst.nil ?_
    exact At.meet (decide (r43.1 = r49.1)) fl ⟨rfl, rfl, rfl, trivial⟩ rfl (some_inj H)
   rintro F140 y138 hF141 hy
   subst hy
   refine Lst.as (e' := [(25, .bool y124), (139, .bool r128), (150, .bool y138)]) (L' := (.blk b53 (enc r49.1) 26) :: (.blk b47 (enc r43.1) 26) :: (.blk b25 (enc r21.1) 23) :: (.blk b19 (enc r15.1) 23) :: (.blk b13 (enc r9.1) 26) :: (.blk b7 (enc r3.1) 26) :: (.blk b1 (enc a1) 23) :: L) ⟨rfl, rfl, rfl, trivial⟩ rfl ?_
   replace H := HKo137
   refine mv0 rfl ?_
   obtain ⟨o142, H, HKo142⟩ := bind_some H
   refine Lst.join (σ := Bool) 2 (fun y143 => [(139, .bool r128), (153, .bool y143)]) (fun y143 => (.blk b53 (enc r49.1) 26) :: (.blk b47 (enc r43.1) 26) :: (.blk b25 (enc r21.1) 23) :: (.blk b19 (enc r15.1) 23) :: (.blk b13 (enc r9.1) 26) :: (.blk b7 (enc r3.1) 26) :: (.blk b1 (enc a1) 23) :: L) (fun _ y143 => y143 = o142) ?_ ?_
   ·rcases Bool.eq_false_or_eq_true y138 with hb144 | hb144
    ·replace H := ite_t hb144 H
     refine Lst.skip rfl rfl rfl hb144 rfl (by decide) ?_
     refine Lst.r (Ev.pickT rfl hb144 rfl) ?_
     refine Lst.nil ?_
     exact At.meet true fl ⟨rfl, rfl, trivial⟩ rfl (some_inj H)
    replace H := ite_f hb144 H
    refine Lst.rG hb144 (Ev.move rfl) ?_
    refine Lst.r (Ev.pickF rfl hb144 rfl) ?_
    refine Lst.nil ?_
    exact At.meet y124 fl ⟨rfl, rfl, trivial⟩ rfl (some_inj H)
   rintro F145 y143 hF146 hy
   subst hy
   refine Lst.as (e' := [(139, .bool r128), (153, .bool y143)]) (L' := (.blk b53 (enc r49.1) 26) :: (.blk b47 (enc r43.1) 26) :: (.blk b25 (enc r21.1) 23) :: (.blk b19 (enc r15.1) 23) :: (.blk b13 (enc r9.1) 26) :: (.blk b7 (enc r3.1) 26) :: (.blk b1 (enc a1) 23) :: L) ⟨rfl, rfl, trivial⟩ rfl ?_
   replace H := HKo142
   refine Lst.r (Ev.eqlB rfl rfl Tryd.runUnderlying4) ?_
   refine Lst.r (Ev.assign rfl) ?_
   refine nt0 ?_
   obtain rfl := some_inj H
   refine Cd.ret ?_
   exact At.ret1 rfl (Res.tmp rfl) (FLe.trans (FLe.trans (FLe.trans (FLe.trans (FLe.trans (FLe.trans (FLe.trans (FLe.trans (FLe.trans hF31 hF36) hF41) hF59) hF65) hF122) hF127) hF136) hF141) hF146) (sc1 (sc1 (sc1 (sc1 (sc1 (sc1 (sc1 (.refl _)))))))) ⟨rfl, rfl⟩
  replace H := ite_f hb123 H
  refine Lst.rG hb123 (Ev.fieldAddr (off' := 0) rfl Tryd.runUnderlying26 rfl Tryd.sizeOf3 rfl rfl) ?_
  refine Lst.rG hb123 (Ev.load (i := 1) rfl rfl Tryd.isAgg3 (v := iv r43.1.Kind) ((Cmd.get_Kind gh0).off (by rfl))) ?_
  refine Lst.rG hb123 (Ev.eql rfl rfl) ?_
  refine Lst.rG hb123 (Ev.move rfl) ?_
  obtain ⟨o147, H, HKo147⟩ := bind_some H
  refine Lst.join (σ := Bool) 4 (fun y148 => [(3, Str.v a3), (4, Str.v a4), (19, pv b47 0), (20, iv r43.2), (21, pv b53 0), (22, iv r49.2), (23, .bool true), (24, .bool y119), (125, .bool (r43.1.Key != r49.1.Key)), (133, .bool y148)]) (fun y148 => (.blk b53 (enc r49.1) 26) :: (.blk b47 (enc r43.1) 26) :: (.blk b25 (enc r21.1) 23) :: (.blk b19 (enc r15.1) 23) :: (.blk b13 (enc r9.1) 26) :: (.blk b7 (enc r3.1) 26) :: (.blk b1 (enc a1) 23) :: L) (fun _ y148 => y148 = o147) ?_ ?_
  ·rcases (Bool.eq_false_or_eq_true (r43.1.Kind == (3 : Int))).symm with hb149 | hb149
   ·replace H := ite_f hb149 H
    refine Lst.skip rfl rfl rfl hb149 rfl (by decide) ?_
    refine Lst.skip rfl rfl rfl hb149 rfl (by decide) ?_
    refine Lst.skip rfl rfl rfl hb149 rfl (by decide) ?_
    refine Lst.rG hb123 (Ev.pickF rfl hb149 rfl) ?_
    refine Lst.nil ?_
    exact At.meet false fl ⟨rfl, rfl, rfl, rfl, rfl, rfl, rfl, rfl, rfl, rfl, trivial⟩ rfl (some_inj H)
   replace H := ite_t hb149 H
   refine Lst.rG hb149 (Ev.fieldAddr (off' := 0) rfl Tryd.runUnderlying26 rfl Tryd.sizeOf3 rfl rfl) ?_
   refine Lst.rG hb149 (Ev.load (i := 0) rfl rfl Tryd.isAgg3 (v := iv r49.1.Kind) ((Cmd.get_Kind gh0).off (by rfl))) ?_
   refine Lst.rG hb149 (Ev.eql rfl rfl) ?_
   refine Lst.rG hb123 (Ev.pickT rfl hb149 rfl) ?_
   refine Lst.nil ?_
   exact At.meet (r49.1.Kind == (3 : Int)) fl ⟨rfl, rfl, rfl, rfl, rfl, rfl, rfl, rfl, rfl, rfl, trivial⟩ rfl (some_inj H)
  rintro F150 y148 hF151 hy
  subst hy
  refine Lst.as (e' := [(3, Str.v a3), (4, Str.v a4), (19, pv b47 0), (20, iv r43.2), (21, pv b53 0), (22, iv r49.2), (23, .bool true), (24, .bool y119), (125, .bool (r43.1.Key != r49.1.Key)), (133, .bool y148)]) (L' := (.blk b53 (enc r49.1) 26) :: (.blk b47 (enc r43.1) 26) :: (.blk b25 (enc r21.1) 23) :: (.blk b19 (enc r15.1) 23) :: (.blk b13 (enc r9.1) 26) :: (.blk b7 (enc r3.1) 26) :: (.blk b1 (enc a1) 23) :: L) ⟨rfl, rfl, rfl, rfl, rfl, rfl, rfl, rfl, rfl, rfl, trivial⟩ rfl ?_
  replace H := HKo147
  refine Lst.r (Ev.pickF rfl hb123 rfl) ?_
  refine Lst.r (Ev.assign rfl) ?_
  refine nt0 ?_
  obtain ⟨o153, H, HKo153⟩ := bind_some H
  refine Cd.join (σ := Bool) (fun y152 => [(3, Str.v a3), (4, Str.v a4), (19, pv b47 0), (20, iv r43.2), (21, pv b53 0), (22, iv r49.2), (25, .bool y152)]) (fun y152 => (.blk b53 (enc r49.1) 26) :: (.blk b47 (enc r43.1) 26) :: (.blk b25 (enc r21.1) 23) :: (.blk b19 (enc r15.1) 23) :: (.blk b13 (enc r9.1) 26) :: (.blk b7 (enc r3.1) 26) :: (.blk b1 (enc a1) 23) :: L) (fun _ y152 => y152 = o153) ?_ ?_
  ·refine sr0 ?_
   refine mv0 rfl ?_
   refine nt0 ?_
   refine Cd.condT rfl rfl ?_
   refine Cd.region ?_
   refine mv0 rfl ?_
   refine Lst.r (Ev.assign rfl) ?_
   refine Lst.nil ?_
   exact At.meet y119 fl ⟨rfl, rfl, rfl, rfl, rfl, rfl, rfl, trivial⟩ rfl (some_inj H)
  rintro F154 y152 hF155 hy
  subst hy
  refine Cd.as (e' := [(3, Str.v a3), (4, Str.v a4), (19, pv b47 0), (20, iv r43.2), (21, pv b53 0), (22, iv r49.2), (25, .bool y152)]) (L' := (.blk b53 (enc r49.1) 26) :: (.blk b47 (enc r43.1) 26) :: (.blk b25 (enc r21.1) 23) :: (.blk b19 (enc r15.1) 23) :: (.blk b13 (enc r9.1) 26) :: (.blk b7 (enc r3.1) 26) :: (.blk b1 (enc a1) 23) :: L) ⟨rfl, rfl, rfl, rfl, rfl, rfl, rfl, trivial⟩ rfl ?_
  replace H := HKo153
  refine sr0 ?_
  refine mv0 rfl ?_
  refine mv0 rfl ?_
  obtain ⟨r156, h157, H⟩ := bind_some H
  refine Lst.call1 rfl rfl (by decide) (vs := [Str.v a3, Str.v a4]) ⟨rfl, rfl, trivial⟩ Tryd.call8 (same_Swaps_sim h157 w0 _ M _ (sc4 (sc2 (sc1 hM)))) ?_
  refine mv0 rfl ?_
  refine Lst.r (Ev.neq rfl rfl) ?_
  refine mv0 rfl ?_
  obtain ⟨o160, H, HKo160⟩ := bind_some H
  refine Lst.join (σ := Bool) 3 (fun y161 => [(19, pv b47 0), (21, pv b53 0), (25, .bool y152), (139, .bool r156), (145, .bool y161)]) (fun y161 => (.blk b53 (enc r49.1) 26) :: (.blk b47 (enc r43.1) 26) :: (.blk b25 (enc r21.1) 23) :: (.blk b19 (enc r15.1) 23) :: (.blk b13 (enc r9.1) 26) :: (.blk b7 (enc r3.1) 26) :: (.blk b1 (enc a1) 23) :: L) (fun _ y161 => y161 = o160) ?_ ?_
  ·rcases Bool.eq_false_or_eq_true (r43.2 != (0 : Int)) with hb162 | hb162
   ·replace H := ite_t hb162 H
    refine Lst.skip rfl rfl rfl hb162 rfl (by decide) ?_
    refine Lst.skip rfl rfl rfl hb162 rfl (by decide) ?_
    refine Lst.r (Ev.pickT rfl hb162 rfl) ?_
    refine Lst.nil ?_
    exact At.meet true fl ⟨rfl, rfl, rfl, rfl, rfl, trivial⟩ rfl (some_inj H)
   replace H := ite_f hb162 H
   refine Lst.rG hb162 (Ev.move rfl) ?_
   refine Lst.rG hb162 (Ev.neq rfl rfl) ?_
   refine Lst.r (Ev.pickF rfl hb162 rfl) ?_
   refine Lst.nil ?_
   exact At.meet (r49.2 != (0 : Int)) fl ⟨rfl, rfl, rfl, rfl, rfl, trivial⟩ rfl (some_inj H)
  rintro F163 y161 hF164 hy
  subst hy
  refine Lst.as (e' := [(19, pv b47 0), (21, pv b53 0), (25, .bool y152), (139, .bool r156), (145, .bool y161)]) (L' := (.blk b53 (enc r49.1) 26) :: (.blk b47 (enc r43.1) 26) :: (.blk b25 (enc r21.1) 23) :: (.blk b19 (enc r15.1) 23) :: (.blk b13 (enc r9.1) 26) :: (.blk b7 (enc r3.1) 26) :: (.blk b1 (enc a1) 23) :: L) ⟨rfl, rfl, rfl, rfl, rfl, trivial⟩ rfl ?_
  replace H := HKo160
  refine mv0 rfl ?_
  obtain ⟨o165, H, HKo165⟩ := bind_some H
  refine Lst.join (σ := Bool) 4 (fun y166 => [(25, .bool y152), (139, .bool r156), (150, .bool y166)]) (fun y166 => (.blk b53 (enc r49.1) 26) :: (.blk b47 (enc r43.1) 26) :: (.blk b25 (enc r21.1) 23) :: (.blk b19 (enc r15.1) 23) :: (.blk b13 (enc r9.1) 26) :: (.blk b7 (enc r3.1) 26) :: (.blk b1 (enc a1) 23) :: L) (fun _ y166 => y166 = o165) ?_ ?_
  ·rcases Bool.eq_false_or_eq_true y161 with hb167 | hb167
   ·replace H := ite_t hb167 H
    refine Lst.skip rfl rfl rfl hb167 rfl (by decide) ?_
    refine Lst.skip rfl rfl rfl hb167 rfl (by decide) ?_
    refine Lst.skip rfl rfl rfl hb167 rfl (by decide) ?_
    refine Lst.r (Ev.pickT rfl hb167 rfl) ?_
    refine Lst.nil ?_
    exact At.meet true fl ⟨rfl, rfl, rfl, trivial⟩ rfl (some_inj H)
   replace H := ite_f hb167 H
   refine Lst.rG hb167 (Ev.loadA (i := 1) rfl rfl Tryd.isAgg26 Tryd.sizeOf26 (ch := enc r43.1) (Enc.len _) gh0) ?_
   refine Lst.rG hb167 (Ev.loadA (i := 0) rfl rfl Tryd.isAgg26 Tryd.sizeOf26 (ch := enc r49.1) (Enc.len _) gh0) ?_
   refine Lst.rG hb167 (Ev.eqlA rfl rfl (by kernel_rfl) (eq26 _ _)) ?_
   refine Lst.r (Ev.pickF rfl hb167 rfl) ?_
   refine Lst.nil ?_
   exact At.meet (decide (r43.1 = r49.1)) fl ⟨rfl, rfl, rfl, trivial⟩ rfl (some_inj H)
  rintro F168 y166 hF169 hy
  subst hy
  refine Lst.as (e' := [(25, .bool y152), (139, .bool r156), (150, .bool y166)]) (L' := (.blk b53 (enc r49.1) 26) :: (.blk b47 (enc r43.1) 26) :: (.blk b25 (enc r21.1) 23) :: (.blk b19 (enc r15.1) 23) :: (.blk b13 (enc r9.1) 26) :: (.blk b7 (enc r3.1) 26) :: (.blk b1 (enc a1) 23) :: L) ⟨rfl, rfl, rfl, trivial⟩ rfl ?_
  replace H := HKo165
  refine mv0 rfl ?_
  obtain ⟨o170, H, HKo170⟩ := bind_some H
  refine Lst.join (σ := Bool) 2 (fun y171 => [(139, .bool r156), (153, .bool y171)]) (fun y171 => (.blk b53 (enc r49.1) 26) :: (.blk b47 (enc r43.1) 26) :: (.blk b25 (enc r21.1) 23) :: (.blk b19 (enc r15.1) 23) :: (.blk b13 (enc r9.1) 26) :: (.blk b7 (enc r3.1) 26) :: (.blk b1 (enc a1) 23) :: L) (fun _ y171 => y171 = o170) ?_ ?_
  ·rcases Bool.eq_false_or_eq_true y166 with hb172 | hb172
   ·replace H := ite_t hb172 H
    refine Lst.skip rfl rfl rfl hb172 rfl (by decide) ?_
    refine Lst.r (Ev.pickT rfl hb172 rfl) ?_
    refine Lst.nil ?_
    exact At.meet true fl ⟨rfl, rfl, trivial⟩ rfl (some_inj H)
   replace H := ite_f hb172 H
   refine Lst.rG hb172 (Ev.move rfl) ?_
   refine Lst.r (Ev.pickF rfl hb172 rfl) ?_
   refine Lst.nil ?_
   exact At.meet y152 fl ⟨rfl, rfl, trivial⟩ rfl (some_inj H)
  rintro F173 y171 hF174 hy
  subst hy
  refine Lst.as (e' := [(139, .bool r156), (153, .bool y171)]) (L' := (.blk b53 (enc r49.1) 26) :: (.blk b47 (enc r43.1) 26) :: (.blk b25 (enc r21.1) 23) :: (.blk b19 (enc r15.1) 23) :: (.blk b13 (enc r9.1) 26) :: (.blk b7 (enc r3.1) 26) :: (.blk b1 (enc a1) 23) :: L) ⟨rfl, rfl, trivial⟩ rfl ?_
  replace H := HKo170
  refine Lst.r (Ev.eqlB rfl rfl Tryd.runUnderlying4) ?_
  refine Lst.r (Ev.assign rfl) ?_
  refine nt0 ?_
  obtain rfl := some_inj H
  refine Cd.ret ?_
  exact At.ret1 rfl (Res.tmp rfl) (FLe.trans (FLe.trans (FLe.trans (FLe.trans (FLe.trans (FLe.trans (FLe.trans (FLe.trans (FLe.trans (FLe.trans hF31 hF36) hF41) hF59) hF65) hF122) hF151) hF155) hF164) hF169) hF174) (sc1 (sc1 (sc1 (sc1 (sc1 (sc1 (sc1 (.refl _)))))))) ⟨rfl, rfl⟩
 replace H := ite_f hb60 H
 refine Lst.rG hb60 (Ev.fieldAddr (off' := 0) rfl Tryd.runUnderlying26 rfl Tryd.sizeOf3 rfl rfl) ?_
 refine Lst.rG hb60 (Ev.load (i := 0) rfl rfl Tryd.isAgg3 (v := iv r49.1.Kind) ((Cmd.get_Kind gh0).off (by rfl))) ?_
 refine Lst.rG hb60 (Ev.eql rfl rfl) ?_
 refine Lst.rG hb60 (Ev.move rfl) ?_
 obtain ⟨o175, H, HKo175⟩ := bind_some H
 refine Lst.join (σ := Bool) 6 (fun y176 => [(3, Str.v a3), (4, Str.v a4), (19, pv b47 0), (20, iv r43.2), (21, pv b53 0), (22, iv r49.2), (86, .bool y56), (96, .bool y176)]) (fun y176 => (.blk b53 (enc r49.1) 26) :: (.blk b47 (enc r43.1) 26) :: (.blk b25 (enc r21.1) 23) :: (.blk b19 (enc r15.1) 23) :: (.blk b13 (enc r9.1) 26) :: (.blk b7 (enc r3.1) 26) :: (.blk b1 (enc a1) 23) :: L) (fun _ y176 => y176 = o175) ?_ ?_
 ·rcases (Bool.eq_false_or_eq_true (r49.1.Kind == (4 : Int))).symm with hb177 | hb177
  ·replace H := ite_f hb177 H
   refine Lst.skip rfl rfl rfl hb177 rfl (by decide) ?_
   refine Lst.skip rfl rfl rfl hb177 rfl (by decide) ?_
   refine Lst.skip rfl rfl rfl hb177 rfl (by decide) ?_
   refine Lst.skip rfl rfl rfl hb177 rfl (by decide) ?_
   refine Lst.skip rfl rfl rfl hb177 rfl (by decide) ?_
   refine Lst.rG hb60 (Ev.pickF rfl hb177 rfl) ?_
   refine Lst.nil ?_
   exact At.meet false fl ⟨rfl, rfl, rfl, rfl, rfl, rfl, rfl, rfl, trivial⟩ rfl (some_inj H)
  replace H := ite_t hb177 H
  refine Lst.rG hb177 (Ev.fieldAddr (off' := 2) rfl Tryd.runUnderlying26 rfl Tryd.sizeOf3 rfl rfl) ?_
  refine Lst.rG hb177 (Ev.load (i := 0) rfl rfl Tryd.isAgg3 (v := iv r49.1.N) ((Cmd.get_N gh0).off (by rfl))) ?_
  refine Lst.rG hb177 (Ev.fieldAddr (off' := 1) rfl Tryd.runUnderlying26 rfl Tryd.sizeOf3 rfl rfl) ?_
  refine Lst.rG hb177 (Ev.load (i := 1) rfl rfl Tryd.isAgg3 (v := iv r43.1.Key) ((Cmd.get_Key gh0).off (by rfl))) ?_
  refine Lst.rG hb177 (Ev.eql rfl rfl) ?_
  refine Lst.rG hb60 (Ev.pickT rfl hb177 rfl) ?_
  refine Lst.nil ?_
  exact At.meet (r49.1.N == r43.1.Key) fl ⟨rfl, rfl, rfl, rfl, rfl, rfl, rfl, rfl, trivial⟩ rfl (some_inj H)
 rintro F178 y176 hF179 hy
 subst hy
 refine Lst.as (e' := [(3, Str.v a3), (4, Str.v a4), (19, pv b47 0), (20, iv r43.2), (21, pv b53 0), (22, iv r49.2), (86, .bool y56), (96, .bool y176)]) (L' := (.blk b53 (enc r49.1) 26) :: (.blk b47 (enc r43.1) 26) :: (.blk b25 (enc r21.1) 23) :: (.blk b19 (enc r15.1) 23) :: (.blk b13 (enc r9.1) 26) :: (.blk b7 (enc r3.1) 26) :: (.blk b1 (enc a1) 23) :: L) ⟨rfl, rfl, rfl, rfl, rfl, rfl, rfl, rfl, trivial⟩ rfl ?_
 replace H := HKo175
 refine Lst.r (Ev.pickF rfl hb60 rfl) ?_
 refine Lst.r (Ev.assign rfl) ?_
 refine nsr ?_
 refine Lst.r (Ev.fieldAddr (off' := 0) rfl Tryd.runUnderlying26 rfl Tryd.sizeOf3 rfl rfl) ?_
 refine Lst.r (Ev.load (i := 1) rfl rfl Tryd.isAgg3 (v := iv r43.1.Kind) ((Cmd.get_Kind gh0).off (by rfl))) ?_
 refine Lst.r (Ev.eql rfl rfl) ?_
 refine mv0 rfl ?_
 obtain ⟨o180, H, HKo180⟩ := bind_some H
 refine Lst.join (σ := Bool) 6 (fun y181 => [(3, Str.v a3), (4, Str.v a4), (19, pv b47 0), (20, iv r43.2), (21, pv b53 0), (22, iv r49.2), (23, .bool y176), (107, .bool y181)]) (fun y181 => (.blk b53 (enc r49.1) 26) :: (.blk b47 (enc r43.1) 26) :: (.blk b25 (enc r21.1) 23) :: (.blk b19 (enc r15.1) 23) :: (.blk b13 (enc r9.1) 26) :: (.blk b7 (enc r3.1) 26) :: (.blk b1 (enc a1) 23) :: L) (fun _ y181 => y181 = o180) ?_ ?_
 ·rcases (Bool.eq_false_or_eq_true (r43.1.Kind == (4 : Int))).symm with hb182 | hb182
  ·replace H := ite_f hb182 H
   refine Lst.skip rfl rfl rfl hb182 rfl (by decide) ?_
   refine Lst.skip rfl rfl rfl hb182 rfl (by decide) ?_
   refine Lst.skip rfl rfl rfl hb182 rfl (by decide) ?_
   refine Lst.skip rfl rfl rfl hb182 rfl (by decide) ?_
   refine Lst.skip rfl rfl rfl hb182 rfl (by decide) ?_
   refine Lst.r (Ev.pickF rfl hb182 rfl) ?_
   refine Lst.nil ?_
   exact At.meet false fl ⟨rfl, rfl, rfl, rfl, rfl, rfl, rfl, rfl, trivial⟩ rfl (some_inj H)
  replace H := ite_t hb182 H
  refine Lst.rG hb182 (Ev.fieldAddr (off' := 2) rfl Tryd.runUnderlying26 rfl Tryd.sizeOf3 rfl rfl) ?_
  refine Lst.rG hb182 (Ev.load (i := 1) rfl rfl Tryd.isAgg3 (v := iv r43.1.N) ((Cmd.get_N gh0).off (by rfl))) ?_
  refine Lst.rG hb182 (Ev.fieldAddr (off' := 1) rfl Tryd.runUnderlying26 rfl Tryd.sizeOf3 rfl rfl) ?_
  refine Lst.rG hb182 (Ev.load (i := 1) rfl rfl Tryd.isAgg3 (v := iv r43.1.Key) ((Cmd.get_Key gh0).off (by rfl))) ?_
  refine Lst.rG hb182 (Ev.eql rfl rfl) ?_
  refine Lst.r (Ev.pickT rfl hb182 rfl) ?_
  refine Lst.nil ?_
  exact At.meet (r43.1.N == r43.1.Key) fl ⟨rfl, rfl, rfl, rfl, rfl, rfl, rfl, rfl, trivial⟩ rfl (some_inj H)
 rintro F183 y181 hF184 hy
 subst hy
 refine Lst.as (e' := [(3, Str.v a3), (4, Str.v a4), (19, pv b47 0), (20, iv r43.2), (21, pv b53 0), (22, iv r49.2), (23, .bool y176), (107, .bool y181)]) (L' := (.blk b53 (enc r49.1) 26) :: (.blk b47 (enc r43.1) 26) :: (.blk b25 (enc r21.1) 23) :: (.blk b19 (enc r15.1) 23) :: (.blk b13 (enc r9.1) 26) :: (.blk b7 (enc r3.1) 26) :: (.blk b1 (enc a1) 23) :: L) ⟨rfl, rfl, rfl, rfl, rfl, rfl, rfl, rfl, trivial⟩ rfl ?_
 replace H := HKo180
 refine mv0 rfl ?_
 rcases Bool.eq_false_or_eq_true y181 with hb185 | hb185
 ·replace H := ite_t hb185 H
  refine Lst.skip rfl rfl rfl hb185 rfl (by decide) ?_
  refine Lst.skip rfl rfl rfl hb185 rfl (by decide) ?_
  refine Lst.skip rfl rfl rfl hb185 rfl (by decide) ?_
  refine Lst.skip rfl rfl rfl hb185 rfl (by decide) ?_
  refine Lst.skipU rfl rfl rfl rfl (by decide) ?_
  refine Lst.skipU rfl rfl rfl rfl (by decide) ?_
  refine Lst.skipU rfl rfl rfl rfl (by decide) ?_
  refine Lst.skipU rfl rfl rfl rfl (by decide) ?_
  refine Lst.skipU rfl rfl rfl rfl (by decide) ?_
  refine Lst.skip rfl rfl rfl hb185 rfl (by decide) ?_
  refine Lst.r (Ev.pickT rfl hb185 rfl) ?_
  refine Lst.r (Ev.assign rfl) ?_
  refine nsr ?_
  refine Lst.r (Ev.fieldAddr (off' := 1) rfl Tryd.runUnderlying26 rfl Tryd.sizeOf3 rfl rfl) ?_
  refine Lst.r (Ev.load (i := 1) rfl rfl Tryd.isAgg3 (v := iv r43.1.Key) ((Cmd.get_Key gh0).off (by rfl))) ?_
  refine Lst.r (Ev.fieldAddr (off' := 1) rfl Tryd.runUnderlying26 rfl Tryd.sizeOf3 rfl rfl) ?_
  refine Lst.r (Ev.load (i := 0) rfl rfl Tryd.isAgg3 (v := iv r49.1.Key) ((Cmd.get_Key gh0).off (by rfl))) ?_
  refine Lst.r (Ev.neq rfl rfl) ?_
  refine mv0 rfl ?_
  rcases Bool.eq_false_or_eq_true (r43.1.Key != r49.1.Key) with hb186 | hb186
  ·replace H := ite_t hb186 H
   refine Lst.skip rfl rfl rfl hb186 rfl (by decide) ?_
   refine Lst.skip rfl rfl rfl hb186 rfl (by decide) ?_
   refine Lst.skip rfl rfl rfl hb186 rfl (by decide) ?_
   refine Lst.skip rfl rfl rfl hb186 rfl (by decide) ?_
   refine Lst.skipU rfl rfl rfl rfl (by decide) ?_
   refine Lst.skipU rfl rfl rfl rfl (by decide) ?_
   refine Lst.skipU rfl rfl rfl rfl (by decide) ?_
   refine Lst.skip rfl rfl rfl hb186 rfl (by decide) ?_
   refine Lst.r (Ev.pickT rfl hb186 rfl) ?_
   refine Lst.r (Ev.assign rfl) ?_
   refine nt0 ?_
   obtain ⟨o187, H, HKo187⟩ := bind_some H
   refine Cd.join (σ := Unit) (fun (_ : Unit) => [(3, Str.v a3), (4, Str.v a4), (19, pv b47 0), (20, iv r43.2), (21, pv b53 0), (22, iv r49.2), (25, .bool true)]) (fun (_ : Unit) => (.blk b53 (enc r49.1) 26) :: (.blk b47 (enc r43.1) 26) :: (.blk b25 (enc r21.1) 23) :: (.blk b19 (enc r15.1) 23) :: (.blk b13 (enc r9.1) 26) :: (.blk b7 (enc r3.1) 26) :: (.blk b1 (enc a1) 23) :: L) (fun _ (_ : Unit) => () = o187) ?_ ?_
   ·refine Cd.seq ?_
    refine Cd.as (e' := [(3, Str.v a3), (4, Str.v a4), (19, pv b47 0), (20, iv r43.2), (21, pv b53 0), (22, iv r49.2), (23, .bool y176), (24, .bool true), (25, .bool true)]) (L' := (.blk b53 (enc r49.1) 26) :: (.blk b47 (enc r43.1) 26) :: (.blk b25 (enc r21.1) 23) :: (.blk b19 (enc r15.1) 23) :: (.blk b13 (enc r9.1) 26) :: (.blk b7 (enc r3.1) 26) :: (.blk b1 (enc a1) 23) :: L) ⟨rfl, rfl, rfl, rfl, rfl, rfl, rfl, rfl, rfl, trivial⟩ rfl ?_
    refine Cd.region ?_
    refine mv0 rfl ?_
    refine nt0 ?_
    rcases (Bool.eq_false_or_eq_true y176).symm with hb188 | hb188
    ·replace H := ite_f hb188 H
     refine Cd.condF rfl hb188 ?_
     refine Cd.skip ?_
     exact At.meet () fl ⟨rfl, rfl, rfl, rfl, rfl, rfl, rfl, trivial⟩ rfl (some_inj H)
    replace H := ite_t hb188 H
    refine Cd.condT rfl hb188 ?_
    refine Cd.region ?_
    refine mv0 rfl ?_
    refine Lst.r (Ev.assign rfl) ?_
    refine Lst.nil ?_
    exact At.meet () fl ⟨rfl, rfl, rfl, rfl, rfl, rfl, rfl, trivial⟩ rfl (some_inj H)
   rintro F189 _u hF190 hy
   subst hy
   refine Cd.as (e' := [(3, Str.v a3), (4, Str.v a4), (19, pv b47 0), (20, iv r43.2), (21, pv b53 0), (22, iv r49.2), (25, .bool true)]) (L' := (.blk b53 (enc r49.1) 26) :: (.blk b47 (enc r43.1) 26) :: (.blk b25 (enc r21.1) 23) :: (.blk b19 (enc r15.1) 23) :: (.blk b13 (enc r9.1) 26) :: (.blk b7 (enc r3.1) 26) :: (.blk b1 (enc a1) 23) :: L) ⟨rfl, rfl, rfl, rfl, rfl, rfl, rfl, trivial⟩ rfl ?_
   replace H := HKo187
   refine sr0 ?_
   refine mv0 rfl ?_
   refine mv0 rfl ?_
   obtain ⟨r191, h192, H⟩ := bind_some H
   refine Lst.call1 rfl rfl (by decide) (vs := [Str.v a3, Str.v a4]) ⟨rfl, rfl, trivial⟩ Tryd.call8 (same_Swaps_sim h192 w0 _ M _ (sc4 (sc2 (sc1 hM)))) ?_
   refine mv0 rfl ?_
   refine Lst.r (Ev.neq rfl rfl) ?_
   refine mv0 rfl ?_
   obtain ⟨o195, H, HKo195⟩ := bind_some H
   refine Lst.join (σ := Bool) 3 (fun y196 => [(19, pv b47 0), (21, pv b53 0), (25, .bool true), (139, .bool r191), (145, .bool y196)]) (fun y196 => (.blk b53 (enc r49.1) 26) :: (.blk b47 (enc r43.1) 26) :: (.blk b25 (enc r21.1) 23) :: (.blk b19 (enc r15.1) 23) :: (.blk b13 (enc r9.1) 26) :: (.blk b7 (enc r3.1) 26) :: (.blk b1 (enc a1) 23) :: L) (fun _ y196 => y196 = o195) ?_ ?_
   ·rcases Bool.eq_false_or_eq_true (r43.2 != (0 : Int)) with hb197 | hb197
    ·replace H := ite_t hb197 H
     refine Lst.skip rfl rfl rfl hb197 rfl (by decide) ?_
     refine Lst.skip rfl rfl rfl hb197 rfl (by decide) ?_
     refine Lst.r (Ev.pickT rfl hb197 rfl) ?_
     refine Lst.nil ?_
     exact At.meet true fl ⟨rfl, rfl, rfl, rfl, rfl, trivial⟩ rfl (some_inj H)
    replace H := ite_f hb197 H
    refine Lst.rG hb197 (Ev.move rfl) ?_
    refine Lst.rG hb197 (Ev.neq rfl rfl) ?_
    refine Lst.r (Ev.pickF rfl hb197 rfl) ?_
    refine Lst.nil ?_
    exact At.meet (r49.2 != (0 : Int)) fl ⟨rfl, rfl, rfl, rfl, rfl, trivial⟩ rfl (some_inj H)
   rintro F198 y196 hF199 hy
   subst hy
   refine Lst.as (e' := [(19, pv b47 0), (21, pv b53 0), (25, .bool true), (139, .bool r191), (145, .bool y196)]) (L' := (.blk b53 (enc r49.1) 26) :: (.blk b47 (enc r43.1) 26) :: (.blk b25 (enc r21.1) 23) :: (.blk b19 (enc r15.1) 23) :: (.blk b13 (enc r9.1) 26) :: (.blk b7 (enc r3.1) 26) :: (.blk b1 (enc a1) 23) :: L) ⟨rfl, rfl, rfl, rfl, rfl, trivial⟩ rfl ?_
   replace H := HKo195
   refine mv0 rfl ?_
   obtain ⟨o200, H, HKo200⟩ := bind_some H
   refine Lst.join (σ := Bool) 4 (fun y201 => [(25, .bool true), (139, .bool r191), (150, .bool y201)]) (fun y201 => (.blk b53 (enc r49.1) 26) :: (.blk b47 (enc r43.1) 26) :: (.blk b25 (enc r21.1) 23) :: (.blk b19 (enc r15.1) 23) :: (.blk b13 (enc r9.1) 26) :: (.blk b7 (enc r3.1) 26) :: (.blk b1 (enc a1) 23) :: L) (fun _ y201 => y201 = o200) ?_ ?_
   ·rcases Bool.eq_false_or_eq_true y196 with hb202 | hb202
    ·replace H := ite_t hb202 H
     refine Lst.skip rfl rfl rfl hb202 rfl (by decide) ?_
     refine Lst.skip rfl rfl rfl hb202 rfl (by decide) ?_
     refine Lst.skip rfl rfl rfl hb202 rfl (by decide) ?_
     refine Lst.r (Ev.pickT rfl hb202 rfl) ?_
     refine Lst.nil ?_
     exact At.meet true fl ⟨rfl, rfl, rfl, trivial⟩ rfl (some_inj H)
    replace H := ite_f hb202 H
    refine Lst.rG hb202 (Ev.loadA (i := 1) rfl rfl Tryd.isAgg26 Tryd.sizeOf26 (ch := enc r43.1) (Enc.len _) gh0) ?_
    refine Lst.rG hb202 (Ev.loadA (i := 0) rfl rfl Tryd.isAgg26 Tryd.sizeOf26 (ch := enc r49.1) (Enc.len _) gh0) ?_
    refine Lst.rG hb202 (Ev.eqlA rfl rfl (by kernel_rfl) (eq26 _ _)) ?_
    refine Lst.r (Ev.pickF rfl hb202 rfl) ?_
    refine Lst.nil ?_
    exact At.meet (decide (r43.1 = r49.1)) fl ⟨rfl, rfl, rfl, trivial⟩ rfl (some_inj H)
   rintro F203 y201 hF204 hy
   subst hy
   refine Lst.as (e' := [(25, .bool true), (139, .bool r191), (150, .bool y201)]) (L' := (.blk b53 (enc r49.1) 26) :: (.blk b47 (enc r43.1) 26) :: (.blk b25 (enc r21.1) 23) :: (.blk b19 (enc r15.1) 23) :: (.blk b13 (enc r9.1) 26) :: (.blk b7 (enc r3.1) 26) :: (.blk b1 (enc a1) 23) :: L) ⟨rfl, rfl, rfl, trivial⟩ rfl ?_
   replace H := HKo200
   refine mv0 rfl ?_
   obtain ⟨o205, H, HKo205⟩ := bind_some H
   refine Lst.join (σ := Bool) 2 (fun y206 => [(139, .bool r191), (153, .bool y206)]) (fun y206 => (.blk b53 (enc r49.1) 26) :: (.blk b47 (enc r43.1) 26) :: (.blk b25 (enc r21.1) 23) :: (.blk b19 (enc r15.1) 23) :: (.blk b13 (enc r9.1) 26) :: (.blk b7 (enc r3.1) 26) :: (.blk b1 (enc a1) 23) :: L) (fun _ y206 => y206 = o205) ?_ ?_
   ·rcases Bool.eq_false_or_eq_true y201 with hb207 | hb207
    ·replace H := ite_t hb207 H
     refine Lst.skip rfl rfl rfl hb207 rfl (by decide) ?_
     refine Lst.r (Ev.pickT rfl hb207 rfl) ?_
     refine Lst.nil ?_
     exact At.meet true fl ⟨rfl, rfl, trivial⟩ rfl (some_inj H)
    replace H := ite_f hb207 H
    refine Lst.rG hb207 (Ev.move rfl) ?_
    refine Lst.r (Ev.pickF rfl hb207 rfl) ?_
    refine Lst.nil ?_
    exact At.meet true fl ⟨rfl, rfl, trivial⟩ rfl (some_inj H)
   rintro F208 y206 hF209 hy
   subst hy
   refine Lst.as (e' := [(139, .bool r191), (153, .bool y206)]) (L' := (.blk b53 (enc r49.1) 26) :: (.blk b47 (enc r43.1) 26) :: (.blk b25 (enc r21.1) 23) :: (.blk b19 (enc r15.1) 23) :: (.blk b13 (enc r9.1) 26) :: (.blk b7 (enc r3.1) 26) :: (.blk b1 (enc a1) 23) :: L) ⟨rfl, rfl, trivial⟩ rfl ?_
   replace H := HKo205
   refine Lst.r (Ev.eqlB rfl rfl Tryd.runUnderlying4) ?_
   refine Lst.r (Ev.assign rfl) ?_
   refine nt0 ?_
   obtain rfl := some_inj H
   refine Cd.ret ?_
   exact At.ret1 rfl (Res.tmp rfl) (FLe.trans (FLe.trans (FLe.trans (FLe.trans (FLe.trans (FLe.trans (FLe.trans (FLe.trans (FLe.trans hF31 hF36) hF41) hF59) hF179) hF184) hF190) hF199) hF204) hF209) (sc1 (sc1 (sc1 (sc1 (sc1 (sc1 (sc1 (.refl _)))))))) ⟨rfl, rfl⟩
  replace H := ite_f hb186 H
  refine Lst.rG hb186 (Ev.fieldAddr (off' := 0) rfl Tryd.runUnderlying26 rfl Tryd.sizeOf3 rfl rfl) ?_
  refine Lst.rG hb186 (Ev.load (i := 1) rfl rfl Tryd.isAgg3 (v := iv r43.1.Kind) ((Cmd.get_Kind gh0).off (by rfl))) ?_
  refine Lst.rG hb186 (Ev.eql rfl rfl) ?_
  refine Lst.rG hb186 (Ev.move rfl) ?_
  obtain ⟨o210, H, HKo210⟩ := bind_some H
  refine Lst.join (σ := Bool) 4 (fun y211 => [(3, Str.v a3), (4, Str.v a4), (19, pv b47 0), (20, iv r43.2), (21, pv b53 0), (22, iv r49.2), (23, .bool y176), (24, .bool true), (125, .bool (r43.1.Key != r49.1.Key)), (133, .bool y211)]) (fun y211 => (.blk b53 (enc r49.1) 26) :: (.blk b47 (enc r43.1) 26) :: (.blk b25 (enc r21.1) 23) :: (.blk b19 (enc r15.1) 23) :: (.blk b13 (enc r9.1) 26) :: (.blk b7 (enc r3.1) 26) :: (.blk b1 (enc a1) 23) :: L) (fun _ y211 => y211 = o210) ?_ ?_
  ·rcases (Bool.eq_false_or_eq_true (r43.1.Kind == (3 : Int))).symm with hb212 | hb212
   ·replace H := ite_f hb212 H
    refine Lst.skip rfl rfl rfl hb212 rfl (by decide) ?_
    refine Lst.skip rfl rfl rfl hb212 rfl (by decide) ?_
    refine Lst.skip rfl rfl rfl hb212 rfl (by decide) ?_
    refine Lst.rG hb186 (Ev.pickF rfl hb212 rfl) ?_
    refine Lst.nil ?_
    exact At.meet false fl ⟨rfl, rfl, rfl, rfl, rfl, rfl, rfl, rfl, rfl, rfl, trivial⟩ rfl (some_inj H)
   replace H := ite_t hb212 H
   refine Lst.rG hb212 (Ev.fieldAddr (off' := 0) rfl Tryd.runUnderlying26 rfl Tryd.sizeOf3 rfl rfl) ?_
   refine Lst.rG hb212 (Ev.load (i := 0) rfl rfl Tryd.isAgg3 (v := iv r49.1.Kind) ((Cmd.get_Kind gh0).off (by rfl))) ?_
   refine Lst.rG hb212 (Ev.eql rfl rfl) ?_
   refine Lst.rG hb186 (Ev.pickT rfl hb212 rfl) ?_
   refine Lst.nil ?_
   exact At.meet (r49.1.Kind == (3 : Int)) fl ⟨rfl, rfl, rfl, rfl, rfl, rfl, rfl, rfl, rfl, rfl, trivial⟩ rfl (some_inj H)
  rintro F213 y211 hF214 hy
  subst hy
  refine Lst.as (e' := [(3, Str.v a3), (4, Str.v a4), (19, pv b47 0), (20, iv r43.2), (21, pv b53 0), (22, iv r49.2), (23, .bool y176), (24, .bool true), (125, .bool (r43.1.Key != r49.1.Key)), (133, .bool y211)]) (L' := (.blk b53 (enc r49.1) 26) :: (.blk b47 (enc r43.1) 26) :: (.blk b25 (enc r21.1) 23) :: (.blk b19 (enc r15.1) 23) :: (.blk b13 (enc r9.1) 26) :: (.blk b7 (enc r3.1) 26) :: (.blk b1 (enc a1) 23) :: L) ⟨rfl, rfl, rfl, rfl, rfl, rfl, rfl, rfl, rfl, rfl, trivial⟩ rfl ?_
  replace H := HKo210
  refine Lst.r (Ev.pickF rfl hb186 rfl) ?_
  refine Lst.r (Ev.assign rfl) ?_
  refine nt0 ?_
  obtain ⟨o216, H, HKo216⟩ := bind_some H
  refine Cd.join (σ := Bool) (fun y215 => [(3, Str.v a3), (4, Str.v a4), (19, pv b47 0), (20, iv r43.2), (21, pv b53 0), (22, iv r49.2), (25, .bool y215)]) (fun y215 => (.blk b53 (enc r49.1) 26) :: (.blk b47 (enc r43.1) 26) :: (.blk b25 (enc r21.1) 23) :: (.blk b19 (enc r15.1) 23) :: (.blk b13 (enc r9.1) 26) :: (.blk b7 (enc r3.1) 26) :: (.blk b1 (enc a1) 23) :: L) (fun _ y215 => y215 = o216) ?_ ?_
  ·refine sr0 ?_
   refine mv0 rfl ?_
   refine nt0 ?_
   rcases (Bool.eq_false_or_eq_true y176).symm with hb217 | hb217
   ·replace H := ite_f hb217 H
    refine Cd.condF rfl hb217 ?_
    refine Cd.skip ?_
    exact At.meet y211 fl ⟨rfl, rfl, rfl, rfl, rfl, rfl, rfl, trivial⟩ rfl (some_inj H)
   replace H := ite_t hb217 H
   refine Cd.condT rfl hb217 ?_
   refine Cd.region ?_
   refine mv0 rfl ?_
   refine Lst.r (Ev.assign rfl) ?_
   refine Lst.nil ?_
   exact At.meet true fl ⟨rfl, rfl, rfl, rfl, rfl, rfl, rfl, trivial⟩ rfl (some_inj H)
  rintro F218 y215 hF219 hy
  subst hy
  refine Cd.as (e' := [(3, Str.v a3), (4, Str.v a4), (19, pv b47 0), (20, iv r43.2), (21, pv b53 0), (22, iv r49.2), (25, .bool y215)]) (L' := (.blk b53 (enc r49.1) 26) :: (.blk b47 (enc r43.1) 26) :: (.blk b25 (enc r21.1) 23) :: (.blk b19 (enc r15.1) 23) :: (.blk b13 (enc r9.1) 26) :: (.blk b7 (enc r3.1) 26) :: (.blk b1 (enc a1) 23) :: L) ⟨rfl, rfl, rfl, rfl, rfl, rfl, rfl, trivial⟩ rfl ?_
  replace H := HKo216
  refine sr0 ?_
  refine mv0 rfl ?_
  refine mv0 rfl ?_
  obtain ⟨r220, h221, H⟩ := bind_some H
  refine Lst.call1 rfl rfl (by decide) (vs := [Str.v a3, Str.v a4]) ⟨rfl, rfl, trivial⟩ Tryd.call8 (same_Swaps_sim h221 w0 _ M _ (sc4 (sc2 (sc1 hM)))) ?_
  refine mv0 rfl ?_
  refine Lst.r (Ev.neq rfl rfl) ?_
  refine mv0 rfl ?_
  obtain ⟨o224, H, HKo224⟩ := bind_some H
  refine Lst.join (σ := Bool) 3 (fun y225 => [(19, pv b47 0), (21, pv b53 0), (25, .bool y215), (139, .bool r220), (145, .bool y225)]) (fun y225 => (.blk b53 (enc r49.1) 26) :: (.blk b47 (enc r43.1) 26) :: (.blk b25 (enc r21.1) 23) :: (.blk b19 (enc r15.1) 23) :: (.blk b13 (enc r9.1) 26) :: (.blk b7 (enc r3.1) 26) :: (.blk b1 (enc a1) 23) :: L) (fun _ y225 => y225 = o224) ?_ ?_
  ·rcases Bool.eq_false_or_eq_true (r43.2 != (0 : Int)) with hb226 | hb226
   ·replace H := ite_t hb226 H
    refine Lst.skip rfl rfl rfl hb226 rfl (by decide) ?_
    refine Lst.skip rfl rfl rfl hb226 rfl (by decide) ?_
    refine Lst.r (Ev.pickT rfl hb226 rfl) ?_
    refine Lst.nil ?_
    exact At.meet true fl ⟨rfl, rfl, rfl, rfl, rfl, trivial⟩ rfl (some_inj H)
   replace H := ite_f hb226 H
   refine Lst.rG hb226 (Ev.move rfl) ?_
   refine Lst.rG hb226 (Ev.neq rfl rfl) ?_
   refine Lst.r (Ev.pickF rfl hb226 rfl) ?_
   refine Lst.nil ?_
   exact At.meet (r49.2 != (0 : Int)) fl ⟨rfl, rfl, rfl, rfl, rfl, trivial⟩ rfl (some_inj H)
  rintro F227 y225 hF228 hy
  subst hy
  refine Lst.as (e' := [(19, pv b47 0), (21, pv b53 0), (25, .bool y215), (139, .bool r220), (145, .bool y225)]) (L' := (.blk b53 (enc r49.1) 26) :: (.blk b47 (enc r43.1) 26) :: (.blk b25 (enc r21.1) 23) :: (.blk b19 (enc r15.1) 23) :: (.blk b13 (enc r9.1) 26) :: (.blk b7 (enc r3.1) 26) :: (.blk b1 (enc a1) 23) :: L) ⟨rfl, rfl, rfl, rfl, rfl, trivial⟩ rfl ?_
  replace H := HKo224
  refine mv0 rfl ?_
  obtain ⟨o229, H, HKo229⟩ := bind_some H
  refine Lst.join (σ := Bool) 4 (fun y230 => [(25, .bool y215), (139, .bool r220), (150, .bool y230)]) (fun y230 => (.blk b53 (enc r49.1) 26) :: (.blk b47 (enc r43.1) 26) :: (.blk b25 (enc r21.1) 23) :: (.blk b19 (enc r15.1) 23) :: (.blk b13 (enc r9.1) 26) :: (.blk b7 (enc r3.1) 26) :: (.blk b1 (enc a1) 23) :: L) (fun _ y230 => y230 = o229) ?_ ?_
  ·rcases Bool.eq_false_or_eq_true y225 with hb231 | hb231
   ·replace H := ite_t hb231 H
    refine Lst.skip rfl rfl rfl hb231 rfl (by decide) ?_
    refine Lst.skip rfl rfl rfl hb231 rfl (by decide) ?_
    refine Lst.skip rfl rfl rfl hb231 rfl (by decide) ?_
    refine Lst.r (Ev.pickT rfl hb231 rfl) ?_
    refine Lst.nil ?_
    exact At.meet true fl ⟨rfl, rfl, rfl, trivial⟩ rfl (some_inj H)
   replace H := ite_f hb231 H
   refine Lst.rG hb231 (Ev.loadA (i := 1) rfl rfl Tryd.isAgg26 Tryd.sizeOf26 (ch := enc r43.1) (Enc.len _) gh0) ?_
   refine Lst.rG hb231 (Ev.loadA (i := 0) rfl rfl Tryd.isAgg26 Tryd.sizeOf26 (ch := enc r49.1) (Enc.len _) gh0) ?_
   refine Lst.rG hb231 (Ev.eqlA rfl rfl (by kernel_rfl) (eq26 _ _)) ?_
   refine Lst.r (Ev.pickF rfl hb231 rfl) ?_
   refine Lst.nil ?_
   exact At.meet (decide (r43.1 = r49.1)) fl ⟨rfl, rfl, rfl, trivial⟩ rfl (some_inj H)
  rintro F232 y230 hF233 hy
  subst hy
  refine Lst.as (e' := [(25, .bool y215), (139, .bool r220), (150, .bool y230)]) (L' := (.blk b53 (enc r49.1) 26) :: (.blk b47 (enc r43.1) 26) :: (.blk b25 (enc r21.1) 23) :: (.blk b19 (enc r15.1) 23) :: (.blk b13 (enc r9.1) 26) :: (.blk b7 (enc r3.1) 26) :: (.blk b1 (enc a1) 23) :: L) ⟨rfl, rfl, rfl, trivial⟩ rfl ?_
  replace H := HKo229
  refine mv0 rfl ?_
  obtain ⟨o234, H, HKo234⟩ := bind_some H
  refine Lst.join (σ := Bool) 2 (fun y235 => [(139, .bool r220), (153, .bool y235)]) (fun y235 => (.blk b53 (enc r49.1) 26) :: (.blk b47 (enc r43.1) 26) :: (.blk b25 (enc r21.1) 23) :: (.blk b19 (enc r15.1) 23) :: (.blk b13 (enc r9.1) 26) :: (.blk b7 (enc r3.1) 26) :: (.blk b1 (enc a1) 23) :: L) (fun _ y235 => y235 = o234) ?_ ?_
  ·rcases Bool.eq_false_or_eq_true y230 with hb236 | hb236
   ·replace H := ite_t hb236 H
    refine Lst.skip rfl rfl rfl hb236 rfl (by decide) ?_
    refine Lst.r (Ev.pickT rfl hb236 rfl) ?_
    refine Lst.nil ?_
    exact At.meet true fl ⟨rfl, rfl, trivial⟩ rfl (some_inj H)
   replace H := ite_f hb236 H
   refine Lst.rG hb236 (Ev.move rfl) ?_
   refine Lst.r (Ev.pickF rfl hb236 rfl) ?_
   refine Lst.nil ?_
   exact At.meet y215 fl ⟨rfl, rfl, trivial⟩ rfl (some_inj H)
  rintro F237 y235 hF238 hy
  subst hy
  refine Lst.as (e' := [(139, .bool r220), (153, .bool y235)]) (L' := (.blk b53 (enc r49.1) 26) :: (.blk b47 (enc r43.1) 26) :: (.blk b25 (enc r21.1) 23) :: (.blk b19 (enc r15.1) 23) :: (.blk b13 (enc r9.1) 26) :: (.blk b7 (enc r3.1) 26) :: (.blk b1 (enc a1) 23) :: L) ⟨rfl, rfl, trivial⟩ rfl ?_
  replace H := HKo234
  refine Lst.r (Ev.eqlB rfl rfl Tryd.runUnderlying4) ?_
  refine Lst.r (Ev.assign rfl) ?_
  refine nt0 ?_
  obtain rfl := some_inj H
  refine Cd.ret ?_
  exact At.ret1 rfl (Res.tmp rfl) (FLe.trans (FLe.trans (FLe.trans (FLe.trans (FLe.trans (FLe.trans (FLe.trans (FLe.trans (FLe.trans (FLe.trans hF31 hF36) hF41) hF59) hF179) hF184) hF214) hF219) hF228) hF233) hF238) (sc1 (sc1 (sc1 (sc1 (sc1 (sc1 (sc1 (.refl _)))))))) ⟨rfl, rfl⟩
 replace H := ite_f hb185 H
 refine Lst.rG hb185 (Ev.fieldAddr (off' := 0) rfl Tryd.runUnderlying26 rfl Tryd.sizeOf3 rfl rfl) ?_
 refine Lst.rG hb185 (Ev.load (i := 0) rfl rfl Tryd.isAgg3 (v := iv r49.1.Kind) ((Cmd.get_Kind gh0).off (by rfl))) ?_
 refine Lst.rG hb185 (Ev.eql rfl rfl) ?_
 refine Lst.rG hb185 (Ev.move rfl) ?_
 obtain ⟨o239, H, HKo239⟩ := bind_some H
 refine Lst.join (σ := Bool) 6 (fun y240 => [(3, Str.v a3), (4, Str.v a4), (19, pv b47 0), (20, iv r43.2), (21, pv b53 0), (22, iv r49.2), (23, .bool y176), (108, .bool y181), (118, .bool y240)]) (fun y240 => (.blk b53 (enc r49.1) 26) :: (.blk b47 (enc r43.1) 26) :: (.blk b25 (enc r21.1) 23) :: (.blk b19 (enc r15.1) 23) :: (.blk b13 (enc r9.1) 26) :: (.blk b7 (enc r3.1) 26) :: (.blk b1 (enc a1) 23) :: L) (fun _ y240 => y240 = o239) ?_ ?_
 ·rcases (Bool.eq_false_or_eq_true (r49.1.Kind == (4 : Int))).symm with hb241 | hb241
  ·replace H := ite_f hb241 H
   refine Lst.skip rfl rfl rfl hb241 rfl (by decide) ?_
   refine Lst.skip rfl rfl rfl hb241 rfl (by decide) ?_
   refine Lst.skip rfl rfl rfl hb241 rfl (by decide) ?_
   refine Lst.skip rfl rfl rfl hb241 rfl (by decide) ?_
   refine Lst.skip rfl rfl rfl hb241 rfl (by decide) ?_
   refine Lst.rG hb185 (Ev.pickF rfl hb241 rfl) ?_
   refine Lst.nil ?_
   exact At.meet false fl ⟨rfl, rfl, rfl, rfl, rfl, rfl, rfl, rfl, rfl, trivial⟩ rfl (some_inj H)
  replace H := ite_t hb241 H
  refine Lst.rG hb241 (Ev.fieldAddr (off' := 2) rfl Tryd.runUnderlying26 rfl Tryd.sizeOf3 rfl rfl) ?_
  refine Lst.rG hb241 (Ev.load (i := 0) rfl rfl Tryd.isAgg3 (v := iv r49.1.N) ((Cmd.get_N gh0).off (by rfl))) ?_
  refine Lst.rG hb241 (Ev.fieldAddr (off' := 1) rfl Tryd.runUnderlying26 rfl Tryd.sizeOf3 rfl rfl) ?_
  refine Lst.rG hb241 (Ev.load (i := 0) rfl rfl Tryd.isAgg3 (v := iv r49.1.Key) ((Cmd.get_Key gh0).off (by rfl))) ?_
  refine Lst.rG hb241 (Ev.eql rfl rfl) ?_
  refine Lst.rG hb185 (Ev.pickT rfl hb241 rfl) ?_
  refine Lst.nil ?_
  exact At.meet (r49.1.N == r49.1.Key) fl ⟨rfl, rfl, rfl, rfl, rfl, rfl, rfl, rfl, rfl, trivial⟩ rfl (some_inj H)
 rintro F242 y240 hF243 hy
 subst hy
 refine Lst.as (e' := [(3, Str.v a3), (4, Str.v a4), (19, pv b47 0), (20, iv r43.2), (21, pv b53 0), (22, iv r49.2), (23, .bool y176), (108, .bool y181), (118, .bool y240)]) (L' := (.blk b53 (enc r49.1) 26) :: (.blk b47 (enc r43.1) 26) :: (.blk b25 (enc r21.1) 23) :: (.blk b19 (enc r15.1) 23) :: (.blk b13 (enc r9.1) 26) :: (.blk b7 (enc r3.1) 26) :: (.blk b1 (enc a1) 23) :: L) ⟨rfl, rfl, rfl, rfl, rfl, rfl, rfl, rfl, rfl, trivial⟩ rfl ?_
 replace H := HKo239
 refine Lst.r (Ev.pickF rfl hb185 rfl) ?_
 refine Lst.r (Ev.assign rfl) ?_
 refine nsr ?_
 refine Lst.r (Ev.fieldAddr (off' := 1) rfl Tryd.runUnderlying26 rfl Tryd.sizeOf3 rfl rfl) ?_
 refine Lst.r (Ev.load (i := 1) rfl rfl Tryd.isAgg3 (v := iv r43.1.Key) ((Cmd.get_Key gh0).off (by rfl))) ?_
 refine Lst.r (Ev.fieldAddr (off' := 1) rfl Tryd.runUnderlying26 rfl Tryd.sizeOf3 rfl rfl) ?_
 refine Lst.r (Ev.load (i := 0) rfl rfl Tryd.isAgg3 (v := iv r49.1.Key) ((Cmd.get_Key gh0).off (by rfl))) ?_
 refine Lst.r (Ev.neq rfl rfl) ?_
 refine mv0 rfl ?_
 rcases Bool.eq_false_or_eq_true (r43.1.Key != r49.1.Key) with hb244 | hb244
 ·replace H := ite_t hb244 H
  refine Lst.skip rfl rfl rfl hb244 rfl (by decide) ?_
  refine Lst.skip rfl rfl rfl hb244 rfl (by decide) ?_
  refine Lst.skip rfl rfl rfl hb244 rfl (by decide) ?_
  refine Lst.skip rfl rfl rfl hb244 rfl (by decide) ?_
  refine Lst.skipU rfl rfl rfl rfl (by decide) ?_
  refine Lst.skipU rfl rfl rfl rfl (by decide) ?_
  refine Lst.skipU rfl rfl rfl rfl (by decide) ?_
  refine Lst.skip rfl rfl rfl hb244 rfl (by decide) ?_
  refine Lst.r (Ev.pickT rfl hb244 rfl) ?_
  refine Lst.r (Ev.assign rfl) ?_
  refine nt0 ?_
  obtain ⟨o246, H, HKo246⟩ := bind_some H
  refine Cd.join (σ := Bool) (fun y245 => [(3, Str.v a3), (4, Str.v a4), (19, pv b47 0), (20, iv r43.2), (21, pv b53 0), (22, iv r49.2), (25, .bool y245)]) (fun y245 => (.blk b53 (enc r49.1) 26) :: (.blk b47 (enc r43.1) 26) :: (.blk b25 (enc r21.1) 23) :: (.blk b19 (enc r15.1) 23) :: (.blk b13 (enc r9.1) 26) :: (.blk b7 (enc r3.1) 26) :: (.blk b1 (enc a1) 23) :: L) (fun _ y245 => y245 = o246) ?_ ?_
  ·refine Cd.seq ?_
   refine Cd.as (e' := [(3, Str.v a3), (4, Str.v a4), (19, pv b47 0), (20, iv r43.2), (21, pv b53 0), (22, iv r49.2), (23, .bool y176), (24, .bool y240), (25, .bool true)]) (L' := (.blk b53 (enc r49.1) 26) :: (.blk b47 (enc r43.1) 26) :: (.blk b25 (enc r21.1) 23) :: (.blk b19 (enc r15.1) 23) :: (.blk b13 (enc r9.1) 26) :: (.blk b7 (enc r3.1) 26) :: (.blk b1 (enc a1) 23) :: L) ⟨rfl, rfl, rfl, rfl, rfl, rfl, rfl, rfl, rfl, trivial⟩ rfl ?_
   refine Cd.region ?_
   refine mv0 rfl ?_
   refine nt0 ?_
   rcases (Bool.eq_false_or_eq_true y176).symm with hb247 | hb247
   ·replace H := ite_f hb247 H
    refine Cd.condF rfl hb247 ?_
    refine Cd.skip ?_
    exact At.meet true fl ⟨rfl, rfl, rfl, rfl, rfl, rfl, rfl, trivial⟩ rfl (some_inj H)
   replace H := ite_t hb247 H
   refine Cd.condT rfl hb247 ?_
   refine Cd.region ?_
   refine mv0 rfl ?_
   refine Lst.r (Ev.assign rfl) ?_
   refine Lst.nil ?_
   exact At.meet y240 fl ⟨rfl, rfl, rfl, rfl, rfl, rfl, rfl, trivial⟩ rfl (some_inj H)
  rintro F248 y245 hF249 hy
  subst hy
  refine Cd.as (e' := [(3, Str.v a3), (4, Str.v a4), (19, pv b47 0), (20, iv r43.2), (21, pv b53 0), (22, iv r49.2), (25, .bool y245)]) (L' := (.blk b53 (enc r49.1) 26) :: (.blk b47 (enc r43.1) 26) :: (.blk b25 (enc r21.1) 23) :: (.blk b19 (enc r15.1) 23) :: (.blk b13 (enc r9.1) 26) :: (.blk b7 (enc r3.1) 26) :: (.blk b1 (enc a1) 23) :: L) ⟨rfl, rfl, rfl, rfl, rfl, rfl, rfl, trivial⟩ rfl ?_
  replace H := HKo246
  refine sr0 ?_
  refine mv0 rfl ?_
  refine mv0 rfl ?_
  obtain ⟨r250, h251, H⟩ := bind_some H
  refine Lst.call1 rfl rfl (by decide) (vs := [Str.v a3, Str.v a4]) ⟨rfl, rfl, trivial⟩ Tryd.call8 (same_Swaps_sim h251 w0 _ M _ (sc4 (sc2 (sc1 hM)))) ?_
  refine mv0 rfl ?_
  refine Lst.r (Ev.neq rfl rfl) ?_
  refine mv0 rfl ?_
  obtain ⟨o254, H, HKo254⟩ := bind_some H
  refine Lst.join (σ := Bool) 3 (fun y255 => [(19, pv b47 0), (21, pv b53 0), (25, .bool y245), (139, .bool r250), (145, .bool y255)]) (fun y255 => (.blk b53 (enc r49.1) 26) :: (.blk b47 (enc r43.1) 26) :: (.blk b25 (enc r21.1) 23) :: (.blk b19 (enc r15.1) 23) :: (.blk b13 (enc r9.1) 26) :: (.blk b7 (enc r3.1) 26) :: (.blk b1 (enc a1) 23) :: L) (fun _ y255 => y255 = o254) ?_ ?_
  ·rcases Bool.eq_false_or_eq_true (r43.2 != (0 : Int)) with hb256 | hb256
   ·replace H := ite_t hb256 H
    refine Lst.skip rfl rfl rfl hb256 rfl (by decide) ?_
    refine Lst.skip rfl rfl rfl hb256 rfl (by decide) ?_
    refine Lst.r (Ev.pickT rfl hb256 rfl) ?_
    refine Lst.nil ?_
    exact At.meet true fl ⟨rfl, rfl, rfl, rfl, rfl, trivial⟩ rfl (some_inj H)
   replace H := ite_f hb256 H
   refine Lst.rG hb256 (Ev.move rfl) ?_
   refine Lst.rG hb256 (Ev.neq rfl rfl) ?_
   refine Lst.r (Ev.pickF rfl hb256 rfl) ?_
   refine Lst.nil ?_
   exact At.meet (r49.2 != (0 : Int)) fl ⟨rfl, rfl, rfl, rfl, rfl, trivial⟩ rfl (some_inj H)
  rintro F257 y255 hF258 hy
  subst hy
  refine Lst.as (e' := [(19, pv b47 0), (21, pv b53 0), (25, .bool y245), (139, .bool r250), (145, .bool y255)]) (L' := (.blk b53 (enc r49.1) 26) :: (.blk b47 (enc r43.1) 26) :: (.blk b25 (enc r21.1) 23) :: (.blk b19 (enc r15.1) 23) :: (.blk b13 (enc r9.1) 26) :: (.blk b7 (enc r3.1) 26) :: (.blk b1 (enc a1) 23) :: L) ⟨rfl, rfl, rfl, rfl, rfl, trivial⟩ rfl ?_
  replace H := HKo254
  refine mv0 rfl ?_
  obtain ⟨o259, H, HKo259⟩ := bind_some H
  refine Lst.join (σ := Bool) 4 (fun y260 => [(25, .bool y245), (139, .bool r250), (150, .bool y260)]) (fun y260 => (.blk b53 (enc r49.1) 26) :: (.blk b47 (enc r43.1) 26) :: (.blk b25 (enc r21.1) 23) :: (.blk b19 (enc r15.1) 23) :: (.blk b13 (enc r9.1) 26) :: (.blk b7 (enc r3.1) 26) :: (.blk b1 (enc a1) 23) :: L) (fun _ y260 => y260 = o259) ?_ ?_
  ·rcases Bool.eq_false_or_eq_true y255 with hb261 | hb261
   ·replace H := ite_t hb261 H
    refine Lst.skip rfl rfl rfl hb261 rfl (by decide) ?_
    refine Lst.skip rfl rfl rfl hb261 rfl (by decide) ?_
    refine Lst.skip rfl rfl rfl hb261 rfl (by decide) ?_
    refine Lst.r (Ev.pickT rfl hb261 rfl) ?_
    refine Lst.nil ?_
    exact At.meet true fl ⟨rfl, rfl, rfl, trivial⟩ rfl (some_inj H)
   replace H := ite_f hb261 H
   refine Lst.rG hb261 (Ev.loadA (i := 1) rfl rfl Tryd.isAgg26 Tryd.sizeOf26 (ch := enc r43.1) (Enc.len _) gh0) ?_
   refine Lst.rG hb261 (Ev.loadA (i := 0) rfl rfl Tryd.isAgg26 Tryd.sizeOf26 (ch := enc r49.1) (Enc.len _) gh0) ?_
   refine Lst.rG hb261 (Ev.eqlA rfl rfl (by kernel_rfl) (eq26 _ _)) ?_
   refine Lst.r (Ev.pickF rfl hb261 rfl) ?_
   refine Lst.nil ?_
   exact At.meet (decide (r43.1 = r49.1)) fl ⟨rfl, rfl, rfl, trivial⟩ rfl (some_inj H)
  rintro F262 y260 hF263 hy
  subst hy
  refine Lst.as (e' := [(25, .bool y245), (139, .bool r250), (150, .bool y260)]) (L' := (.blk b53 (enc r49.1) 26) :: (.blk b47 (enc r43.1) 26) :: (.blk b25 (enc r21.1) 23) :: (.blk b19 (enc r15.1) 23) :: (.blk b13 (enc r9.1) 26) :: (.blk b7 (enc r3.1) 26) :: (.blk b1 (enc a1) 23) :: L) ⟨rfl, rfl, rfl, trivial⟩ rfl ?_
  replace H := HKo259
  refine mv0 rfl ?_
  obtain ⟨o264, H, HKo264⟩ := bind_some H
  refine Lst.join (σ := Bool) 2 (fun y265 => [(139, .bool r250), (153, .bool y265)]) (fun y265 => (.blk b53 (enc r49.1) 26) :: (.blk b47 (enc r43.1) 26) :: (.blk b25 (enc r21.1) 23) :: (.blk b19 (enc r15.1) 23) :: (.blk b13 (enc r9.1) 26) :: (.blk b7 (enc r3.1) 26) :: (.blk b1 (enc a1) 23) :: L) (fun _ y265 => y265 = o264) ?_ ?_
  ·rcases Bool.eq_false_or_eq_true y260 with hb266 | hb266
   ·replace H := ite_t hb266 H
    refine Lst.skip rfl rfl rfl hb266 rfl (by decide) ?_
    refine Lst.r (Ev.pickT rfl hb266 rfl) ?_
    refine Lst.nil ?_
    exact At.meet true fl ⟨rfl, rfl, trivial⟩ rfl (some_inj H)
   replace H := ite_f hb266 H
   refine Lst.rG hb266 (Ev.move rfl) ?_
   refine Lst.r (Ev.pickF rfl hb266 rfl) ?_
   refine Lst.nil ?_
   exact At.meet y245 fl ⟨rfl, rfl, trivial⟩ rfl (some_inj H)
  rintro F267 y265 hF268 hy
  subst hy
  refine Lst.as (e' := [(139, .bool r250), (153, .bool y265)]) (L' := (.blk b53 (enc r49.1) 26) :: (.blk b47 (enc r43.1) 26) :: (.blk b25 (enc r21.1) 23) :: (.blk b19 (enc r15.1) 23) :: (.blk b13 (enc r9.1) 26) :: (.blk b7 (enc r3.1) 26) :: (.blk b1 (enc a1) 23) :: L) ⟨rfl, rfl, trivial⟩ rfl ?_
  replace H := HKo264
  refine Lst.r (Ev.eqlB rfl rfl Tryd.runUnderlying4) ?_
  refine Lst.r (Ev.assign rfl) ?_
  refine nt0 ?_
  obtain rfl := some_inj H
  refine Cd.ret ?_
  exact At.ret1 rfl (Res.tmp rfl) (FLe.trans (FLe.trans (FLe.trans (FLe.trans (FLe.trans (FLe.trans (FLe.trans (FLe.trans (FLe.trans (FLe.trans hF31 hF36) hF41) hF59) hF179) hF184) hF243) hF249) hF258) hF263) hF268) (sc1 (sc1 (sc1 (sc1 (sc1 (sc1 (sc1 (.refl _)))))))) ⟨rfl, rfl⟩
 replace H := ite_f hb244 H
 refine Lst.rG hb244 (Ev.fieldAddr (off' := 0) rfl Tryd.runUnderlying26 rfl Tryd.sizeOf3 rfl rfl) ?_
 refine Lst.rG hb244 (Ev.load (i := 1) rfl rfl Tryd.isAgg3 (v := iv r43.1.Kind) ((Cmd.get_Kind gh0).off (by rfl))) ?_
 refine Lst.rG hb244 (Ev.eql rfl rfl) ?_
 refine Lst.rG hb244 (Ev.move rfl) ?_
 obtain ⟨o269, H, HKo269⟩ := bind_some H
 refine Lst.join (σ := Bool) 4 (fun y270 => [(3, Str.v a3), (4, Str.v a4), (19, pv b47 0), (20, iv r43.2), (21, pv b53 0), (22, iv r49.2), (23, .bool y176), (24, .bool y240), (125, .bool (r43.1.Key != r49.1.Key)), (133, .bool y270)]) (fun y270 => (.blk b53 (enc r49.1) 26) :: (.blk b47 (enc r43.1) 26) :: (.blk b25 (enc r21.1) 23) :: (.blk b19 (enc r15.1) 23) :: (.blk b13 (enc r9.1) 26) :: (.blk b7 (enc r3.1) 26) :: (.blk b1 (enc a1) 23) :: L) (fun _ y270 => y270 = o269) ?_ ?_
 ·rcases (Bool.eq_false_or_eq_true (r43.1.Kind == (3 : Int))).symm with hb271 | hb271
  ·replace H := ite_f hb271 H
   refine Lst.skip rfl rfl rfl hb271 rfl (by decide) ?_
   refine Lst.skip rfl rfl rfl hb271 rfl (by decide) ?_
   refine Lst.skip rfl rfl rfl hb271 rfl (by decide) ?_
   refine Lst.rG hb244 (Ev.pickF rfl hb271 rfl) ?_
   refine Lst.nil ?_
   exact At.meet false fl ⟨rfl, rfl, rfl, rfl, rfl, rfl, rfl, rfl, rfl, rfl, trivial⟩ rfl (some_inj H)
  replace H := ite_t hb271 H
  refine Lst.rG hb271 (Ev.fieldAddr (off' := 0) rfl Tryd.runUnderlying26 rfl Tryd.sizeOf3 rfl rfl) ?_
  refine Lst.rG hb271 (Ev.load (i := 0) rfl rfl Tryd.isAgg3 (v := iv r49.1.Kind) ((Cmd.get_Kind gh0).off (by rfl))) ?_
  refine Lst.rG hb271 (Ev.eql rfl rfl) ?_
  refine Lst.rG hb244 (Ev.pickT rfl hb271 rfl) ?_
  refine Lst.nil ?_
  exact At.meet (r49.1.Kind == (3 : Int)) fl ⟨rfl, rfl, rfl, rfl, rfl, rfl, rfl, rfl, rfl, rfl, trivial⟩ rfl (some_inj H)
 rintro F272 y270 hF273 hy
 subst hy
 refine Lst.as (e' := [(3, Str.v a3), (4, Str.v a4), (19, pv b47 0), (20, iv r43.2), (21, pv b53 0), (22, iv r49.2), (23, .bool y176), (24, .bool y240), (125, .bool (r43.1.Key != r49.1.Key)), (133, .bool y270)]) (L' := (.blk b53 (enc r49.1) 26) :: (.blk b47 (enc r43.1) 26) :: (.blk b25 (enc r21.1) 23) :: (.blk b19 (enc r15.1) 23) :: (.blk b13 (enc r9.1) 26) :: (.blk b7 (enc r3.1) 26) :: (.blk b1 (enc a1) 23) :: L) ⟨rfl, rfl, rfl, rfl, rfl, rfl, rfl, rfl, rfl, rfl, trivial⟩ rfl ?_
 replace H := HKo269
 refine Lst.r (Ev.pickF rfl hb244 rfl) ?_
 refine Lst.r (Ev.assign rfl) ?_
 refine nt0 ?_
 obtain ⟨o275, H, HKo275⟩ := bind_some H
 refine Cd.join (σ := Bool) (fun y274 => [(3, Str.v a3), (4, Str.v a4), (19, pv b47 0), (20, iv r43.2), (21, pv b53 0), (22, iv r49.2), (25, .bool y274)]) (fun y274 => (.blk b53 (enc r49.1) 26) :: (.blk b47 (enc r43.1) 26) :: (.blk b25 (enc r21.1) 23) :: (.blk b19 (enc r15.1) 23) :: (.blk b13 (enc r9.1) 26) :: (.blk b7 (enc r3.1) 26) :: (.blk b1 (enc a1) 23) :: L) (fun _ y274 => y274 = o275) ?_ ?_
 ·refine sr0 ?_
  refine mv0 rfl ?_
  refine nt0 ?_
  rcases (Bool.eq_false_or_eq_true y176).symm with hb276 | hb276
  ·replace H := ite_f hb276 H
   refine Cd.condF rfl hb276 ?_
   refine Cd.skip ?_
   exact At.meet y270 fl ⟨rfl, rfl, rfl, rfl, rfl, rfl, rfl, trivial⟩ rfl (some_inj H)
  replace H := ite_t hb276 H
  refine Cd.condT rfl hb276 ?_
  refine Cd.region ?_
  refine mv0 rfl ?_
  refine Lst.r (Ev.assign rfl) ?_
  refine Lst.nil ?_
  exact At.meet y240 fl ⟨rfl, rfl, rfl, rfl, rfl, rfl, rfl, trivial⟩ rfl (some_inj H)
 rintro F277 y274 hF278 hy
 subst hy
 refine Cd.as (e' := [(3, Str.v a3), (4, Str.v a4), (19, pv b47 0), (20, iv r43.2), (21, pv b53 0), (22, iv r49.2), (25, .bool y274)]) (L' := (.blk b53 (enc r49.1) 26) :: (.blk b47 (enc r43.1) 26) :: (.blk b25 (enc r21.1) 23) :: (.blk b19 (enc r15.1) 23) :: (.blk b13 (enc r9.1) 26) :: (.blk b7 (enc r3.1) 26) :: (.blk b1 (enc a1) 23) :: L) ⟨rfl, rfl, rfl, rfl, rfl, rfl, rfl, trivial⟩ rfl ?_
 replace H := HKo275
 refine sr0 ?_
 refine mv0 rfl ?_
 refine mv0 rfl ?_
 obtain ⟨r279, h280, H⟩ := bind_some H
 refine Lst.call1 rfl rfl (by decide) (vs := [Str.v a3, Str.v a4]) ⟨rfl, rfl, trivial⟩ Tryd.call8 (same_Swaps_sim h280 w0 _ M _ (sc4 (sc2 (sc1 hM)))) ?_
 refine mv0 rfl ?_
 refine Lst.r (Ev.neq rfl rfl) ?_
 refine mv0 rfl ?_
 obtain ⟨o283, H, HKo283⟩ := bind_some H
 refine Lst.join (σ := Bool) 3 (fun y284 => [(19, pv b47 0), (21, pv b53 0), (25, .bool y274), (139, .bool r279), (145, .bool y284)]) (fun y284 => (.blk b53 (enc r49.1) 26) :: (.blk b47 (enc r43.1) 26) :: (.blk b25 (enc r21.1) 23) :: (.blk b19 (enc r15.1) 23) :: (.blk b13 (enc r9.1) 26) :: (.blk b7 (enc r3.1) 26) :: (.blk b1 (enc a1) 23) :: L) (fun _ y284 => y284 = o283) ?_ ?_
 ·rcases Bool.eq_false_or_eq_true (r43.2 != (0 : Int)) with hb285 | hb285
  ·replace H := ite_t hb285 H
   refine Lst.skip rfl rfl rfl hb285 rfl (by decide) ?_
   refine Lst.skip rfl rfl rfl hb285 rfl (by decide) ?_
   refine Lst.r (Ev.pickT rfl hb285 rfl) ?_
   refine Lst.nil ?_
   exact At.meet true fl ⟨rfl, rfl, rfl, rfl, rfl, trivial⟩ rfl (some_inj H)
  replace H := ite_f hb285 H
  refine Lst.rG hb285 (Ev.move rfl) ?_
  refine Lst.rG hb285 (Ev.neq rfl rfl) ?_
  refine Lst.r (Ev.pickF rfl hb285 rfl) ?_
  refine Lst.nil ?_
  exact At.meet (r49.2 != (0 : Int)) fl ⟨rfl, rfl, rfl, rfl, rfl, trivial⟩ rfl (some_inj H)
 rintro F286 y284 hF287 hy
 subst hy
 refine Lst.as (e' := [(19, pv b47 0), (21, pv b53 0), (25, .bool y274), (139, .bool r279), (145, .bool y284)]) (L' := (.blk b53 (enc r49.1) 26) :: (.blk b47 (enc r43.1) 26) :: (.blk b25 (enc r21.1) 23) :: (.blk b19 (enc r15.1) 23) :: (.blk b13 (enc r9.1) 26) :: (.blk b7 (enc r3.1) 26) :: (.blk b1 (enc a1) 23) :: L) ⟨rfl, rfl, rfl, rfl, rfl, trivial⟩ rfl ?_
 replace H := HKo283
 refine mv0 rfl ?_
 obtain ⟨o288, H, HKo288⟩ := bind_some H
 refine Lst.join (σ := Bool) 4 (fun y289 => [(25, .bool y274), (139, .bool r279), (150, .bool y289)]) (fun y289 => (.blk b53 (enc r49.1) 26) :: (.blk b47 (enc r43.1) 26) :: (.blk b25 (enc r21.1) 23) :: (.blk b19 (enc r15.1) 23) :: (.blk b13 (enc r9.1) 26) :: (.blk b7 (enc r3.1) 26) :: (.blk b1 (enc a1) 23) :: L) (fun _ y289 => y289 = o288) ?_ ?_
 ·rcases Bool.eq_false_or_eq_true y284 with hb290 | hb290
  ·replace H := ite_t hb290 H
   refine Lst.skip rfl rfl rfl hb290 rfl (by decide) ?_
   refine Lst.skip rfl rfl rfl hb290 rfl (by decide) ?_
   refine Lst.skip rfl rfl rfl hb290 rfl (by decide) ?_
   refine Lst.r (Ev.pickT rfl hb290 rfl) ?_
   refine Lst.nil ?_
   exact At.meet true fl ⟨rfl, rfl, rfl, trivial⟩ rfl (some_inj H)
  replace H := ite_f hb290 H
  refine Lst.rG hb290 (Ev.loadA (i := 1) rfl rfl Tryd.isAgg26 Tryd.sizeOf26 (ch := enc r43.1) (Enc.len _) gh0) ?_
  refine Lst.rG hb290 (Ev.loadA (i := 0) rfl rfl Tryd.isAgg26 Tryd.sizeOf26 (ch := enc r49.1) (Enc.len _) gh0) ?_
  refine Lst.rG hb290 (Ev.eqlA rfl rfl (by kernel_rfl) (eq26 _ _)) ?_
  refine Lst.r (Ev.pickF rfl hb290 rfl) ?_
  refine Lst.nil ?_
  exact At.meet (decide (r43.1 = r49.1)) fl ⟨rfl, rfl, rfl, trivial⟩ rfl (some_inj H)
 rintro F291 y289 hF292 hy
 subst hy
 refine Lst.as (e' := [(25, .bool y274), (139, .bool r279), (150, .bool y289)]) (L' := (.blk b53 (enc r49.1) 26) :: (.blk b47 (enc r43.1) 26) :: (.blk b25 (enc r21.1) 23) :: (.blk b19 (enc r15.1) 23) :: (.blk b13 (enc r9.1) 26) :: (.blk b7 (enc r3.1) 26) :: (.blk b1 (enc a1) 23) :: L) ⟨rfl, rfl, rfl, trivial⟩ rfl ?_
 replace H := HKo288
 refine mv0 rfl ?_
 obtain ⟨o293, H, HKo293⟩ := bind_some H
 refine Lst.join (σ := Bool) 2 (fun y294 => [(139, .bool r279), (153, .bool y294)]) (fun y294 => (.blk b53 (enc r49.1) 26) :: (.blk b47 (enc r43.1) 26) :: (.blk b25 (enc r21.1) 23) :: (.blk b19 (enc r15.1) 23) :: (.blk b13 (enc r9.1) 26) :: (.blk b7 (enc r3.1) 26) :: (.blk b1 (enc a1) 23) :: L) (fun _ y294 => y294 = o293) ?_ ?_
 ·rcases Bool.eq_false_or_eq_true y289 with hb295 | hb295
  ·replace H := ite_t hb295 H
   refine Lst.skip rfl rfl rfl hb295 rfl (by decide) ?_
   refine Lst.r (Ev.pickT rfl hb295 rfl) ?_
   refine Lst.nil ?_
   exact At.meet true fl ⟨rfl, rfl, trivial⟩ rfl (some_inj H)
  replace H := ite_f hb295 H
  refine Lst.rG hb295 (Ev.move rfl) ?_
  refine Lst.r (Ev.pickF rfl hb295 rfl) ?_
  refine Lst.nil ?_
  exact At.meet y274 fl ⟨rfl, rfl, trivial⟩ rfl (some_inj H)
 rintro F296 y294 hF297 hy
 subst hy
 refine Lst.as (e' := [(139, .bool r279), (153, .bool y294)]) (L' := (.blk b53 (enc r49.1) 26) :: (.blk b47 (enc r43.1) 26) :: (.blk b25 (enc r21.1) 23) :: (.blk b19 (enc r15.1) 23) :: (.blk b13 (enc r9.1) 26) :: (.blk b7 (enc r3.1) 26) :: (.blk b1 (enc a1) 23) :: L) ⟨rfl, rfl, trivial⟩ rfl ?_
 replace H := HKo293
 refine Lst.r (Ev.eqlB rfl rfl Tryd.runUnderlying4) ?_
 refine Lst.r (Ev.assign rfl) ?_
 refine nt0 ?_
 obtain rfl := some_inj H
 refine Cd.ret ?_
 exact At.ret1 rfl (Res.tmp rfl) (FLe.trans (FLe.trans (FLe.trans (FLe.trans (FLe.trans (FLe.trans (FLe.trans (FLe.trans (FLe.trans (FLe.trans (FLe.trans hF31 hF36) hF41) hF59) hF179) hF184) hF243) hF273) hF278) hF287) hF292) hF297) (sc1 (sc1 (sc1 (sc1 (sc1 (sc1 (sc1 (.refl _)))))))) ⟨rfl, rfl⟩
end Go.Proofs.YtnljiedichjagaaDoor
