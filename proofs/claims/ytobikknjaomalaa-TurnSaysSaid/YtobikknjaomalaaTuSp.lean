/-
  What the functions compute, typed; printed by a program.
-/
import Derived.Test.YtobikknjaomalaaGoI
namespace Go.Proofs.Ytobikknjaomalaa
open Go.RowKit Enc
set_option linter.unusedVariables false
set_option linter.unusedSimpArgs false
structure Turn where
  N : Int
  Has : Int
  Want : List (List Int)
  Log : List Int
  Told : List Int
instance : DecidableEq Turn := fun a b => decidable_of_iff (a.N = b.N ∧ a.Has = b.Has ∧ a.Want = b.Want ∧ a.Log = b.Log ∧ a.Told = b.Told) (by cases a; cases b; simp)
def Turn.zero : Turn := ⟨(0 : Int), (0 : Int), [], [], []⟩
instance : Rng Turn := ⟨fun p => Rng.ok p.N ∧ Rng.ok p.Has ∧ Rng.ok p.Want ∧ Rng.ok p.Log ∧ Rng.ok p.Told⟩
structure Beat where
  Kind : Int
  Who : Int
  N : Int
instance : DecidableEq Beat := fun a b => decidable_of_iff (a.Kind = b.Kind ∧ a.Who = b.Who ∧ a.N = b.N) (by cases a; cases b; simp)
def Beat.zero : Beat := ⟨(0 : Int), (0 : Int), (0 : Int)⟩
instance : Enc Beat := ⟨fun p => enc p.Kind ++ (enc p.Who ++ (enc p.N)), 3, fun p => by simp only [List.length_append, Enc.len]; rfl, fun p => by simp only [List.all_append, Enc.one, Bool.and_self]⟩
theorem Beat.get_Kind {p : Beat} {k : Nat} {ch : List Value} (h : Get (enc p.Kind) k ch) : Get (enc p) (0 + k) ch := Get.off (Get.left h) (by omega)
theorem Beat.put_Kind {p : Beat} {k : Nat} {vs : List Value} {y : Int} (h : Put (enc p.Kind) k vs (enc y)) : Put (enc p) (0 + k) vs (enc ({ p with Kind := y } : Beat)) := Put.off (cs' := enc ({ p with Kind := y } : Beat)) (Put.left h) (by omega)
theorem Beat.get_Who {p : Beat} {k : Nat} {ch : List Value} (h : Get (enc p.Who) k ch) : Get (enc p) (1 + k) ch := Get.off (Get.right (m := 1) (Enc.len _) (Get.left h)) (by omega)
theorem Beat.put_Who {p : Beat} {k : Nat} {vs : List Value} {y : Int} (h : Put (enc p.Who) k vs (enc y)) : Put (enc p) (1 + k) vs (enc ({ p with Who := y } : Beat)) := Put.off (cs' := enc ({ p with Who := y } : Beat)) (Put.right (m := 1) (Enc.len _) (Put.left h)) (by omega)
theorem Beat.get_N {p : Beat} {k : Nat} {ch : List Value} (h : Get (enc p.N) k ch) : Get (enc p) (2 + k) ch := Get.off (Get.right (m := 1) (Enc.len _) (Get.right (m := 1) (Enc.len _) h)) (by omega)
theorem Beat.put_N {p : Beat} {k : Nat} {vs : List Value} {y : Int} (h : Put (enc p.N) k vs (enc y)) : Put (enc p) (2 + k) vs (enc ({ p with N := y } : Beat)) := Put.off (cs' := enc ({ p with N := y } : Beat)) (Put.right (m := 1) (Enc.len _) (Put.right (m := 1) (Enc.len _) h)) (by omega)
instance : Rng Beat := ⟨fun p => Rng.ok p.Kind ∧ Rng.ok p.Who ∧ Rng.ok p.N⟩
def slices_Index_int_int_B0 (a0 : List Int) (a1 : Int) (i1 : Nat) (z1 : Unit) : Option (Ctl Unit Int) :=
 (lat a0 (i1 : Int)).bind fun x4 =>
 bif a1 == x4 then (some (.ret (i1 : Int))) else
 some (.go ())
def slices_Index_int_int (a0 : List Int) (a1 : Int) : Option Int :=
 andThen (rangeM (slices_Index_int_int_B0 a0 a1) a0.length 0 ()) fun _ =>
 some (-1 : Int)
def partref_twice_B0 (a0 : List Int) (i1 : Nat) (z1 : Unit) : Option (Ctl Unit Bool) :=
 (lat a0 (i1 : Int)).bind fun x4 =>
 (bif decide (x4 < (0 : Int)) then (some true) else
 some (decide (x4 > (29 : Int)))).bind fun y8 =>
 (bif y8 then (some true) else
 (slices_Index_int_int a0 x4).bind fun r15 =>
 some (r15 != (i1 : Int))).bind fun y13 =>
 bif y13 then (some (.ret true)) else
 some (.go ())
def partref_twice (a0 : List Int) : Option Bool :=
 andThen (rangeM (partref_twice_B0 a0) a0.length 0 ()) fun _ =>
 some false
def slices_Contains_int_int (a0 : List Int) (a1 : Int) : Option Bool :=
 (slices_Index_int_int a0 a1).bind fun r1 =>
 some (decide (r1 ≥ (0 : Int)))
def partref_TurnErr_B2 (a0 : Turn) (x65 : List Int) (i69 : Nat) (z69 : Unit) : Option (Ctl Unit (Ctl Unit Int)) :=
 (lat x65 (i69 : Int)).bind fun x72 =>
 (slices_Contains_int_int a0.Log x72).bind fun r75 =>
 bif r75 then (some (.ret (.ret (4 : Int)))) else
 some (.go ())
def partref_TurnErr_B0 (a0 : Turn) (i40 : Nat) (z40 : Unit) : Option (Ctl Unit Int) :=
 (lat a0.Told (i40 : Int)).bind fun x44 =>
 (bif decide (x44 < (0 : Int)) then (some true) else
 (lat a0.Told (i40 : Int)).bind fun x50 =>
 some (decide (x50 > (a0.Log.length : Int)))).bind fun y48 =>
 (bif y48 then (some true) else
 (lat a0.Want (i40 : Int)).bind fun x56 =>
 (partref_twice x56).bind fun r60 =>
 some r60).bind fun y54 =>
 bif y54 then (some (.ret (4 : Int))) else
 (lat a0.Want (i40 : Int)).bind fun x65 =>
 andThen (rangeM (partref_TurnErr_B2 a0 x65) x65.length 0 ()) fun _ =>
 some (.go ())
def partref_TurnErr (a0 : Turn) : Option Int :=
 (bif decide (a0.N < (1 : Int)) then (some true) else
 some (decide (a0.N > (6 : Int)))).bind fun y4 =>
 (bif y4 then (some true) else
 some (decide (a0.Has < (0 : Int)))).bind fun y9 =>
 (bif y9 then (some true) else
 some (decide (a0.Has ≥ a0.N))).bind fun y14 =>
 (bif y14 then (some true) else
 some (decide ((a0.Log.length : Int) > (100 : Int)))).bind fun y19 =>
 bif y19 then (some (1 : Int)) else
 (bif (a0.Want.length : Int) != a0.N then (some true) else
 some ((a0.Told.length : Int) != a0.N)).bind fun y26 =>
 (bif y26 then (some true) else
 (partref_twice a0.Log).bind fun r33 =>
 some r33).bind fun y31 =>
 bif y31 then (some (4 : Int)) else
 (upTo a0.N).bind fun nn43 =>
 andThen (rangeM (partref_TurnErr_B0 a0) nn43 0 ()) fun _ =>
 some (0 : Int)
def turn_in (a0 : Int) (a1 : Int) (a2 : Int) : Option Bool :=
 (bif decide (a0 ≥ a1) then (some (decide (a0 ≤ a2))) else
 some false).bind fun y2 =>
 some y2
def turn_message (a0 : Int) : Option Bool :=
 (turn_in a0 (0 : Int) (29 : Int)).bind fun r1 =>
 some r1
def turn_twice_B0 (a0 : List Int) (i1 : Nat) (z1 : Unit) : Option (Ctl Unit Bool) :=
 (lat a0 (i1 : Int)).bind fun x4 =>
 (turn_message x4).bind fun r7 =>
 (bif !r7 then (some true) else
 (cutL a0 0 (i1 : Int)).bind fun m14 =>
 (slices_Contains_int_int m14 x4).bind fun r19 =>
 some r19).bind fun y12 =>
 bif y12 then (some (.ret true)) else
 some (.go ())
def turn_twice (a0 : List Int) : Option Bool :=
 andThen (rangeM (turn_twice_B0 a0) a0.length 0 ()) fun _ =>
 some false
def turn_Check_1 (a0 : Int) (a1 : Turn) : Option Bool :=
 (slices_Contains_int_int a1.Log a0).bind fun r2 =>
 some r2
def slices_IndexFunc_int_int_Check_1_B0 (a0 : List Int) (a1_c0 : Turn) (i2 : Nat) (z2 : Unit) : Option (Ctl Unit Int) :=
 (lat a0 (i2 : Int)).bind fun x5 =>
 (turn_Check_1 x5 a1_c0).bind fun r8 =>
 bif r8 then (some (.ret (i2 : Int))) else
 some (.go ())
def slices_IndexFunc_int_int_Check_1 (a0 : List Int) (a1_c0 : Turn) : Option Int :=
 andThen (rangeM (slices_IndexFunc_int_int_Check_1_B0 a0 a1_c0) a0.length 0 ()) fun _ =>
 some (-1 : Int)
def slices_ContainsFunc_int_int_Check_1 (a0 : List Int) (a1_c0 : Turn) : Option Bool :=
 (slices_IndexFunc_int_int_Check_1 a0 a1_c0).bind fun r2 =>
 some (decide (r2 ≥ (0 : Int)))
def turn_Check_B1 (a0 : Turn) (i39 : Nat) (z39 : Unit) : Option (Ctl Unit Int) :=
 (lat a0.Want (i39 : Int)).bind fun x42 =>
 (lat a0.Told (i39 : Int)).bind fun x46 =>
 (turn_in x46 (0 : Int) (a0.Log.length : Int)).bind fun r49 =>
 (bif !r49 then (some true) else
 some (decide ((x42.length : Int) > (30 : Int)))).bind fun y54 =>
 (bif y54 then (some true) else
 (turn_twice x42).bind fun r59 =>
 some r59).bind fun y57 =>
 (bif y57 then (some true) else
 (slices_ContainsFunc_int_int_Check_1 x42 a0).bind fun r66 =>
 some r66).bind fun y64 =>
 bif y64 then (some (.ret (4 : Int))) else
 some (.go ())
def turn_Check (a0 : Turn) : Option Int :=
 (turn_in a0.N (1 : Int) (6 : Int)).bind fun r3 =>
 (bif !r3 then (some true) else
 (turn_in a0.Has (0 : Int) (w64 (a0.N - (1 : Int)))).bind fun r10 =>
 some (!r10)).bind fun y8 =>
 (bif y8 then (some true) else
 some (decide ((a0.Log.length : Int) > (100 : Int)))).bind fun y17 =>
 bif y17 then (some (1 : Int)) else
 (bif (a0.Want.length : Int) != a0.N then (some true) else
 some ((a0.Told.length : Int) != a0.N)).bind fun y24 =>
 (bif y24 then (some true) else
 (turn_twice a0.Log).bind fun r31 =>
 some r31).bind fun y29 =>
 bif y29 then (some (4 : Int)) else
 andThen (rangeM (turn_Check_B1 a0) a0.Want.length 0 ()) fun _ =>
 some (0 : Int)
def slices_Clone_int_int (a0 : List Int) : Option (List Int) :=
 (room ([] : List Int) a0).bind fun u5 =>
 some (([] : List Int) ++ a0)
def turn_clone_B0 (a0 : Turn) (l39 : List Int) (l41 : List Int) (i68 : Nat) (z68 : Turn) : Option Turn :=
 (lat a0.Want (i68 : Int)).bind fun x80 =>
 (slices_Clone_int_int x80).bind fun r84 =>
 Let ([r84] : List (List Int)) fun l96 =>
 (room z68.Want l96).bind fun u108 =>
 some ({ z68 with Want := z68.Want ++ l96, Log := l41, Told := l39 } : Turn)
def turn_clone (a0 : Turn) : Option Turn :=
 (slices_Clone_int_int a0.Log).bind fun r9 =>
 (slices_Clone_int_int a0.Told).bind fun r15 =>
 Let (([] : List Int), ([] : List Int), ([] : List (List Int)), r15, r9) fun (l30, l32, l34, l39, l41) =>
 (rangeF (turn_clone_B0 a0 l39 l41) a0.Want.length 0 ({ Turn.zero with N := a0.N, Has := a0.Has, Want := ([] : List (List Int)), Log := l41, Told := l39 } : Turn)).bind fun y72 =>
 some ({ y72 with Log := l41, Told := l39 } : Turn)
def turn_pass_1 (a0 : Int) (a1_p : Turn) : Option Bool :=
 (slices_Contains_int_int a1_p.Log a0).bind fun r3 =>
 some r3
def slices_IndexFunc_int_int_pass_1_B0 (a0 : List Int) (a1_c0_p : Turn) (i3 : Nat) (z3 : Unit) : Option (Ctl Unit Int) :=
 (lat a0 (i3 : Int)).bind fun x6 =>
 (turn_pass_1 x6 a1_c0_p).bind fun r9 =>
 bif r9 then (some (.ret (i3 : Int))) else
 some (.go ())
def slices_IndexFunc_int_int_pass_1 (a0 : List Int) (a1_c0_p : Turn) : Option Int :=
 andThen (rangeM (slices_IndexFunc_int_int_pass_1_B0 a0 a1_c0_p) a0.length 0 ()) fun _ =>
 some (-1 : Int)
def slices_DeleteFunc_int_int_pass_1_B0 (a1_c0_p : Turn) (z10 : Int × Int × (List Int)) : Option (Ctl (Int × Int × (List Int)) (List Int)) :=
 bif decide (z10.2.1 < (z10.2.2.length : Int)) then ((lat z10.2.2 z10.2.1).bind fun x26 =>
 (turn_pass_1 x26 a1_c0_p).bind fun r29 =>
 bif !r29 then ((lat z10.2.2 z10.1).bind fun x34 =>
 Let (z10.2.2.set z10.1.toNat x26) fun p37 =>
 some (.go (w64 (z10.1 + (1 : Int)), w64 (z10.2.1 + (1 : Int)), p37))) else
 some (.go (z10.1, w64 (z10.2.1 + (1 : Int)), z10.2.2))) else
 some (.brk (z10.1, z10.2.1, z10.2.2))
def slices_DeleteFunc_int_int_pass_1 (fu : Nat) (a0 : List Int) (a1_c0_p : Turn) : Option (List Int) :=
 (slices_IndexFunc_int_int_pass_1 a0 a1_c0_p).bind fun r5 =>
 bif r5 == (-1 : Int) then (some a0) else
 andThen (whileM (slices_DeleteFunc_int_int_pass_1_B0 a1_c0_p) fu (r5, w64 (r5 + (1 : Int)), a0)) fun (y11, y12, l13) =>
 (cutL l13 y11 (l13.length : Int)).bind fun m17 =>
 (cutL (clearL l13 (y11 : Int).toNat ((l13.length : Int) : Int).toNat (0 : Int)) 0 y11).bind fun m21 =>
 some m21
def turn_without_pass_1_B0 (fu : Nat) (a1_c0_p : Turn) (i6 : Nat) (z6 : (List (List Int))) : Option (List (List Int)) :=
 (lat z6 (i6 : Int)).bind fun x12 =>
 (slices_DeleteFunc_int_int_pass_1 fu x12 a1_c0_p).bind fun r18 =>
 (lat z6 (i6 : Int)).bind fun x24 =>
 Let (z6.set (i6 : Int).toNat r18) fun p29 =>
 some p29
def turn_without_pass_1 (fu : Nat) (a0 : List (List Int)) (a1_c0_p : Turn) : Option (List (List Int)) :=
 (rangeF (turn_without_pass_1_B0 fu a1_c0_p) a0.length 0 a0).bind fun l7 =>
 some l7
def turn_pass_1_v2 (a0 : Int) (a1_p : Turn) : Option Bool :=
 (slices_Contains_int_int a1_p.Log a0).bind fun r3 =>
 some r3
def slices_IndexFunc_int_int_pass_1_v2_B0 (a0 : List Int) (a1_c0_p : Turn) (i3 : Nat) (z3 : Unit) : Option (Ctl Unit Int) :=
 (lat a0 (i3 : Int)).bind fun x6 =>
 (turn_pass_1_v2 x6 a1_c0_p).bind fun r9 =>
 bif r9 then (some (.ret (i3 : Int))) else
 some (.go ())
def slices_IndexFunc_int_int_pass_1_v2 (a0 : List Int) (a1_c0_p : Turn) : Option Int :=
 andThen (rangeM (slices_IndexFunc_int_int_pass_1_v2_B0 a0 a1_c0_p) a0.length 0 ()) fun _ =>
 some (-1 : Int)
def slices_DeleteFunc_int_int_pass_1_v2_B0 (a1_c0_p : Turn) (z10 : Int × Int × (List Int)) : Option (Ctl (Int × Int × (List Int)) (List Int)) :=
 bif decide (z10.2.1 < (z10.2.2.length : Int)) then ((lat z10.2.2 z10.2.1).bind fun x26 =>
 (turn_pass_1_v2 x26 a1_c0_p).bind fun r29 =>
 bif !r29 then ((lat z10.2.2 z10.1).bind fun x34 =>
 Let (z10.2.2.set z10.1.toNat x26) fun p37 =>
 some (.go (w64 (z10.1 + (1 : Int)), w64 (z10.2.1 + (1 : Int)), p37))) else
 some (.go (z10.1, w64 (z10.2.1 + (1 : Int)), z10.2.2))) else
 some (.brk (z10.1, z10.2.1, z10.2.2))
def slices_DeleteFunc_int_int_pass_1_v2 (fu : Nat) (a0 : List Int) (a1_c0_p : Turn) : Option (List Int) :=
 (slices_IndexFunc_int_int_pass_1_v2 a0 a1_c0_p).bind fun r5 =>
 bif r5 == (-1 : Int) then (some a0) else
 andThen (whileM (slices_DeleteFunc_int_int_pass_1_v2_B0 a1_c0_p) fu (r5, w64 (r5 + (1 : Int)), a0)) fun (y11, y12, l13) =>
 (cutL l13 y11 (l13.length : Int)).bind fun m17 =>
 (cutL (clearL l13 (y11 : Int).toNat ((l13.length : Int) : Int).toNat (0 : Int)) 0 y11).bind fun m21 =>
 some m21
def turn_without_pass_1_v2_B0 (fu : Nat) (a1_c0_p : Turn) (i6 : Nat) (z6 : (List (List Int))) : Option (List (List Int)) :=
 (lat z6 (i6 : Int)).bind fun x12 =>
 (slices_DeleteFunc_int_int_pass_1_v2 fu x12 a1_c0_p).bind fun r19 =>
 (lat z6 (i6 : Int)).bind fun x25 =>
 Let (z6.set (i6 : Int).toNat r19) fun p30 =>
 some p30
def turn_without_pass_1_v2 (fu : Nat) (a0 : List (List Int)) (a1_c0_p : Turn) : Option (List (List Int)) :=
 (rangeF (turn_without_pass_1_v2_B0 fu a1_c0_p) a0.length 0 a0).bind fun l7 =>
 some l7
def turn_pass_B0 (a0 : Turn) (x7 : List Int) (i12 : Nat) (z12 : Turn × (List Int)) : Option (Turn × (List Int)) :=
 (lat x7 (i12 : Int)).bind fun x18 =>
 bif decide ((z12.2.length : Int) < (100 : Int)) then ((room z12.2 ([x18] : List Int)).bind fun u24 =>
 Let (z12.2 ++ ([x18] : List Int), ({ z12.1 with Want := a0.Want, Told := a0.Told } : Turn)) fun (l29, y30) =>
 some (({ y30 with Want := a0.Want, Log := l29, Told := a0.Told } : Turn), l29)) else
 some (({ z12.1 with Want := a0.Want, Log := z12.2, Told := a0.Told } : Turn), z12.2)
def turn_pass (fu : Nat) (a0 : Turn) : Option ((List (List Int)) × (List Int) × Turn) :=
 (lat a0.Want a0.Has).bind fun x7 =>
 (rangeF (turn_pass_B0 a0 x7) x7.length 0 (a0, a0.Log)).bind fun (y13, l15) =>
 (turn_without_pass_1_v2 fu a0.Want ({ y13 with Want := a0.Want, Log := l15, Told := a0.Told } : Turn)).bind fun r60 =>
 (nz y13.N).bind fun u66 =>
 Let ((w64 (y13.Has + (1 : Int))).tmod y13.N : Int) fun p68 =>
 some (r60, l15, ({ y13 with Has := p68, Want := r60, Log := l15, Told := a0.Told } : Turn))
def turn_Step (fu : Nat) (a0 : Turn) (a1 : Beat) : Option (Turn × Int × Int) :=
 (turn_Check a0).bind fun r11 =>
 bif r11 != (0 : Int) then (some (({ Turn.zero with Want := ([] : List (List Int)), Log := ([] : List Int), Told := ([] : List Int) } : Turn), (0 : Int), r11)) else
 (turn_in a1.Kind (1 : Int) (3 : Int)).bind fun r21 =>
 (bif !r21 then (some true) else
 (turn_in a1.Who (0 : Int) (w64 (a0.N - (1 : Int)))).bind fun r28 =>
 some (!r28)).bind fun y26 =>
 (bif y26 then (some true) else
 (turn_message a1.N).bind fun r37 =>
 some (!r37)).bind fun y35 =>
 bif y35 then (some (({ Turn.zero with Want := ([] : List (List Int)), Log := ([] : List Int), Told := ([] : List Int) } : Turn), (0 : Int), (1 : Int))) else
 (turn_clone a0).bind fun r49 =>
 andThen (bif a1.Kind == (1 : Int) then ((slices_Contains_int_int a0.Log a1.N).bind fun r76 =>
 (bif r76 then (some true) else
 (lat a0.Want a1.Who).bind fun x83 =>
 (slices_Contains_int_int x83 a1.N).bind fun r87 =>
 some r87).bind fun y81 =>
 bif y81 then (some (.inr (({ Turn.zero with Want := ([] : List (List Int)), Log := ([] : List Int), Told := ([] : List Int) } : Turn), (0 : Int), (7 : Int)))) else
 (lat r49.Want a1.Who).bind fun x97 =>
 (room x97 ([a1.N] : List Int)).bind fun u105 =>
 Let (x97 ++ ([a1.N] : List Int)) fun l110 =>
 (lat r49.Want a1.Who).bind fun x120 =>
 Let (r49.Want.set a1.Who.toNat l110) fun p125 =>
 some (.inl (({ r49 with Want := p125 } : Turn), p125, r49.Log))) else
 bif a1.Kind == (2 : Int) then (bif a1.Who != a0.Has then (some (.inr (({ Turn.zero with Want := ([] : List (List Int)), Log := ([] : List Int), Told := ([] : List Int) } : Turn), (0 : Int), (11 : Int)))) else
 (turn_pass fu r49).bind fun r165 =>
 some (.inl (({ r165.2.2 with Want := r165.1, Log := r165.2.1, Told := r49.Told } : Turn), r165.1, r165.2.1))) else
 (lat a0.Told a1.Who).bind fun x129 =>
 bif x129 == (a0.Log.length : Int) then (some (.inr (({ Turn.zero with Want := ([] : List (List Int)), Log := ([] : List Int), Told := ([] : List Int) } : Turn), (0 : Int), (6 : Int)))) else
 (lat r49.Told a1.Who).bind fun x138 =>
 (lat r49.Told a1.Who).bind fun x141 =>
 Let (r49.Told.set a1.Who.toNat (w64 (x138 + (1 : Int)))) fun p144 =>
 (lat a0.Told a1.Who).bind fun x146 =>
 (lat a0.Log x146).bind fun x149 =>
 some (.inr (({ r49 with Told := p144 } : Turn), x149, (0 : Int)))) fun (y68, l69, l73) =>
 some (({ y68 with Want := l69, Log := l73, Told := r49.Told } : Turn), (0 : Int), (0 : Int))
def slices_Equal_int_int_B0 (a0 : List Int) (a1 : List Int) (i2 : Nat) (z2 : Unit) : Option (Ctl Unit Bool) :=
 (lat a0 (i2 : Int)).bind fun x5 =>
 (lat a1 (i2 : Int)).bind fun x8 =>
 bif x5 != x8 then (some (.ret false)) else
 some (.go ())
def slices_Equal_int_int (a0 : List Int) (a1 : List Int) : Option Bool :=
 bif (a0.length : Int) != (a1.length : Int) then (some false) else
 andThen (rangeM (slices_Equal_int_int_B0 a0 a1) a0.length 0 ()) fun _ =>
 some true
def slices_EqualFunc_int_int_int_int_int_int_B0 (a0 : List (List Int)) (a1 : List (List Int)) (i5 : Nat) (z5 : Unit) : Option (Ctl Unit Bool) :=
 (lat a0 (i5 : Int)).bind fun x8 =>
 (lat a1 (i5 : Int)).bind fun x12 =>
 (slices_Equal_int_int x8 x12).bind fun r16 =>
 bif !r16 then (some (.ret false)) else
 some (.go ())
def slices_EqualFunc_int_int_int_int_int_int (a0 : List (List Int)) (a1 : List (List Int)) : Option Bool :=
 bif (a0.length : Int) != (a1.length : Int) then (some false) else
 andThen (rangeM (slices_EqualFunc_int_int_int_int_int_int_B0 a0 a1) a0.length 0 ()) fun _ =>
 some true
def partref_SameTurn (a0 : Turn) (a1 : Turn) : Option Bool :=
 (bif a0.N == a1.N then (some (a0.Has == a1.Has)) else
 some false).bind fun y6 =>
 (bif y6 then ((slices_EqualFunc_int_int_int_int_int_int a0.Want a1.Want).bind fun r13 =>
 some r13) else
 some false).bind fun y11 =>
 (bif y11 then ((slices_Equal_int_int a0.Log a1.Log).bind fun r22 =>
 some r22) else
 some false).bind fun y20 =>
 (bif y20 then ((slices_Equal_int_int a0.Told a1.Told).bind fun r31 =>
 some r31) else
 some false).bind fun y29 =>
 some y29
def slices_Grow_int_int (a1 : Int) : Option (List Int) :=
 bif decide (a1 < (0 : Int)) then (none) else
 (bif decide ((w64 (a1 - (w64 ((0 : Int) - (0 : Int))))) > (0 : Int)) then ((mkLen (w64 (a1 - (w64 ((0 : Int) - (0 : Int)))))).bind fun n10 =>
 (cutL (List.replicate n10 (0 : Int)) 0 (0 : Int)).bind fun m14 =>
 some m14) else
 some ([] : List Int)).bind fun l4 =>
 some l4
def slices_Concat_int_int_B2 (a0 : List (List Int)) (i19 : Nat) (z19 : (List Int)) : Option (List Int) :=
 (lat a0 (i19 : Int)).bind fun x24 =>
 (room z19 x24).bind fun u28 =>
 some (z19 ++ x24)
def slices_Concat_int_int_B0 (a0 : List (List Int)) (i3 : Nat) (z3 : Int) : Option Int :=
 (lat a0 (i3 : Int)).bind fun x7 =>
 bif decide ((w64 (z3 + (x7.length : Int))) < (0 : Int)) then (none) else
 some (w64 (z3 + (x7.length : Int)))
def slices_Concat_int_int (a0 : List (List Int)) : Option (List Int) :=
 (rangeF (slices_Concat_int_int_B0 a0) a0.length 0 (0 : Int)).bind fun y4 =>
 (slices_Grow_int_int y4).bind fun r12 =>
 (rangeF (slices_Concat_int_int_B2 a0) a0.length 0 r12).bind fun l21 =>
 some l21
def partref_TurnStep_B5 (l41 : List Int) (l43 : List Int) (m232 : List Int) (i240 : Nat) (x247 : List Int) (i262 : Nat) (z262 : Turn × (List (List Int))) : Option (Turn × (List (List Int))) :=
 (lat x247 (i262 : Int)).bind fun x269 =>
 (slices_Contains_int_int (l43 ++ m232) x269).bind fun r272 =>
 bif !r272 then ((lat z262.2 (i240 : Int)).bind fun x277 =>
 (room x277 ([x269] : List Int)).bind fun u285 =>
 Let (x277 ++ ([x269] : List Int)) fun l290 =>
 (lat z262.2 (i240 : Int)).bind fun x300 =>
 Let (z262.2.set (i240 : Int).toNat l290) fun p305 =>
 some (({ z262.1 with Want := p305, Log := l43 ++ m232, Told := l41 } : Turn), p305)) else
 some (({ z262.1 with Want := z262.2, Log := l43 ++ m232, Told := l41 } : Turn), z262.2)
def partref_TurnStep_B3 (l41 : List Int) (l43 : List Int) (m232 : List Int) (i240 : Nat) (z240 : Turn × (List (List Int))) : Option (Turn × (List (List Int))) :=
 (lat z240.2 (i240 : Int)).bind fun x247 =>
 (lat z240.2 (i240 : Int)).bind fun x252 =>
 Let (z240.2.set (i240 : Int).toNat ([] : List Int)) fun p259 =>
 (rangeF (partref_TurnStep_B5 l41 l43 m232 i240 x247) x247.length 0 (({ z240.1 with Want := p259, Log := l43 ++ m232, Told := l41 } : Turn), p259)).bind fun (y263, l264) =>
 some (({ y263 with Want := l264, Log := l43 ++ m232, Told := l41 } : Turn), l264)
def partref_TurnStep_B0 (a0 : Turn) (l41 : List Int) (l43 : List Int) (i76 : Nat) (z76 : Turn) : Option Turn :=
 (lat a0.Want (i76 : Int)).bind fun x88 =>
 (slices_Clone_int_int x88).bind fun r92 =>
 Let ([r92] : List (List Int)) fun l104 =>
 (room z76.Want l104).bind fun u116 =>
 some ({ z76 with Want := z76.Want ++ l104, Log := l43, Told := l41 } : Turn)
def partref_TurnStep (a0 : Turn) (a1 : Beat) : Option (Turn × Int × Int) :=
 (slices_Clone_int_int a0.Log).bind fun r11 =>
 (slices_Clone_int_int a0.Told).bind fun r17 =>
 Let (([] : List Int), ([] : List Int), ([] : List (List Int)), r17, r11) fun (l32, l34, l36, l41, l43) =>
 (rangeF (partref_TurnStep_B0 a0 l41 l43) a0.Want.length 0 ({ Turn.zero with N := a0.N, Has := a0.Has, Want := ([] : List (List Int)), Log := l43, Told := l41 } : Turn)).bind fun y80 =>
 (lat y80.Want a1.Who).bind fun x121 =>
 andThen (bif a1.Kind == (1 : Int) then ((slices_Concat_int_int ([x121, l43] : List (List Int))).bind fun r142 =>
 Let (r142, ({ y80 with Log := l43, Told := l41 } : Turn)) fun (l150, y151) =>
 (slices_Contains_int_int l150 a1.N).bind fun r168 =>
 bif r168 then (some (.inr (({ Turn.zero with Want := ([] : List (List Int)), Told := ([] : List Int) } : Turn), (0 : Int), (7 : Int)))) else
 (room x121 ([a1.N] : List Int)).bind fun u180 =>
 Let (x121 ++ ([a1.N] : List Int)) fun l185 =>
 Let (y80.Want.set a1.Who.toNat l185) fun p192 =>
 some (.inl (({ y151 with Want := p192, Told := l41 } : Turn), p192))) else
 bif a1.Kind == (2 : Int) then (bif a0.Has != a1.Who then (some (.inr (({ Turn.zero with Want := ([] : List (List Int)), Told := ([] : List Int) } : Turn), (0 : Int), (11 : Int)))) else
 (cutL x121 0 (min (w64 ((100 : Int) - (l43.length : Int))) (x121.length : Int))).bind fun m232 =>
 (room l43 m232).bind fun u236 =>
 (rangeF (partref_TurnStep_B3 l41 l43 m232) y80.Want.length 0 (({ y80 with Log := l43 ++ m232, Told := l41 } : Turn), y80.Want)).bind fun (y241, l242) =>
 Let (w64 (y241.Has + (1 : Int))) fun p309 =>
 bif p309 == y241.N then (some (.inl (({ y241 with Has := (0 : Int), Want := l242, Log := l43 ++ m232, Told := l41 } : Turn), l242))) else
 some (.inl (({ y241 with Has := p309, Want := l242, Log := l43 ++ m232, Told := l41 } : Turn), l242))) else
 bif a1.Kind == (3 : Int) then ((lat l41 a1.Who).bind fun x197 =>
 bif decide (x197 ≥ (l43.length : Int)) then (some (.inr (({ Turn.zero with Want := ([] : List (List Int)), Told := ([] : List Int) } : Turn), (0 : Int), (6 : Int)))) else
 (lat l41 a1.Who).bind fun x205 =>
 Let (l41.set a1.Who.toNat (w64 (x197 + (1 : Int)))) fun p208 =>
 (lat l43 x197).bind fun x210 =>
 some (.inr (({ y80 with Log := l43, Told := p208 } : Turn), x210, (0 : Int)))) else
 some (.inl (({ y80 with Log := l43, Told := l41 } : Turn), y80.Want))) fun (y126, l129) =>
 some (({ y126 with Want := l129, Told := l41 } : Turn), (0 : Int), (0 : Int))
def partlaw_TurnSays (fu : Nat) (a0 : Turn) (a1 : Beat) : Option Bool :=
 (partref_TurnErr a0).bind fun r5 =>
 (turn_Step fu a0 a1).bind fun r9 =>
 (turn_Check a0).bind fun r28 =>
 bif r28 != r5 then (some false) else
 (bif r5 == (0 : Int) then ((bif decide (a1.Kind < (1 : Int)) then (some true) else
 some (decide (a1.Kind > (3 : Int)))).bind fun y37 =>
 (bif y37 then (some true) else
 some (decide (a1.Who < (0 : Int)))).bind fun y42 =>
 (bif y42 then (some true) else
 some (decide (a1.Who ≥ a0.N))).bind fun y47 =>
 (bif y47 then (some true) else
 some (decide (a1.N < (0 : Int)))).bind fun y52 =>
 (bif y52 then (some true) else
 some (decide (a1.N > (29 : Int)))).bind fun y57 =>
 bif y57 then (some (1 : Int)) else
 some r5) else
 some r5).bind fun y33 =>
 bif y33 != (0 : Int) then ((partref_SameTurn r9.1 Turn.zero).bind fun r65 =>
 (bif r65 then (some (r9.2.1 == (0 : Int))) else
 some false).bind fun y70 =>
 (bif y70 then (some (r9.2.2 == y33)) else
 some false).bind fun y75 =>
 some y75) else
 (partref_TurnStep a0 a1).bind fun r79 =>
 (partref_SameTurn r9.1 r79.1).bind fun r98 =>
 (bif r98 then (some (r9.2.1 == r79.2.1)) else
 some false).bind fun y103 =>
 (bif y103 then (some (r9.2.2 == r79.2.2)) else
 some false).bind fun y108 =>
 some y108
end Go.Proofs.Ytobikknjaomalaa
