/-
  What the functions compute, typed; printed by a program.
-/
import Derived.Test.YtnljiedichjagaaGoI
import Derived.Test.YtnljiedichjagaaGoS
namespace Go.Proofs.Ytnljiedichjagaa
open Go.RowKit Enc
set_option linter.unusedVariables false
set_option linter.unusedSimpArgs false
structure Num where
  N : Int
  By : Int
instance : DecidableEq Num := fun a b => decidable_of_iff (a.N = b.N ∧ a.By = b.By) (by cases a; cases b; simp)
def Num.zero : Num := ⟨(0 : Int), (0 : Int)⟩
instance : Enc Num := ⟨fun p => enc p.N ++ (enc p.By), 2, fun p => by simp only [List.length_append, Enc.len]; rfl, fun p => by simp only [List.all_append, Enc.one, Bool.and_self]⟩
theorem Num.get_N {p : Num} {k : Nat} {ch : List Value} (h : Get (enc p.N) k ch) : Get (enc p) (0 + k) ch := Get.off (Get.left h) (by omega)
theorem Num.put_N {p : Num} {k : Nat} {vs : List Value} {y : Int} (h : Put (enc p.N) k vs (enc y)) : Put (enc p) (0 + k) vs (enc ({ p with N := y } : Num)) := Put.off (cs' := enc ({ p with N := y } : Num)) (Put.left h) (by omega)
theorem Num.get_By {p : Num} {k : Nat} {ch : List Value} (h : Get (enc p.By) k ch) : Get (enc p) (1 + k) ch := Get.off (Get.right (m := 1) (Enc.len _) h) (by omega)
theorem Num.put_By {p : Num} {k : Nat} {vs : List Value} {y : Int} (h : Put (enc p.By) k vs (enc y)) : Put (enc p) (1 + k) vs (enc ({ p with By := y } : Num)) := Put.off (cs' := enc ({ p with By := y } : Num)) (Put.right (m := 1) (Enc.len _) h) (by omega)
instance : Rng Num := ⟨fun p => Rng.ok p.N ∧ Rng.ok p.By⟩
structure Wait where
  Id : Int
  Num_ : Num
  Fixed : Bool
instance : DecidableEq Wait := fun a b => decidable_of_iff (a.Id = b.Id ∧ a.Num_ = b.Num_ ∧ a.Fixed = b.Fixed) (by cases a; cases b; simp)
def Wait.zero : Wait := ⟨(0 : Int), Num.zero, false⟩
instance : Enc Wait := ⟨fun p => enc p.Id ++ (enc p.Num_ ++ (enc p.Fixed)), 4, fun p => by simp only [List.length_append, Enc.len]; rfl, fun p => by simp only [List.all_append, Enc.one, Bool.and_self]⟩
theorem Wait.get_Id {p : Wait} {k : Nat} {ch : List Value} (h : Get (enc p.Id) k ch) : Get (enc p) (0 + k) ch := Get.off (Get.left h) (by omega)
theorem Wait.put_Id {p : Wait} {k : Nat} {vs : List Value} {y : Int} (h : Put (enc p.Id) k vs (enc y)) : Put (enc p) (0 + k) vs (enc ({ p with Id := y } : Wait)) := Put.off (cs' := enc ({ p with Id := y } : Wait)) (Put.left h) (by omega)
theorem Wait.get_Num_ {p : Wait} {k : Nat} {ch : List Value} (h : Get (enc p.Num_) k ch) : Get (enc p) (1 + k) ch := Get.off (Get.right (m := 1) (Enc.len _) (Get.left h)) (by omega)
theorem Wait.put_Num_ {p : Wait} {k : Nat} {vs : List Value} {y : Num} (h : Put (enc p.Num_) k vs (enc y)) : Put (enc p) (1 + k) vs (enc ({ p with Num_ := y } : Wait)) := Put.off (cs' := enc ({ p with Num_ := y } : Wait)) (Put.right (m := 1) (Enc.len _) (Put.left h)) (by omega)
theorem Wait.get_Fixed {p : Wait} {k : Nat} {ch : List Value} (h : Get (enc p.Fixed) k ch) : Get (enc p) (3 + k) ch := Get.off (Get.right (m := 1) (Enc.len _) (Get.right (m := 2) (Enc.len _) h)) (by omega)
theorem Wait.put_Fixed {p : Wait} {k : Nat} {vs : List Value} {y : Bool} (h : Put (enc p.Fixed) k vs (enc y)) : Put (enc p) (3 + k) vs (enc ({ p with Fixed := y } : Wait)) := Put.off (cs' := enc ({ p with Fixed := y } : Wait)) (Put.right (m := 1) (Enc.len _) (Put.right (m := 2) (Enc.len _) h)) (by omega)
instance : Rng Wait := ⟨fun p => Rng.ok p.Id ∧ Rng.ok p.Num_ ∧ Rng.ok p.Fixed⟩
structure Skeen where
  Me : Int
  Clock : Int
  Wait : List Wait
instance : DecidableEq Skeen := fun a b => decidable_of_iff (a.Me = b.Me ∧ a.Clock = b.Clock ∧ a.Wait = b.Wait) (by cases a; cases b; simp)
def Skeen.zero : Skeen := ⟨(0 : Int), (0 : Int), []⟩
instance : Rng Skeen := ⟨fun p => Rng.ok p.Me ∧ Rng.ok p.Clock ∧ Rng.ok p.Wait⟩
def partref_Less (a0 : Num) (a1 : Num) : Option Bool :=
 bif decide (a0.N < a1.N) then (some true) else
 (bif a0.N == a1.N then (some (decide (a0.By < a1.By))) else
 some false).bind fun y7 =>
 some y7
def partref_SkeenErr_1 (a0 : Wait) (a1 : Wait) : Option Bool :=
 some (a0.Id == a1.Id)
def slices_IndexFunc_api_Wait_api_Wait_SkeenErr_1_B0 (a0 : List Wait) (a1_c0 : Wait) (i2 : Nat) (z2 : Unit) : Option (Ctl Unit Int) :=
 (lat a0 (i2 : Int)).bind fun x5 =>
 (partref_SkeenErr_1 x5 a1_c0).bind fun r8 =>
 bif r8 then (some (.ret (i2 : Int))) else
 some (.go ())
def slices_IndexFunc_api_Wait_api_Wait_SkeenErr_1 (a0 : List Wait) (a1_c0 : Wait) : Option Int :=
 andThen (rangeM (slices_IndexFunc_api_Wait_api_Wait_SkeenErr_1_B0 a0 a1_c0) a0.length 0 ()) fun _ =>
 some (-1 : Int)
def slices_ContainsFunc_api_Wait_api_Wait_SkeenErr_1 (a0 : List Wait) (a1_c0 : Wait) : Option Bool :=
 (slices_IndexFunc_api_Wait_api_Wait_SkeenErr_1 a0 a1_c0).bind fun r2 =>
 some (decide (r2 ≥ (0 : Int)))
def partref_SkeenErr_B0 (a0 : Skeen) (i20 : Nat) (z20 : Unit) : Option (Ctl Unit Int) :=
 (lat a0.Wait (i20 : Int)).bind fun x23 =>
 (bif decide (x23.Num_.N < (1 : Int)) then (some true) else
 some (decide (x23.Num_.N > a0.Clock))).bind fun y29 =>
 (bif y29 then (some true) else
 some (decide (x23.Num_.By < (0 : Int)))).bind fun y34 =>
 (bif y34 then (some true) else
 some (decide (x23.Num_.By > (5 : Int)))).bind fun y39 =>
 (bif y39 then (some true) else
 some (decide (x23.Id < (0 : Int)))).bind fun y44 =>
 bif y44 then (some (.ret (1 : Int))) else
 (bif !x23.Fixed then (some (x23.Num_.By != a0.Me)) else
 some false).bind fun y50 =>
 (bif y50 then (some true) else
 (bif decide ((i20 : Int) > (0 : Int)) then ((lat a0.Wait (w64 ((i20 : Int) - (1 : Int)))).bind fun x58 =>
 (partref_Less x58.Num_ x23.Num_).bind fun r61 =>
 some (!r61)) else
 some false).bind fun y56 =>
 some y56).bind fun y53 =>
 (bif y53 then (some true) else
 (cutL a0.Wait 0 (i20 : Int)).bind fun m68 =>
 (slices_ContainsFunc_api_Wait_api_Wait_SkeenErr_1 m68 x23).bind fun r73 =>
 some r73).bind fun y66 =>
 bif y66 then (some (.ret (4 : Int))) else
 some (.go ())
def partref_SkeenErr (a0 : Skeen) : Option Int :=
 (bif decide (a0.Me < (0 : Int)) then (some true) else
 some (decide (a0.Me > (5 : Int)))).bind fun y4 =>
 (bif y4 then (some true) else
 some (decide (a0.Clock < (0 : Int)))).bind fun y9 =>
 (bif y9 then (some true) else
 some (decide (a0.Clock > (16777215 : Int)))).bind fun y14 =>
 bif y14 then (some (1 : Int)) else
 bif decide ((a0.Wait.length : Int) > (40 : Int)) then (some (2 : Int)) else
 andThen (rangeM (partref_SkeenErr_B0 a0) a0.Wait.length 0 ()) fun _ =>
 (bif decide ((a0.Wait.length : Int) > (0 : Int)) then ((lat a0.Wait (0 : Int)).bind fun x81 =>
 some x81.Fixed) else
 some false).bind fun y79 =>
 bif y79 then (some (4 : Int)) else
 some (0 : Int)
def skeen_in (a0 : Int) (a1 : Int) (a2 : Int) : Option Bool :=
 (bif decide (a0 ≥ a1) then (some (decide (a0 ≤ a2))) else
 some false).bind fun y2 =>
 some y2
def cmp_isNaN_int (a0 : Int) : Option Bool :=
 some (a0 != a0)
def cmp_Compare_int (a0 : Int) (a1 : Int) : Option Int :=
 (cmp_isNaN_int a0).bind fun r1 =>
 (cmp_isNaN_int a1).bind fun r5 =>
 bif r1 then (bif r5 then (some (0 : Int)) else
 some (-1 : Int)) else
 bif r5 then (some (1 : Int)) else
 bif decide (a0 < a1) then (some (-1 : Int)) else
 bif decide (a0 > a1) then (some (1 : Int)) else
 some (0 : Int)
def cmp_Or_int_B0 (a0 : List Int) (i1 : Nat) (z1 : Unit) : Option (Ctl Unit Int) :=
 (lat a0 (i1 : Int)).bind fun x4 =>
 bif x4 != (0 : Int) then (some (.ret x4)) else
 some (.go ())
def cmp_Or_int (a0 : List Int) : Option Int :=
 andThen (rangeM (cmp_Or_int_B0 a0) a0.length 0 ()) fun _ =>
 some (0 : Int)
def skeen_compare (a0 : Num) (a1 : Num) : Option Int :=
 (cmp_Compare_int a0.N a1.N).bind fun r5 =>
 (cmp_Compare_int a0.By a1.By).bind fun r9 =>
 (cmp_Or_int ([r5, r9] : List Int)).bind fun r15 =>
 some r15
def skeen_wait_1 (a0 : Wait) (a1 : Wait) : Option Bool :=
 some (a0.Id == a1.Id)
def slices_IndexFunc_api_Wait_api_Wait_wait_1_B0 (a0 : List Wait) (a1_c0 : Wait) (i2 : Nat) (z2 : Unit) : Option (Ctl Unit Int) :=
 (lat a0 (i2 : Int)).bind fun x5 =>
 (skeen_wait_1 x5 a1_c0).bind fun r8 =>
 bif r8 then (some (.ret (i2 : Int))) else
 some (.go ())
def slices_IndexFunc_api_Wait_api_Wait_wait_1 (a0 : List Wait) (a1_c0 : Wait) : Option Int :=
 andThen (rangeM (slices_IndexFunc_api_Wait_api_Wait_wait_1_B0 a0 a1_c0) a0.length 0 ()) fun _ =>
 some (-1 : Int)
def slices_ContainsFunc_api_Wait_api_Wait_wait_1 (a0 : List Wait) (a1_c0 : Wait) : Option Bool :=
 (slices_IndexFunc_api_Wait_api_Wait_wait_1 a0 a1_c0).bind fun r2 =>
 some (decide (r2 ≥ (0 : Int)))
def skeen_wait (a0 : Skeen) (a1 : Int) : Option Int :=
 (lat a0.Wait a1).bind fun x3 =>
 (skeen_in x3.Num_.N (1 : Int) a0.Clock).bind fun r8 =>
 (bif !r8 then (some true) else
 (skeen_in x3.Num_.By (0 : Int) (5 : Int)).bind fun r15 =>
 some (!r15)).bind fun y13 =>
 (bif y13 then (some true) else
 some (decide (x3.Id < (0 : Int)))).bind fun y22 =>
 bif y22 then (some (1 : Int)) else
 (bif !x3.Fixed then (some (x3.Num_.By != a0.Me)) else
 some false).bind fun y28 =>
 (bif y28 then (some true) else
 (bif decide (a1 > (0 : Int)) then ((lat a0.Wait (w64 (a1 - (1 : Int)))).bind fun x36 =>
 (skeen_compare x3.Num_ x36.Num_).bind fun r39 =>
 some (decide (r39 ≤ (0 : Int)))) else
 some false).bind fun y34 =>
 some y34).bind fun y31 =>
 bif y31 then (some (4 : Int)) else
 (cutL a0.Wait 0 a1).bind fun m44 =>
 (slices_ContainsFunc_api_Wait_api_Wait_wait_1 m44 x3).bind fun r49 =>
 bif r49 then (some (4 : Int)) else
 some (0 : Int)
def skeen_Check_B1 (a0 : Skeen) (i18 : Nat) (z18 : Unit) : Option (Ctl Unit Int) :=
 (skeen_wait a0 (i18 : Int)).bind fun r21 =>
 bif r21 != (0 : Int) then (some (.ret r21)) else
 some (.go ())
def skeen_Check (a0 : Skeen) : Option Int :=
 (skeen_in a0.Me (0 : Int) (5 : Int)).bind fun r3 =>
 (bif !r3 then (some true) else
 (skeen_in a0.Clock (0 : Int) (16777215 : Int)).bind fun r10 =>
 some (!r10)).bind fun y8 =>
 bif y8 then (some (1 : Int)) else
 bif decide ((a0.Wait.length : Int) > (40 : Int)) then (some (2 : Int)) else
 andThen (rangeM (skeen_Check_B1 a0) a0.Wait.length 0 ()) fun _ =>
 (bif decide ((a0.Wait.length : Int) > (0 : Int)) then ((lat a0.Wait (0 : Int)).bind fun x29 =>
 some x29.Fixed) else
 some false).bind fun y27 =>
 bif y27 then (some (4 : Int)) else
 some (0 : Int)
def skeen_Offer_1 (a0 : Wait) (a1 : Int) : Option Bool :=
 some (a0.Id == a1)
def slices_IndexFunc_api_Wait_api_Wait_Offer_1_B0 (a0 : List Wait) (a1_c0 : Int) (i2 : Nat) (z2 : Unit) : Option (Ctl Unit Int) :=
 (lat a0 (i2 : Int)).bind fun x5 =>
 (skeen_Offer_1 x5 a1_c0).bind fun r8 =>
 bif r8 then (some (.ret (i2 : Int))) else
 some (.go ())
def slices_IndexFunc_api_Wait_api_Wait_Offer_1 (a0 : List Wait) (a1_c0 : Int) : Option Int :=
 andThen (rangeM (slices_IndexFunc_api_Wait_api_Wait_Offer_1_B0 a0 a1_c0) a0.length 0 ()) fun _ =>
 some (-1 : Int)
def slices_ContainsFunc_api_Wait_api_Wait_Offer_1 (a0 : List Wait) (a1_c0 : Int) : Option Bool :=
 (slices_IndexFunc_api_Wait_api_Wait_Offer_1 a0 a1_c0).bind fun r2 =>
 some (decide (r2 ≥ (0 : Int)))
def slices_Clone_api_Wait_api_Wait (a0 : List Wait) : Option (List Wait) :=
 (room ([] : List Wait) a0).bind fun u5 =>
 some (([] : List Wait) ++ a0)
def skeen_Offer (a0 : Skeen) (a1 : Int) : Option (Skeen × Num × Int) :=
 (skeen_Check a0).bind fun r10 =>
 bif r10 != (0 : Int) then (some (({ Skeen.zero with Wait := ([] : List Wait) } : Skeen), Num.zero, r10)) else
 bif decide (a1 < (0 : Int)) then (some (({ Skeen.zero with Wait := ([] : List Wait) } : Skeen), Num.zero, (1 : Int))) else
 (slices_ContainsFunc_api_Wait_api_Wait_Offer_1 a0.Wait a1).bind fun r18 =>
 bif r18 then (some (({ Skeen.zero with Wait := ([] : List Wait) } : Skeen), Num.zero, (7 : Int))) else
 (bif (a0.Wait.length : Int) == (40 : Int) then (some true) else
 some (a0.Clock == (16777215 : Int))).bind fun y25 =>
 bif y25 then (some (({ Skeen.zero with Wait := ([] : List Wait) } : Skeen), Num.zero, (8 : Int))) else
 (slices_Clone_api_Wait_api_Wait a0.Wait).bind fun r33 =>
 (room r33 ([({ Wait.zero with Id := a1, Num_ := ({ Num.zero with N := w64 (a0.Clock + (1 : Int)), By := a0.Me } : Num) } : Wait)] : List Wait)).bind fun u41 =>
 Let (r33 ++ ([({ Wait.zero with Id := a1, Num_ := ({ Num.zero with N := w64 (a0.Clock + (1 : Int)), By := a0.Me } : Num) } : Wait)] : List Wait)) fun l46 =>
 some (({ Skeen.zero with Me := a0.Me, Clock := w64 (a0.Clock + (1 : Int)), Wait := l46 } : Skeen), ({ Num.zero with N := w64 (a0.Clock + (1 : Int)), By := a0.Me } : Num), (0 : Int))
def skeen_Fix_1 (a0 : Wait) (a1 : Int) : Option Bool :=
 (bif a0.Id == a1 then (some (!a0.Fixed)) else
 some false).bind fun y5 =>
 some y5
def slices_IndexFunc_api_Wait_api_Wait_Fix_1_B0 (a0 : List Wait) (a1_c0 : Int) (i2 : Nat) (z2 : Unit) : Option (Ctl Unit Int) :=
 (lat a0 (i2 : Int)).bind fun x5 =>
 (skeen_Fix_1 x5 a1_c0).bind fun r8 =>
 bif r8 then (some (.ret (i2 : Int))) else
 some (.go ())
def slices_IndexFunc_api_Wait_api_Wait_Fix_1 (a0 : List Wait) (a1_c0 : Int) : Option Int :=
 andThen (rangeM (slices_IndexFunc_api_Wait_api_Wait_Fix_1_B0 a0 a1_c0) a0.length 0 ()) fun _ =>
 some (-1 : Int)
def skeen_Fix_2 (a0 : Wait) (a1 : Int) (a2 : Num) : Option Bool :=
 (bif a0.Id != a1 then (some (decide (a0.Num_ = a2))) else
 some false).bind fun y6 =>
 some y6
def slices_IndexFunc_api_Wait_api_Wait_Fix_2_B0 (a0 : List Wait) (a1_c0 : Int) (a1_c1 : Num) (i3 : Nat) (z3 : Unit) : Option (Ctl Unit Int) :=
 (lat a0 (i3 : Int)).bind fun x6 =>
 (skeen_Fix_2 x6 a1_c0 a1_c1).bind fun r9 =>
 bif r9 then (some (.ret (i3 : Int))) else
 some (.go ())
def slices_IndexFunc_api_Wait_api_Wait_Fix_2 (a0 : List Wait) (a1_c0 : Int) (a1_c1 : Num) : Option Int :=
 andThen (rangeM (slices_IndexFunc_api_Wait_api_Wait_Fix_2_B0 a0 a1_c0 a1_c1) a0.length 0 ()) fun _ =>
 some (-1 : Int)
def slices_ContainsFunc_api_Wait_api_Wait_Fix_2 (a0 : List Wait) (a1_c0 : Int) (a1_c1 : Num) : Option Bool :=
 (slices_IndexFunc_api_Wait_api_Wait_Fix_2 a0 a1_c0 a1_c1).bind fun r3 =>
 some (decide (r3 ≥ (0 : Int)))
def math_bits_Len64 (a0 : BitVec 64) : Option Int :=
 (bif decide ((a0.toNat : Int) ≥ ((4294967296 : BitVec 64).toNat : Int)) then (some (a0 >>> 32, (32 : Int))) else
 some (a0, (0 : Int))).bind fun (y1, y2) =>
 (bif decide ((y1.toNat : Int) ≥ ((65536 : BitVec 64).toNat : Int)) then (some (y1 >>> 16, w64 (y2 + (16 : Int)))) else
 some (y1, y2)).bind fun (y7, y8) =>
 (bif decide ((y7.toNat : Int) ≥ ((256 : BitVec 64).toNat : Int)) then (some (y7 >>> 8, w64 (y8 + (8 : Int)))) else
 some (y7, y8)).bind fun (y13, y14) =>
 (lat ([0, 1, 2, 2, 3, 3, 3, 3, 4, 4, 4, 4, 4, 4, 4, 4, 5, 5, 5, 5, 5, 5, 5, 5, 5, 5, 5, 5, 5, 5, 5, 5, 6, 6, 6, 6, 6, 6, 6, 6, 6, 6, 6, 6, 6, 6, 6, 6, 6, 6, 6, 6, 6, 6, 6, 6, 6, 6, 6, 6, 6, 6, 6, 6, 7, 7, 7, 7, 7, 7, 7, 7, 7, 7, 7, 7, 7, 7, 7, 7, 7, 7, 7, 7, 7, 7, 7, 7, 7, 7, 7, 7, 7, 7, 7, 7, 7, 7, 7, 7, 7, 7, 7, 7, 7, 7, 7, 7, 7, 7, 7, 7, 7, 7, 7, 7, 7, 7, 7, 7, 7, 7, 7, 7, 7, 7, 7, 7, 8, 8, 8, 8, 8, 8, 8, 8, 8, 8, 8, 8, 8, 8, 8, 8, 8, 8, 8, 8, 8, 8, 8, 8, 8, 8, 8, 8, 8, 8, 8, 8, 8, 8, 8, 8, 8, 8, 8, 8, 8, 8, 8, 8, 8, 8, 8, 8, 8, 8, 8, 8, 8, 8, 8, 8, 8, 8, 8, 8, 8, 8, 8, 8, 8, 8, 8, 8, 8, 8, 8, 8, 8, 8, 8, 8, 8, 8, 8, 8, 8, 8, 8, 8, 8, 8, 8, 8, 8, 8, 8, 8, 8, 8, 8, 8, 8, 8, 8, 8, 8, 8, 8, 8, 8, 8, 8, 8, 8, 8, 8, 8, 8, 8, 8, 8, 8, 8, 8, 8, 8, 8, 8, 8, 8, 8, 8, 8] : Str) ((BitVec.ofInt 8 (y13.toNat : Int)).toNat : Int)).bind fun x19 =>
 some (w64 (y14 + (x19.toBitVec.toNat : Int)))
def math_bits_Len (a0 : BitVec 64) : Option Int :=
 (math_bits_Len64 a0).bind fun r1 =>
 some r1
def skeen_Fix_3 (a0 : Wait) (a1 : Wait) : Option Int :=
 (skeen_compare a0.Num_ a1.Num_).bind fun r5 =>
 some r5
def slices_insertionSortCmpFunc_api_Wait_Fix_3_B2 (a1 : Int) (z8 : Int × (List Wait)) : Option (Ctl (Int × (List Wait)) (Ctl (Int × (List Wait)) (List Wait))) :=
 (bif decide (z8.1 > a1) then ((lat z8.2 z8.1).bind fun x16 =>
 (lat z8.2 (w64 (z8.1 - (1 : Int)))).bind fun x19 =>
 (skeen_Fix_3 x16 x19).bind fun r22 =>
 some (decide (r22 < (0 : Int)))) else
 some false).bind fun y14 =>
 bif y14 then ((lat z8.2 (w64 (z8.1 - (1 : Int)))).bind fun x27 =>
 (lat z8.2 z8.1).bind fun x30 =>
 (lat z8.2 z8.1).bind fun x33 =>
 Let (z8.2.set z8.1.toNat x27) fun p36 =>
 Let p36 fun l39 =>
 (lat l39 (w64 (z8.1 - (1 : Int)))).bind fun x56 =>
 Let (l39.set (w64 (z8.1 - (1 : Int))).toNat x30) fun p59 =>
 some (.go (w64 (z8.1 - (1 : Int)), p59))) else
 some (.brk (z8.1, z8.2))
def slices_insertionSortCmpFunc_api_Wait_Fix_3_B0 (fu : Nat) (a1 : Int) (a2 : Int) (z2 : Int × (List Wait)) : Option (Ctl (Int × (List Wait)) (List Wait)) :=
 bif decide (z2.1 < a2) then (andThen (whileM (slices_insertionSortCmpFunc_api_Wait_Fix_3_B2 a1) fu (z2.1, z2.2)) fun (y9, l10) =>
 some (.go (w64 (z2.1 + (1 : Int)), l10))) else
 some (.brk (z2.1, z2.2))
def slices_insertionSortCmpFunc_api_Wait_Fix_3 (fu : Nat) (a0 : List Wait) (a1 : Int) (a2 : Int) : Option (List Wait) :=
 andThen (whileM (slices_insertionSortCmpFunc_api_Wait_Fix_3_B0 fu a1 a2) fu (w64 (a1 + (1 : Int)), a0)) fun (y3, l4) =>
 some l4
def slices_siftDownCmpFunc_api_Wait_Fix_3_B0 (a2 : Int) (a3 : Int) (z2 : Int × (List Wait)) : Option (Ctl (Int × (List Wait)) (List Wait)) :=
 bif decide ((w64 ((w64 ((2 : Int) * z2.1)) + (1 : Int))) ≥ a2) then (some (.brk (z2.1, z2.2))) else
 ((bif decide ((w64 ((w64 ((w64 ((2 : Int) * z2.1)) + (1 : Int))) + (1 : Int))) < a2) then ((lat z2.2 (w64 (a3 + (w64 ((w64 ((2 : Int) * z2.1)) + (1 : Int)))))).bind fun x13 =>
 (lat z2.2 (w64 ((w64 (a3 + (w64 ((w64 ((2 : Int) * z2.1)) + (1 : Int))))) + (1 : Int)))).bind fun x16 =>
 (skeen_Fix_3 x13 x16).bind fun r19 =>
 some (decide (r19 < (0 : Int)))) else
 some false).bind fun y11 =>
 bif y11 then (some (w64 ((w64 ((w64 ((2 : Int) * z2.1)) + (1 : Int))) + (1 : Int)))) else
 some (w64 ((w64 ((2 : Int) * z2.1)) + (1 : Int)))).bind fun y8 =>
 (lat z2.2 (w64 (a3 + z2.1))).bind fun x26 =>
 (lat z2.2 (w64 (a3 + y8))).bind fun x29 =>
 (skeen_Fix_3 x26 x29).bind fun r32 =>
 bif !(decide (r32 < (0 : Int))) then (some (.ret z2.2)) else
 (lat z2.2 (w64 (a3 + y8))).bind fun x37 =>
 (lat z2.2 (w64 (a3 + z2.1))).bind fun x40 =>
 (lat z2.2 (w64 (a3 + z2.1))).bind fun x43 =>
 Let (z2.2.set (w64 (a3 + z2.1)).toNat x37) fun p46 =>
 Let p46 fun l49 =>
 (lat l49 (w64 (a3 + y8))).bind fun x66 =>
 Let (l49.set (w64 (a3 + y8)).toNat x40) fun p69 =>
 some (.go (y8, p69))
def slices_siftDownCmpFunc_api_Wait_Fix_3 (fu : Nat) (a0 : List Wait) (a1 : Int) (a2 : Int) (a3 : Int) : Option (List Wait) :=
 andThen (whileM (slices_siftDownCmpFunc_api_Wait_Fix_3_B0 a2 a3) fu (a1, a0)) fun (y3, l4) =>
 some l4
def slices_heapSortCmpFunc_api_Wait_Fix_3_B2 (fu : Nat) (a1 : Int) (z8 : Int × (List Wait)) : Option (Ctl (Int × (List Wait)) (List Wait)) :=
 bif decide (z8.1 ≥ (0 : Int)) then ((lat z8.2 (w64 (a1 + z8.1))).bind fun x14 =>
 (lat z8.2 a1).bind fun x17 =>
 (lat z8.2 a1).bind fun x20 =>
 Let (z8.2.set a1.toNat x14) fun p23 =>
 Let p23 fun l26 =>
 (lat l26 (w64 (a1 + z8.1))).bind fun x43 =>
 Let (l26.set (w64 (a1 + z8.1)).toNat x17) fun p46 =>
 (slices_siftDownCmpFunc_api_Wait_Fix_3 fu p46 (0 : Int) z8.1 a1).bind fun r48 =>
 some (.go (w64 (z8.1 - (1 : Int)), r48))) else
 some (.brk (z8.1, z8.2))
def slices_heapSortCmpFunc_api_Wait_Fix_3_B0 (fu : Nat) (a1 : Int) (a2 : Int) (z2 : Int × (List Wait)) : Option (Ctl (Int × (List Wait)) (List Wait)) :=
 bif decide (z2.1 ≥ (0 : Int)) then ((slices_siftDownCmpFunc_api_Wait_Fix_3 fu z2.2 z2.1 (w64 (a2 - a1)) a1).bind fun r52 =>
 some (.go (w64 (z2.1 - (1 : Int)), r52))) else
 some (.brk (z2.1, z2.2))
def slices_heapSortCmpFunc_api_Wait_Fix_3 (fu : Nat) (a0 : List Wait) (a1 : Int) (a2 : Int) : Option (List Wait) :=
 andThen (whileM (slices_heapSortCmpFunc_api_Wait_Fix_3_B0 fu a1 a2) fu (w64 ((w64 ((w64 (a2 - a1)) - (1 : Int))).tdiv (2 : Int)), a0)) fun (y3, l4) =>
 andThen (whileM (slices_heapSortCmpFunc_api_Wait_Fix_3_B2 fu a1) fu (w64 ((w64 (a2 - a1)) - (1 : Int)), l4)) fun (y9, l10) =>
 some l10
def slices_nextPowerOfTwo (a0 : Int) : Option (BitVec 64) :=
 (math_bits_Len (BitVec.ofInt 64 a0)).bind fun r1 =>
 (cnt r1).bind fun n5 =>
 some ((1 : BitVec 64) <<< n5)
def slices_xorshift_Next (a0 : BitVec 64) : Option ((BitVec 64) × (BitVec 64)) :=
 some (((a0 ^^^ (a0 <<< 13)) ^^^ ((a0 ^^^ (a0 <<< 13)) >>> 7)) ^^^ (((a0 ^^^ (a0 <<< 13)) ^^^ ((a0 ^^^ (a0 <<< 13)) >>> 7)) <<< 17), ((a0 ^^^ (a0 <<< 13)) ^^^ ((a0 ^^^ (a0 <<< 13)) >>> 7)) ^^^ (((a0 ^^^ (a0 <<< 13)) ^^^ ((a0 ^^^ (a0 <<< 13)) >>> 7)) <<< 17))
def slices_breakPatternsCmpFunc_api_Wait_Fix_3_B0 (a1 : Int) (a2 : Int) (r5 : (BitVec 64)) (z9 : Int × (BitVec 64) × (List Wait)) : Option (Ctl (Int × (BitVec 64) × (List Wait)) (List Wait)) :=
 bif decide (z9.1 ≤ (w64 ((w64 (a1 + (w64 ((w64 ((w64 (a2 - a1)).tdiv (4 : Int))) * (2 : Int))))) + (1 : Int)))) then ((slices_xorshift_Next z9.2.1).bind fun r16 =>
 (bif decide ((w64 ((r16.2 &&& (r5 - (1 : BitVec 64))).toNat : Int)) ≥ (w64 (a2 - a1))) then (some (w64 ((w64 ((r16.2 &&& (r5 - (1 : BitVec 64))).toNat : Int)) - (w64 (a2 - a1))))) else
 some (w64 ((r16.2 &&& (r5 - (1 : BitVec 64))).toNat : Int))).bind fun y20 =>
 (lat z9.2.2 (w64 (a1 + y20))).bind fun x25 =>
 (lat z9.2.2 z9.1).bind fun x28 =>
 (lat z9.2.2 z9.1).bind fun x31 =>
 Let (z9.2.2.set z9.1.toNat x25) fun p34 =>
 Let p34 fun l37 =>
 (lat l37 (w64 (a1 + y20))).bind fun x54 =>
 Let (l37.set (w64 (a1 + y20)).toNat x28) fun p57 =>
 some (.go (w64 (z9.1 + (1 : Int)), r16.1, p57))) else
 some (.brk (z9.1, z9.2.1, z9.2.2))
def slices_breakPatternsCmpFunc_api_Wait_Fix_3 (fu : Nat) (a0 : List Wait) (a1 : Int) (a2 : Int) : Option (List Wait) :=
 bif decide ((w64 (a2 - a1)) ≥ (8 : Int)) then ((slices_nextPowerOfTwo (w64 (a2 - a1))).bind fun r5 =>
 andThen (whileM (slices_breakPatternsCmpFunc_api_Wait_Fix_3_B0 a1 a2 r5) fu (w64 ((w64 (a1 + (w64 ((w64 ((w64 (a2 - a1)).tdiv (4 : Int))) * (2 : Int))))) - (1 : Int)), BitVec.ofInt 64 (w64 (a2 - a1)), a0)) fun (y10, y11, l12) =>
 some l12) else
 some a0
def slices_order2CmpFunc_api_Wait_Fix_3 (a0 : List Wait) (a1 : Int) (a2 : Int) (a3 : Int) : Option (Int × Int × Int) :=
 (lat a0 a2).bind fun x2 =>
 (lat a0 a1).bind fun x5 =>
 (skeen_Fix_3 x2 x5).bind fun r8 =>
 bif decide (r8 < (0 : Int)) then (some (w64 (a3 + (1 : Int)), a2, a1)) else
 some (a3, a1, a2)
def slices_medianCmpFunc_api_Wait_Fix_3 (a0 : List Wait) (a1 : Int) (a2 : Int) (a3 : Int) (a4 : Int) : Option (Int × Int) :=
 (slices_order2CmpFunc_api_Wait_Fix_3 a0 a1 a2 a4).bind fun r2 =>
 (slices_order2CmpFunc_api_Wait_Fix_3 a0 r2.2.2 a3 r2.1).bind fun r6 =>
 (slices_order2CmpFunc_api_Wait_Fix_3 a0 r2.2.1 r6.2.1 r6.1).bind fun r10 =>
 some (r10.1, r10.2.2)
def slices_medianAdjacentCmpFunc_api_Wait_Fix_3 (a0 : List Wait) (a1 : Int) (a2 : Int) : Option (Int × Int) :=
 (slices_medianCmpFunc_api_Wait_Fix_3 a0 (w64 (a1 - (1 : Int))) a1 (w64 (a1 + (1 : Int))) a2).bind fun r2 =>
 some (r2.1, r2.2)
def slices_choosePivotCmpFunc_api_Wait_Fix_3 (a0 : List Wait) (a1 : Int) (a2 : Int) : Option (Int × Int) :=
 (bif decide ((w64 (a2 - a1)) ≥ (8 : Int)) then ((bif decide ((w64 (a2 - a1)) ≥ (50 : Int)) then ((slices_medianAdjacentCmpFunc_api_Wait_Fix_3 a0 (w64 (a1 + (w64 ((w64 ((w64 (a2 - a1)).tdiv (4 : Int))) * (1 : Int))))) (0 : Int)).bind fun r13 =>
 (slices_medianAdjacentCmpFunc_api_Wait_Fix_3 a0 (w64 (a1 + (w64 ((w64 ((w64 (a2 - a1)).tdiv (4 : Int))) * (2 : Int))))) r13.1).bind fun r17 =>
 (slices_medianAdjacentCmpFunc_api_Wait_Fix_3 a0 (w64 (a1 + (w64 ((w64 ((w64 (a2 - a1)).tdiv (4 : Int))) * (3 : Int))))) r17.1).bind fun r21 =>
 some (r13.2, r17.2, r21.2, r21.1)) else
 some (w64 (a1 + (w64 ((w64 ((w64 (a2 - a1)).tdiv (4 : Int))) * (1 : Int)))), w64 (a1 + (w64 ((w64 ((w64 (a2 - a1)).tdiv (4 : Int))) * (2 : Int)))), w64 (a1 + (w64 ((w64 ((w64 (a2 - a1)).tdiv (4 : Int))) * (3 : Int)))), (0 : Int))).bind fun (y7, y8, y9, y10) =>
 (slices_medianCmpFunc_api_Wait_Fix_3 a0 y7 y8 y9 y10).bind fun r27 =>
 some (r27.2, r27.1)) else
 some (w64 (a1 + (w64 ((w64 ((w64 (a2 - a1)).tdiv (4 : Int))) * (2 : Int)))), (0 : Int))).bind fun (y3, y4) =>
 bif y4 == (0 : Int) then (some (y3, (1 : Int))) else
 bif y4 == (12 : Int) then (some (y3, (2 : Int))) else
 some (y3, (0 : Int))
def slices_reverseRangeCmpFunc_api_Wait_Fix_3_B0 (z2 : Int × Int × (List Wait)) : Option (Ctl (Int × Int × (List Wait)) (List Wait)) :=
 bif decide (z2.1 < z2.2.1) then ((lat z2.2.2 z2.2.1).bind fun x9 =>
 (lat z2.2.2 z2.1).bind fun x12 =>
 (lat z2.2.2 z2.1).bind fun x15 =>
 Let (z2.2.2.set z2.1.toNat x9) fun p18 =>
 Let p18 fun l21 =>
 (lat l21 z2.2.1).bind fun x38 =>
 Let (l21.set z2.2.1.toNat x12) fun p41 =>
 some (.go (w64 (z2.1 + (1 : Int)), w64 (z2.2.1 - (1 : Int)), p41))) else
 some (.brk (z2.1, z2.2.1, z2.2.2))
def slices_reverseRangeCmpFunc_api_Wait_Fix_3 (fu : Nat) (a0 : List Wait) (a1 : Int) (a2 : Int) : Option (List Wait) :=
 andThen (whileM (slices_reverseRangeCmpFunc_api_Wait_Fix_3_B0) fu (a1, w64 (a2 - (1 : Int)), a0)) fun (y3, y4, l5) =>
 some l5
def slices_partialInsertionSortCmpFunc_api_Wait_Fix_3_B4 (z66 : Int × (List Wait)) : Option (Ctl (Int × (List Wait)) (List Wait)) :=
 bif decide (z66.1 ≥ (1 : Int)) then ((lat z66.2 z66.1).bind fun x72 =>
 (lat z66.2 (w64 (z66.1 - (1 : Int)))).bind fun x75 =>
 (skeen_Fix_3 x72 x75).bind fun r78 =>
 bif !(decide (r78 < (0 : Int))) then (some (.brk (z66.1, z66.2))) else
 (lat z66.2 (w64 (z66.1 - (1 : Int)))).bind fun x83 =>
 (lat z66.2 z66.1).bind fun x86 =>
 (lat z66.2 z66.1).bind fun x89 =>
 Let (z66.2.set z66.1.toNat x83) fun p92 =>
 Let p92 fun l95 =>
 (lat l95 (w64 (z66.1 - (1 : Int)))).bind fun x112 =>
 Let (l95.set (w64 (z66.1 - (1 : Int))).toNat x86) fun p115 =>
 some (.go (w64 (z66.1 - (1 : Int)), p115))) else
 some (.brk (z66.1, z66.2))
def slices_partialInsertionSortCmpFunc_api_Wait_Fix_3_B6 (a2 : Int) (z120 : Int × (List Wait)) : Option (Ctl (Int × (List Wait)) (Ctl (Int × Int × (List Wait)) ((List Wait) × Bool))) :=
 bif decide (z120.1 < a2) then ((lat z120.2 z120.1).bind fun x126 =>
 (lat z120.2 (w64 (z120.1 - (1 : Int)))).bind fun x129 =>
 (skeen_Fix_3 x126 x129).bind fun r132 =>
 bif !(decide (r132 < (0 : Int))) then (some (.brk (z120.1, z120.2))) else
 (lat z120.2 (w64 (z120.1 - (1 : Int)))).bind fun x137 =>
 (lat z120.2 z120.1).bind fun x140 =>
 (lat z120.2 z120.1).bind fun x143 =>
 Let (z120.2.set z120.1.toNat x137) fun p146 =>
 Let p146 fun l149 =>
 (lat l149 (w64 (z120.1 - (1 : Int)))).bind fun x166 =>
 Let (l149.set (w64 (z120.1 - (1 : Int))).toNat x140) fun p169 =>
 some (.go (w64 (z120.1 + (1 : Int)), p169))) else
 some (.brk (z120.1, z120.2))
def slices_partialInsertionSortCmpFunc_api_Wait_Fix_3_B2 (a2 : Int) (l5 : List Wait) (z9 : Int) : Option (Ctl Int (Ctl (Int × Int × (List Wait)) ((List Wait) × Bool))) :=
 (bif decide (z9 < a2) then ((lat l5 z9).bind fun x16 =>
 (lat l5 (w64 (z9 - (1 : Int)))).bind fun x19 =>
 (skeen_Fix_3 x16 x19).bind fun r22 =>
 some (!(decide (r22 < (0 : Int))))) else
 some false).bind fun y14 =>
 bif y14 then (some (.go (w64 (z9 + (1 : Int))))) else
 some (.brk z9)
def slices_partialInsertionSortCmpFunc_api_Wait_Fix_3_B0 (fu : Nat) (a1 : Int) (a2 : Int) (z2 : Int × Int × (List Wait)) : Option (Ctl (Int × Int × (List Wait)) ((List Wait) × Bool)) :=
 bif decide (z2.2.1 < (5 : Int)) then (andThen (whileM (slices_partialInsertionSortCmpFunc_api_Wait_Fix_3_B2 a2 z2.2.2) fu z2.1) fun y10 =>
 bif y10 == a2 then (some (.ret (z2.2.2, true))) else
 bif decide ((w64 (a2 - a1)) < (50 : Int)) then (some (.ret (z2.2.2, false))) else
 (lat z2.2.2 (w64 (y10 - (1 : Int)))).bind fun x29 =>
 (lat z2.2.2 y10).bind fun x32 =>
 (lat z2.2.2 y10).bind fun x35 =>
 Let (z2.2.2.set y10.toNat x29) fun p38 =>
 Let p38 fun l41 =>
 (lat l41 (w64 (y10 - (1 : Int)))).bind fun x58 =>
 Let (l41.set (w64 (y10 - (1 : Int))).toNat x32) fun p61 =>
 (bif decide ((w64 (y10 - a1)) ≥ (2 : Int)) then (andThen (whileM (slices_partialInsertionSortCmpFunc_api_Wait_Fix_3_B4) fu (w64 (y10 - (1 : Int)), p61)) fun (y67, l68) =>
 some l68) else
 some p61).bind fun l63 =>
 bif decide ((w64 (a2 - y10)) ≥ (2 : Int)) then (andThen (whileM (slices_partialInsertionSortCmpFunc_api_Wait_Fix_3_B6 a2) fu (w64 (y10 + (1 : Int)), l63)) fun (y121, l122) =>
 some (.go (y10, w64 (z2.2.1 + (1 : Int)), l122))) else
 some (.go (y10, w64 (z2.2.1 + (1 : Int)), l63))) else
 some (.brk (z2.1, z2.2.1, z2.2.2))
def slices_partialInsertionSortCmpFunc_api_Wait_Fix_3 (fu : Nat) (a0 : List Wait) (a1 : Int) (a2 : Int) : Option ((List Wait) × Bool) :=
 andThen (whileM (slices_partialInsertionSortCmpFunc_api_Wait_Fix_3_B0 fu a1 a2) fu (w64 (a1 + (1 : Int)), (0 : Int), a0)) fun (y3, y4, l5) =>
 some (l5, false)
def slices_partitionEqualCmpFunc_api_Wait_Fix_3_B4 (a1 : Int) (l39 : List Wait) (y43 : Int) (z60 : Int) : Option (Ctl Int (Ctl (Int × Int × (List Wait)) ((List Wait) × Int))) :=
 (bif decide (y43 ≤ z60) then ((lat l39 a1).bind fun x67 =>
 (lat l39 z60).bind fun x70 =>
 (skeen_Fix_3 x67 x70).bind fun r73 =>
 some (decide (r73 < (0 : Int)))) else
 some false).bind fun y65 =>
 bif y65 then (some (.go (w64 (z60 - (1 : Int))))) else
 some (.brk z60)
def slices_partitionEqualCmpFunc_api_Wait_Fix_3_B2 (a1 : Int) (y38 : Int) (l39 : List Wait) (z42 : Int) : Option (Ctl Int (Ctl (Int × Int × (List Wait)) ((List Wait) × Int))) :=
 (bif decide (z42 ≤ y38) then ((lat l39 a1).bind fun x49 =>
 (lat l39 z42).bind fun x52 =>
 (skeen_Fix_3 x49 x52).bind fun r55 =>
 some (!(decide (r55 < (0 : Int))))) else
 some false).bind fun y47 =>
 bif y47 then (some (.go (w64 (z42 + (1 : Int))))) else
 some (.brk z42)
def slices_partitionEqualCmpFunc_api_Wait_Fix_3_B0 (fu : Nat) (a1 : Int) (z36 : Int × Int × (List Wait)) : Option (Ctl (Int × Int × (List Wait)) ((List Wait) × Int)) :=
 andThen (whileM (slices_partitionEqualCmpFunc_api_Wait_Fix_3_B2 a1 z36.2.1 z36.2.2) fu z36.1) fun y43 =>
 andThen (whileM (slices_partitionEqualCmpFunc_api_Wait_Fix_3_B4 a1 z36.2.2 y43) fu z36.2.1) fun y61 =>
 bif decide (y43 > y61) then (some (.brk (y43, y61, z36.2.2))) else
 (lat z36.2.2 y61).bind fun x79 =>
 (lat z36.2.2 y43).bind fun x82 =>
 (lat z36.2.2 y43).bind fun x85 =>
 Let (z36.2.2.set y43.toNat x79) fun p88 =>
 Let p88 fun l91 =>
 (lat l91 y61).bind fun x108 =>
 Let (l91.set y61.toNat x82) fun p111 =>
 some (.go (w64 (y43 + (1 : Int)), w64 (y61 - (1 : Int)), p111))
def slices_partitionEqualCmpFunc_api_Wait_Fix_3 (fu : Nat) (a0 : List Wait) (a1 : Int) (a2 : Int) (a3 : Int) : Option ((List Wait) × Int) :=
 (lat a0 a3).bind fun x2 =>
 (lat a0 a1).bind fun x5 =>
 (lat a0 a1).bind fun x8 =>
 Let (a0.set a1.toNat x2) fun p11 =>
 Let p11 fun l14 =>
 (lat l14 a3).bind fun x31 =>
 Let (l14.set a3.toNat x5) fun p34 =>
 andThen (whileM (slices_partitionEqualCmpFunc_api_Wait_Fix_3_B0 fu a1) fu (w64 (a1 + (1 : Int)), w64 (a2 - (1 : Int)), p34)) fun (y37, y38, l39) =>
 some (l39, y37)
def slices_partitionCmpFunc_api_Wait_Fix_3_B8 (a1 : Int) (l144 : List Wait) (y148 : Int) (z165 : Int) : Option (Ctl Int (Ctl (Int × Int × (List Wait)) ((List Wait) × Int × Bool))) :=
 (bif decide (y148 ≤ z165) then ((lat l144 z165).bind fun x172 =>
 (lat l144 a1).bind fun x175 =>
 (skeen_Fix_3 x172 x175).bind fun r178 =>
 some (!(decide (r178 < (0 : Int))))) else
 some false).bind fun y170 =>
 bif y170 then (some (.go (w64 (z165 - (1 : Int))))) else
 some (.brk z165)
def slices_partitionCmpFunc_api_Wait_Fix_3_B6 (a1 : Int) (y143 : Int) (l144 : List Wait) (z147 : Int) : Option (Ctl Int (Ctl (Int × Int × (List Wait)) ((List Wait) × Int × Bool))) :=
 (bif decide (z147 ≤ y143) then ((lat l144 z147).bind fun x154 =>
 (lat l144 a1).bind fun x157 =>
 (skeen_Fix_3 x154 x157).bind fun r160 =>
 some (decide (r160 < (0 : Int)))) else
 some false).bind fun y152 =>
 bif y152 then (some (.go (w64 (z147 + (1 : Int))))) else
 some (.brk z147)
def slices_partitionCmpFunc_api_Wait_Fix_3_B4 (fu : Nat) (a1 : Int) (z141 : Int × Int × (List Wait)) : Option (Ctl (Int × Int × (List Wait)) ((List Wait) × Int × Bool)) :=
 andThen (whileM (slices_partitionCmpFunc_api_Wait_Fix_3_B6 a1 z141.2.1 z141.2.2) fu z141.1) fun y148 =>
 andThen (whileM (slices_partitionCmpFunc_api_Wait_Fix_3_B8 a1 z141.2.2 y148) fu z141.2.1) fun y166 =>
 bif decide (y148 > y166) then (some (.brk (y148, y166, z141.2.2))) else
 (lat z141.2.2 y166).bind fun x218 =>
 (lat z141.2.2 y148).bind fun x221 =>
 (lat z141.2.2 y148).bind fun x224 =>
 Let (z141.2.2.set y148.toNat x218) fun p227 =>
 Let p227 fun l230 =>
 (lat l230 y166).bind fun x247 =>
 Let (l230.set y166.toNat x221) fun p250 =>
 some (.go (w64 (y148 + (1 : Int)), w64 (y166 - (1 : Int)), p250))
def slices_partitionCmpFunc_api_Wait_Fix_3_B2 (a1 : Int) (p34 : List Wait) (y37 : Int) (z54 : Int) : Option (Ctl Int ((List Wait) × Int × Bool)) :=
 (bif decide (y37 ≤ z54) then ((lat p34 z54).bind fun x61 =>
 (lat p34 a1).bind fun x64 =>
 (skeen_Fix_3 x61 x64).bind fun r67 =>
 some (!(decide (r67 < (0 : Int))))) else
 some false).bind fun y59 =>
 bif y59 then (some (.go (w64 (z54 - (1 : Int))))) else
 some (.brk z54)
def slices_partitionCmpFunc_api_Wait_Fix_3_B0 (a1 : Int) (a2 : Int) (p34 : List Wait) (z36 : Int) : Option (Ctl Int ((List Wait) × Int × Bool)) :=
 (bif decide (z36 ≤ (w64 (a2 - (1 : Int)))) then ((lat p34 z36).bind fun x43 =>
 (lat p34 a1).bind fun x46 =>
 (skeen_Fix_3 x43 x46).bind fun r49 =>
 some (decide (r49 < (0 : Int)))) else
 some false).bind fun y41 =>
 bif y41 then (some (.go (w64 (z36 + (1 : Int))))) else
 some (.brk z36)
def slices_partitionCmpFunc_api_Wait_Fix_3 (fu : Nat) (a0 : List Wait) (a1 : Int) (a2 : Int) (a3 : Int) : Option ((List Wait) × Int × Bool) :=
 (lat a0 a3).bind fun x2 =>
 (lat a0 a1).bind fun x5 =>
 (lat a0 a1).bind fun x8 =>
 Let (a0.set a1.toNat x2) fun p11 =>
 Let p11 fun l14 =>
 (lat l14 a3).bind fun x31 =>
 Let (l14.set a3.toNat x5) fun p34 =>
 andThen (whileM (slices_partitionCmpFunc_api_Wait_Fix_3_B0 a1 a2 p34) fu (w64 (a1 + (1 : Int)))) fun y37 =>
 andThen (whileM (slices_partitionCmpFunc_api_Wait_Fix_3_B2 a1 p34 y37) fu (w64 (a2 - (1 : Int)))) fun y55 =>
 bif decide (y37 > y55) then ((lat p34 a1).bind fun x73 =>
 (lat p34 y55).bind fun x76 =>
 (lat p34 y55).bind fun x79 =>
 Let (p34.set y55.toNat x73) fun p82 =>
 Let p82 fun l85 =>
 (lat l85 a1).bind fun x102 =>
 Let (l85.set a1.toNat x76) fun p105 =>
 some (p105, y55, true)) else
 (lat p34 y55).bind fun x107 =>
 (lat p34 y37).bind fun x110 =>
 (lat p34 y37).bind fun x113 =>
 Let (p34.set y37.toNat x107) fun p116 =>
 Let p116 fun l119 =>
 (lat l119 y55).bind fun x136 =>
 Let (l119.set y55.toNat x110) fun p139 =>
 andThen (whileM (slices_partitionCmpFunc_api_Wait_Fix_3_B4 fu a1) fu (w64 (y37 + (1 : Int)), w64 (y55 - (1 : Int)), p139)) fun (y142, y143, l144) =>
 (lat l144 a1).bind fun x252 =>
 (lat l144 y143).bind fun x255 =>
 (lat l144 y143).bind fun x258 =>
 Let (l144.set y143.toNat x252) fun p261 =>
 Let p261 fun l264 =>
 (lat l264 a1).bind fun x281 =>
 Let (l264.set a1.toNat x255) fun p284 =>
 some (p284, y143, false)
def slices_pdqsortCmpFunc_api_Wait_Fix_3_B0 (fu : Nat) (rc : (List Wait) → Int → Int → Int → Option (List Wait)) (z2 : Int × Int × Int × Bool × Bool × (List Wait)) : Option (Ctl (Int × Int × Int × Bool × Bool × (List Wait)) (List Wait)) :=
 bif decide ((w64 (z2.2.1 - z2.1)) ≤ (12 : Int)) then ((slices_insertionSortCmpFunc_api_Wait_Fix_3 fu z2.2.2.2.2.2 z2.1 z2.2.1).bind fun r12 =>
 some (.ret r12)) else
 bif z2.2.2.1 == (0 : Int) then ((slices_heapSortCmpFunc_api_Wait_Fix_3 fu z2.2.2.2.2.2 z2.1 z2.2.1).bind fun r17 =>
 some (.ret r17)) else
 (bif !z2.2.2.2.1 then ((slices_breakPatternsCmpFunc_api_Wait_Fix_3 fu z2.2.2.2.2.2 z2.1 z2.2.1).bind fun r25 =>
 some (w64 (z2.2.2.1 - (1 : Int)), r25)) else
 some (z2.2.2.1, z2.2.2.2.2.2)).bind fun (y21, l22) =>
 (slices_choosePivotCmpFunc_api_Wait_Fix_3 l22 z2.1 z2.2.1).bind fun r31 =>
 (bif r31.2 == (2 : Int) then ((slices_reverseRangeCmpFunc_api_Wait_Fix_3 fu l22 z2.1 z2.2.1).bind fun r40 =>
 some (w64 ((w64 (z2.2.1 - (1 : Int))) - (w64 (r31.1 - z2.1))), (1 : Int), r40)) else
 some (r31.1, r31.2, l22)).bind fun (y35, y36, l37) =>
 andThen ((bif z2.2.2.2.1 then (some z2.2.2.2.2.1) else
 some false).bind fun y49 =>
 (bif y49 then (some (y36 == (1 : Int))) else
 some false).bind fun y54 =>
 bif y54 then ((slices_partialInsertionSortCmpFunc_api_Wait_Fix_3 fu l37 z2.1 z2.2.1).bind fun r59 =>
 bif r59.2 then (some (.inr (.ret r59.1))) else
 some (.inl r59.1)) else
 some (.inl l37)) fun l46 =>
 (bif decide (z2.1 > (0 : Int)) then ((lat l46 (w64 (z2.1 - (1 : Int)))).bind fun x69 =>
 (lat l46 y35).bind fun x72 =>
 (skeen_Fix_3 x69 x72).bind fun r75 =>
 some (!(decide (r75 < (0 : Int))))) else
 some false).bind fun y67 =>
 bif y67 then ((slices_partitionEqualCmpFunc_api_Wait_Fix_3 fu l46 z2.1 z2.2.1 y35).bind fun r80 =>
 some (.go (r80.2, z2.2.1, y21, z2.2.2.2.1, z2.2.2.2.2.1, r80.1))) else
 (slices_partitionCmpFunc_api_Wait_Fix_3 fu l46 z2.1 z2.2.1 y35).bind fun r84 =>
 bif decide ((w64 (r84.2.1 - z2.1)) < (w64 (z2.2.1 - r84.2.1))) then ((rc r84.1 z2.1 r84.2.1 y21).bind fun r93 =>
 some (.go (w64 (r84.2.1 + (1 : Int)), z2.2.1, y21, decide ((w64 (r84.2.1 - z2.1)) ≥ (w64 ((w64 (z2.2.1 - z2.1)).tdiv (8 : Int)))), r84.2.2, r93))) else
 (rc r84.1 (w64 (r84.2.1 + (1 : Int))) z2.2.1 y21).bind fun r89 =>
 some (.go (z2.1, r84.2.1, y21, decide ((w64 (z2.2.1 - r84.2.1)) ≥ (w64 ((w64 (z2.2.1 - z2.1)).tdiv (8 : Int)))), r84.2.2, r89))
def slices_pdqsortCmpFunc_api_Wait_Fix_3_R (fu : Nat) (rc : (List Wait) → Int → Int → Int → Option (List Wait)) (a0 : List Wait) (a1 : Int) (a2 : Int) (a3 : Int) : Option (List Wait) :=
 andThen (whileM (slices_pdqsortCmpFunc_api_Wait_Fix_3_B0 fu rc) fu (a1, a2, a3, true, true, a0)) fun (y3, y4, y5, y6, y7, l8) =>
 none
def slices_pdqsortCmpFunc_api_Wait_Fix_3 : (fu : Nat) → (a0 : List Wait) → (a1 : Int) → (a2 : Int) → (a3 : Int) → Option (List Wait)
  | 0, _, _, _, _ => none
  | fu + 1, a0, a1, a2, a3 => slices_pdqsortCmpFunc_api_Wait_Fix_3_R fu (slices_pdqsortCmpFunc_api_Wait_Fix_3 fu) a0 a1 a2 a3
def slices_SortFunc_api_Wait_api_Wait_Fix_3 (fu : Nat) (a0 : List Wait) : Option (List Wait) :=
 (math_bits_Len (BitVec.ofInt 64 (a0.length : Int))).bind fun r2 =>
 (slices_pdqsortCmpFunc_api_Wait_Fix_3 fu a0 (0 : Int) (a0.length : Int) r2).bind fun r6 =>
 some r6
def skeen_Fix_B0 (z109 : Skeen × (List Int) × (List Wait)) : Option (Ctl (Skeen × (List Int) × (List Wait)) (Skeen × (List Int) × Int)) :=
 (bif decide ((z109.2.2.length : Int) > (0 : Int)) then ((lat z109.2.2 (0 : Int)).bind fun x120 =>
 some x120.Fixed) else
 some false).bind fun y118 =>
 bif y118 then ((lat z109.2.2 (0 : Int)).bind fun x132 =>
 (room z109.2.1 ([x132.Id] : List Int)).bind fun u137 =>
 (cutL z109.2.2 (1 : Int) (z109.2.2.length : Int)).bind fun m140 =>
 some (.go (({ z109.1 with Wait := m140 } : Skeen), z109.2.1 ++ ([x132.Id] : List Int), m140))) else
 some (.brk (({ z109.1 with Wait := z109.2.2 } : Skeen), z109.2.1, z109.2.2))
def skeen_Fix (fu : Nat) (a0 : Skeen) (a1 : Int) (a2 : Num) : Option (Skeen × (List Int) × Int) :=
 (skeen_Check a0).bind fun r11 =>
 bif r11 != (0 : Int) then (some (({ Skeen.zero with Wait := ([] : List Wait) } : Skeen), ([] : List Int), r11)) else
 (skeen_in a2.N (1 : Int) (16777215 : Int)).bind fun r18 =>
 (bif !r18 then (some true) else
 (skeen_in a2.By (0 : Int) (5 : Int)).bind fun r25 =>
 some (!r25)).bind fun y23 =>
 bif y23 then (some (({ Skeen.zero with Wait := ([] : List Wait) } : Skeen), ([] : List Int), (1 : Int))) else
 (slices_IndexFunc_api_Wait_api_Wait_Fix_1 a0.Wait a1).bind fun r34 =>
 bif decide (r34 < (0 : Int)) then (some (({ Skeen.zero with Wait := ([] : List Wait) } : Skeen), ([] : List Int), (6 : Int))) else
 (lat a0.Wait r34).bind fun x41 =>
 (skeen_compare a2 x41.Num_).bind fun r44 =>
 (bif decide (r44 < (0 : Int)) then (some true) else
 (slices_ContainsFunc_api_Wait_api_Wait_Fix_2 a0.Wait a1 a2).bind fun r51 =>
 some r51).bind fun y49 =>
 bif y49 then (some (({ Skeen.zero with Wait := ([] : List Wait) } : Skeen), ([] : List Int), (10 : Int))) else
 (slices_Clone_api_Wait_api_Wait a0.Wait).bind fun r58 =>
 Let (([] : List Wait), r58) fun (l70, l72) =>
 (lat l72 r34).bind fun x85 =>
 Let (l72.set r34.toNat ({ x85 with Num_ := a2 } : Wait)) fun p88 =>
 Let p88 fun l91 =>
 (lat l91 r34).bind fun x99 =>
 Let (l91.set r34.toNat ({ x99 with Fixed := true } : Wait)) fun p102 =>
 (slices_SortFunc_api_Wait_api_Wait_Fix_3 fu p102).bind fun r104 =>
 andThen (whileM (skeen_Fix_B0) fu (({ Skeen.zero with Me := a0.Me, Clock := max a0.Clock a2.N, Wait := r104 } : Skeen), ([] : List Int), r104)) fun (y110, l112, l114) =>
 (slices_Clone_api_Wait_api_Wait l114).bind fun r145 =>
 some (({ y110 with Wait := r145 } : Skeen), l112, (0 : Int))
def slices_MaxFunc_api_Num_api_Num_skeen_compare_B0 (a0 : List Num) (z9 : Int × Num) : Option (Ctl (Int × Num) Num) :=
 bif decide (z9.1 < (a0.length : Int)) then ((lat a0 z9.1).bind fun x15 =>
 (skeen_compare x15 z9.2).bind fun r18 =>
 bif decide (r18 > (0 : Int)) then ((lat a0 z9.1).bind fun x23 =>
 some (.go (w64 (z9.1 + (1 : Int)), x23))) else
 some (.go (w64 (z9.1 + (1 : Int)), z9.2))) else
 some (.brk (z9.1, z9.2))
def slices_MaxFunc_api_Num_api_Num_skeen_compare (fu : Nat) (a0 : List Num) : Option Num :=
 bif decide ((a0.length : Int) < (1 : Int)) then (none) else
 (lat a0 (0 : Int)).bind fun x4 =>
 andThen (whileM (slices_MaxFunc_api_Num_api_Num_skeen_compare_B0 a0) fu ((1 : Int), x4)) fun (y10, y11) =>
 some y11
def skeen_Most (fu : Nat) (a0 : List Num) : Option (Num × Int) :=
 bif (a0.length : Int) == (0 : Int) then (some (Num.zero, (6 : Int))) else
 (slices_MaxFunc_api_Num_api_Num_skeen_compare fu a0).bind fun r4 =>
 some (r4, (0 : Int))
def slices_Index_api_Num_api_Num_B0 (a0 : List Num) (a1 : Num) (i3 : Nat) (z3 : Unit) : Option (Ctl Unit Int) :=
 (lat a0 (i3 : Int)).bind fun x6 =>
 bif decide (a1 = x6) then (some (.ret (i3 : Int))) else
 some (.go ())
def slices_Index_api_Num_api_Num (a0 : List Num) (a1 : Num) : Option Int :=
 andThen (rangeM (slices_Index_api_Num_api_Num_B0 a0 a1) a0.length 0 ()) fun _ =>
 some (-1 : Int)
def slices_Contains_api_Num_api_Num (a0 : List Num) (a1 : Num) : Option Bool :=
 (slices_Index_api_Num_api_Num a0 a1).bind fun r3 =>
 some (decide (r3 ≥ (0 : Int)))
def partlaw_SkeenSays_1 (a0 : Num) (a1 : Num) : Option Bool :=
 (partref_Less a1 a0).bind fun r4 =>
 some r4
def slices_IndexFunc_api_Num_api_Num_SkeenSays_1_B0 (a0 : List Num) (a1_c0 : Num) (i2 : Nat) (z2 : Unit) : Option (Ctl Unit Int) :=
 (lat a0 (i2 : Int)).bind fun x5 =>
 (partlaw_SkeenSays_1 x5 a1_c0).bind fun r8 =>
 bif r8 then (some (.ret (i2 : Int))) else
 some (.go ())
def slices_IndexFunc_api_Num_api_Num_SkeenSays_1 (a0 : List Num) (a1_c0 : Num) : Option Int :=
 andThen (rangeM (slices_IndexFunc_api_Num_api_Num_SkeenSays_1_B0 a0 a1_c0) a0.length 0 ()) fun _ =>
 some (-1 : Int)
def slices_ContainsFunc_api_Num_api_Num_SkeenSays_1 (a0 : List Num) (a1_c0 : Num) : Option Bool :=
 (slices_IndexFunc_api_Num_api_Num_SkeenSays_1 a0 a1_c0).bind fun r2 =>
 some (decide (r2 ≥ (0 : Int)))
def slices_Equal_api_Wait_api_Wait_B0 (a0 : List Wait) (a1 : List Wait) (i2 : Nat) (z2 : Unit) : Option (Ctl Unit Bool) :=
 (lat a0 (i2 : Int)).bind fun x5 =>
 (lat a1 (i2 : Int)).bind fun x8 =>
 bif !(decide (x5 = x8)) then (some (.ret false)) else
 some (.go ())
def slices_Equal_api_Wait_api_Wait (a0 : List Wait) (a1 : List Wait) : Option Bool :=
 bif (a0.length : Int) != (a1.length : Int) then (some false) else
 andThen (rangeM (slices_Equal_api_Wait_api_Wait_B0 a0 a1) a0.length 0 ()) fun _ =>
 some true
def partref_SameSkeen (a0 : Skeen) (a1 : Skeen) : Option Bool :=
 (bif a0.Me == a1.Me then (some (a0.Clock == a1.Clock)) else
 some false).bind fun y6 =>
 (bif y6 then ((slices_Equal_api_Wait_api_Wait a0.Wait a1.Wait).bind fun r13 =>
 some r13) else
 some false).bind fun y11 =>
 some y11
def partlaw_SkeenSays_2 (a0 : Wait) (a1 : Int) : Option Bool :=
 some (a0.Id == a1)
def slices_IndexFunc_api_Wait_api_Wait_SkeenSays_2_B0 (a0 : List Wait) (a1_c0 : Int) (i2 : Nat) (z2 : Unit) : Option (Ctl Unit Int) :=
 (lat a0 (i2 : Int)).bind fun x5 =>
 (partlaw_SkeenSays_2 x5 a1_c0).bind fun r8 =>
 bif r8 then (some (.ret (i2 : Int))) else
 some (.go ())
def slices_IndexFunc_api_Wait_api_Wait_SkeenSays_2 (a0 : List Wait) (a1_c0 : Int) : Option Int :=
 andThen (rangeM (slices_IndexFunc_api_Wait_api_Wait_SkeenSays_2_B0 a0 a1_c0) a0.length 0 ()) fun _ =>
 some (-1 : Int)
def slices_ContainsFunc_api_Wait_api_Wait_SkeenSays_2 (a0 : List Wait) (a1_c0 : Int) : Option Bool :=
 (slices_IndexFunc_api_Wait_api_Wait_SkeenSays_2 a0 a1_c0).bind fun r2 =>
 some (decide (r2 ≥ (0 : Int)))
def slices_Grow_api_Wait_api_Wait (a1 : Int) : Option (List Wait) :=
 bif decide (a1 < (0 : Int)) then (none) else
 (bif decide ((w64 (a1 - (w64 ((0 : Int) - (0 : Int))))) > (0 : Int)) then ((mkLen (w64 (a1 - (w64 ((0 : Int) - (0 : Int)))))).bind fun n10 =>
 (cutL (List.replicate n10 Wait.zero) 0 (0 : Int)).bind fun m14 =>
 some m14) else
 some ([] : List Wait)).bind fun l4 =>
 some l4
def slices_Concat_api_Wait_api_Wait_B2 (a0 : List (List Wait)) (i19 : Nat) (z19 : (List Wait)) : Option (List Wait) :=
 (lat a0 (i19 : Int)).bind fun x24 =>
 (room z19 x24).bind fun u28 =>
 some (z19 ++ x24)
def slices_Concat_api_Wait_api_Wait_B0 (a0 : List (List Wait)) (i3 : Nat) (z3 : Int) : Option Int :=
 (lat a0 (i3 : Int)).bind fun x7 =>
 bif decide ((w64 (z3 + (x7.length : Int))) < (0 : Int)) then (none) else
 some (w64 (z3 + (x7.length : Int)))
def slices_Concat_api_Wait_api_Wait (a0 : List (List Wait)) : Option (List Wait) :=
 (rangeF (slices_Concat_api_Wait_api_Wait_B0 a0) a0.length 0 (0 : Int)).bind fun y4 =>
 (slices_Grow_api_Wait_api_Wait y4).bind fun r12 =>
 (rangeF (slices_Concat_api_Wait_api_Wait_B2 a0) a0.length 0 r12).bind fun l21 =>
 some l21
def partref_Fix_1 (a0 : Wait) (a1 : Int) : Option Bool :=
 some (a0.Id == a1)
def slices_IndexFunc_api_Wait_api_Wait_Fix_1_v2_B0 (a0 : List Wait) (a1_c0 : Int) (i2 : Nat) (z2 : Unit) : Option (Ctl Unit Int) :=
 (lat a0 (i2 : Int)).bind fun x5 =>
 (partref_Fix_1 x5 a1_c0).bind fun r8 =>
 bif r8 then (some (.ret (i2 : Int))) else
 some (.go ())
def slices_IndexFunc_api_Wait_api_Wait_Fix_1_v2 (a0 : List Wait) (a1_c0 : Int) : Option Int :=
 andThen (rangeM (slices_IndexFunc_api_Wait_api_Wait_Fix_1_v2_B0 a0 a1_c0) a0.length 0 ()) fun _ =>
 some (-1 : Int)
def partref_Fix_B2 (l81 : List Wait) (i98 : Nat) (z98 : Skeen × (List Int)) : Option (Ctl (Skeen × (List Int)) (Skeen × (List Int))) :=
 (lat l81 (i98 : Int)).bind fun x106 =>
 bif !x106.Fixed then ((cutL l81 (i98 : Int) (l81.length : Int)).bind fun m112 =>
 some (.brk (({ z98.1 with Wait := m112 } : Skeen), z98.2))) else
 (room z98.2 ([x106.Id] : List Int)).bind fun u123 =>
 some (.go (z98.1, z98.2 ++ ([x106.Id] : List Int)))
def partref_Fix_B0 (a0 : Skeen) (a1 : Int) (a2 : Num) (r11 : Int) (i40 : Nat) (z40 : Bool × (List Wait)) : Option (Ctl (Bool × (List Wait)) (Skeen × (List Int) × Int)) :=
 (lat a0.Wait (i40 : Int)).bind fun x46 =>
 bif (i40 : Int) == r11 then (some (.go (z40.1, z40.2))) else
 bif decide (x46.Num_ = a2) then (some (.ret (Skeen.zero, ([] : List Int), (10 : Int)))) else
 ((bif !z40.1 then ((partref_Less a2 x46.Num_).bind fun r61 =>
 some r61) else
 some false).bind fun y59 =>
 bif y59 then ((room z40.2 ([({ Wait.zero with Id := a1, Num_ := a2, Fixed := true } : Wait)] : List Wait)).bind fun u70 =>
 some (true, z40.2 ++ ([({ Wait.zero with Id := a1, Num_ := a2, Fixed := true } : Wait)] : List Wait))) else
 some (z40.1, z40.2)).bind fun (y54, l56) =>
 (room l56 ([x46] : List Wait)).bind fun u77 =>
 some (.go (y54, l56 ++ ([x46] : List Wait)))
def partref_Fix (a0 : Skeen) (a1 : Int) (a2 : Num) : Option (Skeen × (List Int) × Int) :=
 (slices_IndexFunc_api_Wait_api_Wait_Fix_1_v2 a0.Wait a1).bind fun r11 =>
 (bif decide (r11 < (0 : Int)) then (some true) else
 (lat a0.Wait r11).bind fun x18 =>
 some x18.Fixed).bind fun y16 =>
 bif y16 then (some (Skeen.zero, ([] : List Int), (6 : Int))) else
 (lat a0.Wait r11).bind fun x25 =>
 (partref_Less a2 x25.Num_).bind fun r28 =>
 bif r28 then (some (Skeen.zero, ([] : List Int), (10 : Int))) else
 andThen (rangeM (partref_Fix_B0 a0 a1 a2 r11) a0.Wait.length 0 (false, ([] : List Wait))) fun (y41, l43) =>
 (bif !y41 then ((room l43 ([({ Wait.zero with Id := a1, Num_ := a2, Fixed := true } : Wait)] : List Wait)).bind fun u86 =>
 some (l43 ++ ([({ Wait.zero with Id := a1, Num_ := a2, Fixed := true } : Wait)] : List Wait))) else
 some l43).bind fun l81 =>
 (andThen (rangeM (partref_Fix_B2 l81) l81.length 0 (({ Skeen.zero with Me := a0.Me, Clock := max a0.Clock a2.N } : Skeen), ([] : List Int))) fun (y99, l103) =>
 some (y99, l103)).bind fun (y92, l96) =>
 some (y92, l96, (0 : Int))
def slices_Equal_int_int_B0 (a0 : List Int) (a1 : List Int) (i2 : Nat) (z2 : Unit) : Option (Ctl Unit Bool) :=
 (lat a0 (i2 : Int)).bind fun x5 =>
 (lat a1 (i2 : Int)).bind fun x8 =>
 bif x5 != x8 then (some (.ret false)) else
 some (.go ())
def slices_Equal_int_int (a0 : List Int) (a1 : List Int) : Option Bool :=
 bif (a0.length : Int) != (a1.length : Int) then (some false) else
 andThen (rangeM (slices_Equal_int_int_B0 a0 a1) a0.length 0 ()) fun _ =>
 some true
def partlaw_SkeenSays (fu : Nat) (a0 : Skeen) (a1 : Int) (a2 : Num) (a3 : List Num) : Option Bool :=
 (partref_SkeenErr a0).bind fun r7 =>
 (skeen_Offer a0 a1).bind fun r11 =>
 (skeen_Fix fu a0 a1 a2).bind fun r22 =>
 (skeen_Most fu a3).bind fun r33 =>
 (skeen_Check a0).bind fun r42 =>
 bif r42 != r7 then (some false) else
 andThen (bif (a3.length : Int) == (0 : Int) then ((bif !(decide (r33.1 = Num.zero)) then (some true) else
 some (r33.2 != (6 : Int))).bind fun y50 =>
 bif y50 then (some (.inr false)) else
 some (.inl ())) else
 (bif r33.2 != (0 : Int) then (some true) else
 (slices_Contains_api_Num_api_Num a3 r33.1).bind fun r58 =>
 some (!r58)).bind fun y56 =>
 bif y56 then (some (.inr false)) else
 (slices_ContainsFunc_api_Num_api_Num_SkeenSays_1 a3 r33.1).bind fun r65 =>
 bif r65 then (some (.inr false)) else
 some (.inl ())) fun _ =>
 bif r7 != (0 : Int) then ((partref_SameSkeen r11.1 Skeen.zero).bind fun r73 =>
 (bif r73 then (some (decide (r11.2.1 = Num.zero))) else
 some false).bind fun y78 =>
 (bif y78 then (some (r11.2.2 == r7)) else
 some false).bind fun y83 =>
 (bif y83 then ((partref_SameSkeen r22.1 Skeen.zero).bind fun r90 =>
 some r90) else
 some false).bind fun y88 =>
 (bif y88 then (some ((r22.2.1.length : Int) == (0 : Int))) else
 some false).bind fun y97 =>
 (bif y97 then (some (r22.2.2 == r7)) else
 some false).bind fun y102 =>
 some y102) else
 (bif decide (a1 < (0 : Int)) then (some ((1 : Int), Num.zero, a0)) else
 (slices_ContainsFunc_api_Wait_api_Wait_SkeenSays_2 a0.Wait a1).bind fun r118 =>
 bif r118 then (some ((7 : Int), Num.zero, a0)) else
 (bif (a0.Wait.length : Int) == (40 : Int) then (some true) else
 some (a0.Clock == (16777215 : Int))).bind fun y124 =>
 bif y124 then (some ((8 : Int), Num.zero, a0)) else
 (slices_Concat_api_Wait_api_Wait ([a0.Wait, ([({ Wait.zero with Id := a1, Num_ := ({ Num.zero with N := w64 (a0.Clock + (1 : Int)), By := a0.Me } : Num) } : Wait)] : List Wait)] : List (List Wait))).bind fun r139 =>
 Let r139 fun l147 =>
 some ((0 : Int), ({ Num.zero with N := w64 (a0.Clock + (1 : Int)), By := a0.Me } : Num), ({ Skeen.zero with Me := a0.Me, Clock := w64 (a0.Clock + (1 : Int)), Wait := l147 } : Skeen))).bind fun (y111, y112, y113) =>
 (bif y111 != (0 : Int) then (some Skeen.zero) else
 some y113).bind fun y169 =>
 (partref_SameSkeen r11.1 y169).bind fun r176 =>
 (bif !r176 then (some true) else
 some (!(decide (r11.2.1 = y112)))).bind fun y181 =>
 (bif y181 then (some true) else
 some (r11.2.2 != y111)).bind fun y186 =>
 bif y186 then (some false) else
 (bif decide (a2.N < (1 : Int)) then (some true) else
 some (decide (a2.N > (16777215 : Int)))).bind fun y192 =>
 (bif y192 then (some true) else
 some (decide (a2.By < (0 : Int)))).bind fun y197 =>
 (bif y197 then (some true) else
 some (decide (a2.By > (5 : Int)))).bind fun y202 =>
 bif y202 then ((partref_SameSkeen r22.1 Skeen.zero).bind fun r207 =>
 (bif r207 then (some ((r22.2.1.length : Int) == (0 : Int))) else
 some false).bind fun y212 =>
 (bif y212 then (some (r22.2.2 == (1 : Int))) else
 some false).bind fun y217 =>
 some y217) else
 (partref_Fix a0 a1 a2).bind fun r221 =>
 (partref_SameSkeen r22.1 r221.1).bind fun r232 =>
 (bif r232 then ((slices_Equal_int_int r22.2.1 r221.2.1).bind fun r239 =>
 some r239) else
 some false).bind fun y237 =>
 (bif y237 then (some (r22.2.2 == r221.2.2)) else
 some false).bind fun y246 =>
 some y246
end Go.Proofs.Ytnljiedichjagaa
