/-
  What the functions compute, typed; printed by a program.
-/
import Derived.Test.YtobikknjaomalaaGoI
import Derived.Test.YtobikknjaomalaaGoM
import Derived.Test.YtobikknjaomalaaGoS
namespace Go.Proofs.Ytobikknjaomalaa
open Go.RowKit Enc
set_option linter.unusedVariables false
set_option linter.unusedSimpArgs false
structure Note where
  Kind : Int
  From : Int
  To : Int
  View : Int
  Seq : Int
  At : Vector Int 6
  Text : Str
instance : DecidableEq Note := fun a b => decidable_of_iff (a.Kind = b.Kind ∧ a.From = b.From ∧ a.To = b.To ∧ a.View = b.View ∧ a.Seq = b.Seq ∧ a.At = b.At ∧ a.Text = b.Text) (by cases a; cases b; simp)
def Note.zero : Note := ⟨(0 : Int), (0 : Int), (0 : Int), (0 : Int), (0 : Int), (Vector.replicate 6 (0 : Int)), ([] : Str)⟩
instance : Enc Note := ⟨fun p => enc p.Kind ++ (enc p.From ++ (enc p.To ++ (enc p.View ++ (enc p.Seq ++ (enc p.At ++ (enc p.Text)))))), 12, fun p => by simp only [List.length_append, Enc.len]; rfl, fun p => by simp only [List.all_append, Enc.one, Bool.and_self]⟩
theorem Note.get_Kind {p : Note} {k : Nat} {ch : List Value} (h : Get (enc p.Kind) k ch) : Get (enc p) (0 + k) ch := Get.off (Get.left h) (by omega)
theorem Note.put_Kind {p : Note} {k : Nat} {vs : List Value} {y : Int} (h : Put (enc p.Kind) k vs (enc y)) : Put (enc p) (0 + k) vs (enc ({ p with Kind := y } : Note)) := Put.off (cs' := enc ({ p with Kind := y } : Note)) (Put.left h) (by omega)
theorem Note.get_From {p : Note} {k : Nat} {ch : List Value} (h : Get (enc p.From) k ch) : Get (enc p) (1 + k) ch := Get.off (Get.right (m := 1) (Enc.len _) (Get.left h)) (by omega)
theorem Note.put_From {p : Note} {k : Nat} {vs : List Value} {y : Int} (h : Put (enc p.From) k vs (enc y)) : Put (enc p) (1 + k) vs (enc ({ p with From := y } : Note)) := Put.off (cs' := enc ({ p with From := y } : Note)) (Put.right (m := 1) (Enc.len _) (Put.left h)) (by omega)
theorem Note.get_To {p : Note} {k : Nat} {ch : List Value} (h : Get (enc p.To) k ch) : Get (enc p) (2 + k) ch := Get.off (Get.right (m := 1) (Enc.len _) (Get.right (m := 1) (Enc.len _) (Get.left h))) (by omega)
theorem Note.put_To {p : Note} {k : Nat} {vs : List Value} {y : Int} (h : Put (enc p.To) k vs (enc y)) : Put (enc p) (2 + k) vs (enc ({ p with To := y } : Note)) := Put.off (cs' := enc ({ p with To := y } : Note)) (Put.right (m := 1) (Enc.len _) (Put.right (m := 1) (Enc.len _) (Put.left h))) (by omega)
theorem Note.get_View {p : Note} {k : Nat} {ch : List Value} (h : Get (enc p.View) k ch) : Get (enc p) (3 + k) ch := Get.off (Get.right (m := 1) (Enc.len _) (Get.right (m := 1) (Enc.len _) (Get.right (m := 1) (Enc.len _) (Get.left h)))) (by omega)
theorem Note.put_View {p : Note} {k : Nat} {vs : List Value} {y : Int} (h : Put (enc p.View) k vs (enc y)) : Put (enc p) (3 + k) vs (enc ({ p with View := y } : Note)) := Put.off (cs' := enc ({ p with View := y } : Note)) (Put.right (m := 1) (Enc.len _) (Put.right (m := 1) (Enc.len _) (Put.right (m := 1) (Enc.len _) (Put.left h)))) (by omega)
theorem Note.get_Seq {p : Note} {k : Nat} {ch : List Value} (h : Get (enc p.Seq) k ch) : Get (enc p) (4 + k) ch := Get.off (Get.right (m := 1) (Enc.len _) (Get.right (m := 1) (Enc.len _) (Get.right (m := 1) (Enc.len _) (Get.right (m := 1) (Enc.len _) (Get.left h))))) (by omega)
theorem Note.put_Seq {p : Note} {k : Nat} {vs : List Value} {y : Int} (h : Put (enc p.Seq) k vs (enc y)) : Put (enc p) (4 + k) vs (enc ({ p with Seq := y } : Note)) := Put.off (cs' := enc ({ p with Seq := y } : Note)) (Put.right (m := 1) (Enc.len _) (Put.right (m := 1) (Enc.len _) (Put.right (m := 1) (Enc.len _) (Put.right (m := 1) (Enc.len _) (Put.left h))))) (by omega)
theorem Note.get_At {p : Note} {k : Nat} {ch : List Value} (h : Get (enc p.At) k ch) : Get (enc p) (5 + k) ch := Get.off (Get.right (m := 1) (Enc.len _) (Get.right (m := 1) (Enc.len _) (Get.right (m := 1) (Enc.len _) (Get.right (m := 1) (Enc.len _) (Get.right (m := 1) (Enc.len _) (Get.left h)))))) (by omega)
theorem Note.put_At {p : Note} {k : Nat} {vs : List Value} {y : Vector Int 6} (h : Put (enc p.At) k vs (enc y)) : Put (enc p) (5 + k) vs (enc ({ p with At := y } : Note)) := Put.off (cs' := enc ({ p with At := y } : Note)) (Put.right (m := 1) (Enc.len _) (Put.right (m := 1) (Enc.len _) (Put.right (m := 1) (Enc.len _) (Put.right (m := 1) (Enc.len _) (Put.right (m := 1) (Enc.len _) (Put.left h)))))) (by omega)
theorem Note.get_Text {p : Note} {k : Nat} {ch : List Value} (h : Get (enc p.Text) k ch) : Get (enc p) (11 + k) ch := Get.off (Get.right (m := 1) (Enc.len _) (Get.right (m := 1) (Enc.len _) (Get.right (m := 1) (Enc.len _) (Get.right (m := 1) (Enc.len _) (Get.right (m := 1) (Enc.len _) (Get.right (m := 6) (Enc.len _) h)))))) (by omega)
theorem Note.put_Text {p : Note} {k : Nat} {vs : List Value} {y : Str} (h : Put (enc p.Text) k vs (enc y)) : Put (enc p) (11 + k) vs (enc ({ p with Text := y } : Note)) := Put.off (cs' := enc ({ p with Text := y } : Note)) (Put.right (m := 1) (Enc.len _) (Put.right (m := 1) (Enc.len _) (Put.right (m := 1) (Enc.len _) (Put.right (m := 1) (Enc.len _) (Put.right (m := 1) (Enc.len _) (Put.right (m := 6) (Enc.len _) h)))))) (by omega)
instance : Rng Note := ⟨fun p => Rng.ok p.Kind ∧ Rng.ok p.From ∧ Rng.ok p.To ∧ Rng.ok p.View ∧ Rng.ok p.Seq ∧ Rng.ok p.At ∧ Rng.ok p.Text⟩
def slices_Min_int_int_B0 (a0 : List Int) (z5 : Int × Int) : Option (Ctl (Int × Int) Int) :=
 bif decide (z5.2 < (a0.length : Int)) then ((lat a0 z5.2).bind fun x11 =>
 some (.go (min z5.1 x11, w64 (z5.2 + (1 : Int))))) else
 some (.brk (z5.1, z5.2))
def slices_Min_int_int (fu : Nat) (a0 : List Int) : Option Int :=
 bif decide ((a0.length : Int) < (1 : Int)) then (none) else
 (lat a0 (0 : Int)).bind fun x2 =>
 andThen (whileM (slices_Min_int_int_B0 a0) fu (x2, (1 : Int))) fun (y6, y7) =>
 some y6
def slices_Max_int_int_B0 (a0 : List Int) (z5 : Int × Int) : Option (Ctl (Int × Int) Int) :=
 bif decide (z5.2 < (a0.length : Int)) then ((lat a0 z5.2).bind fun x11 =>
 some (.go (max z5.1 x11, w64 (z5.2 + (1 : Int))))) else
 some (.brk (z5.1, z5.2))
def slices_Max_int_int (fu : Nat) (a0 : List Int) : Option Int :=
 bif decide ((a0.length : Int) < (1 : Int)) then (none) else
 (lat a0 (0 : Int)).bind fun x2 =>
 andThen (whileM (slices_Max_int_int_B0 a0) fu (x2, (1 : Int))) fun (y6, y7) =>
 some y6
def partref_NoteErr (fu : Nat) (a0 : Note) : Option Int :=
 (bif decide (a0.Kind < (0 : Int)) then (some true) else
 some (decide (a0.Kind > (255 : Int)))).bind fun y4 =>
 (bif y4 then (some true) else
 some (decide ((min (min (min a0.From a0.To) a0.View) a0.Seq) < (0 : Int)))).bind fun y9 =>
 (bif y9 then (some true) else
 some (decide ((max a0.From a0.To) > (5 : Int)))).bind fun y14 =>
 (bif y14 then (some true) else
 some (decide ((max a0.View a0.Seq) > (16777215 : Int)))).bind fun y19 =>
 bif y19 then (some (1 : Int)) else
 (slices_Min_int_int fu a0.At.toList).bind fun r24 =>
 (bif decide (r24 < (0 : Int)) then (some true) else
 (slices_Max_int_int fu a0.At.toList).bind fun r31 =>
 some (decide (r31 > (16777215 : Int)))).bind fun y29 =>
 bif y29 then (some (1 : Int)) else
 bif decide ((a0.Text.length : Int) > (200 : Int)) then (some (2 : Int)) else
 some (0 : Int)
def wire_in (a0 : Int) (a1 : Int) (a2 : Int) : Option Bool :=
 (bif decide (a0 ≥ a1) then (some (decide (a0 ≤ a2))) else
 some false).bind fun y2 =>
 some y2
def wire_Check_1 (a0 : Int) : Option Bool :=
 (wire_in a0 (0 : Int) (16777215 : Int)).bind fun r1 =>
 some r1
def wire_Check_2 (a0 : Int) : Option Bool :=
 (wire_Check_1 a0).bind fun r2 =>
 some (!r2)
def slices_IndexFunc_int_int_Check_2_B0 (a0 : List Int) (i2 : Nat) (z2 : Unit) : Option (Ctl Unit Int) :=
 (lat a0 (i2 : Int)).bind fun x5 =>
 (wire_Check_2 x5).bind fun r8 =>
 bif r8 then (some (.ret (i2 : Int))) else
 some (.go ())
def slices_IndexFunc_int_int_Check_2 (a0 : List Int) : Option Int :=
 andThen (rangeM (slices_IndexFunc_int_int_Check_2_B0 a0) a0.length 0 ()) fun _ =>
 some (-1 : Int)
def slices_ContainsFunc_int_int_Check_2 (a0 : List Int) : Option Bool :=
 (slices_IndexFunc_int_int_Check_2 a0).bind fun r2 =>
 some (decide (r2 ≥ (0 : Int)))
def wire_Check (a0 : Note) : Option Int :=
 (wire_in a0.Kind (0 : Int) (255 : Int)).bind fun r5 =>
 (bif !r5 then (some true) else
 (wire_in a0.From (0 : Int) (5 : Int)).bind fun r12 =>
 some (!r12)).bind fun y10 =>
 (bif y10 then (some true) else
 (wire_in a0.To (0 : Int) (5 : Int)).bind fun r21 =>
 some (!r21)).bind fun y19 =>
 (bif y19 then (some true) else
 (wire_Check_1 a0.View).bind fun r30 =>
 some (!r30)).bind fun y28 =>
 (bif y28 then (some true) else
 (wire_Check_1 a0.Seq).bind fun r39 =>
 some (!r39)).bind fun y37 =>
 bif y37 then (some (1 : Int)) else
 (slices_ContainsFunc_int_int_Check_2 a0.At.toList).bind fun r46 =>
 bif r46 then (some (1 : Int)) else
 bif decide ((a0.Text.length : Int) > (200 : Int)) then (some (2 : Int)) else
 some (0 : Int)
def wire_three (a0 : Int) : Option (List (BitVec 8)) :=
 some ([BitVec.ofInt 8 a0, BitVec.ofInt 8 (a0.fdiv (2 ^ (min 8 64)) : Int), BitVec.ofInt 8 (a0.fdiv (2 ^ (min 16 64)) : Int)] : List (BitVec 8))
def wire_Sum_B2 (i8 : Nat) (z8 : (BitVec 32)) : Option (BitVec 32) :=
 bif ((z8 &&& (1 : BitVec 32)).toNat : Int) == ((1 : BitVec 32).toNat : Int) then (some ((z8 >>> 1) ^^^ (2197175160 : BitVec 32))) else
 some (z8 >>> 1)
def wire_Sum_B0 (a0 : Str) (i1 : Nat) (z1 : (BitVec 32)) : Option (BitVec 32) :=
 (lat a0 (i1 : Int)).bind fun x6 =>
 (rangeF (wire_Sum_B2) 8 0 (z1 ^^^ (BitVec.ofInt 32 (x6.toBitVec.toNat : Int)))).bind fun y9 =>
 some y9
def wire_Sum (a0 : Str) : Option (BitVec 32) :=
 (upTo (a0.length : Int)).bind fun nn5 =>
 (rangeF (wire_Sum_B0 a0) nn5 0 (4294967295 : BitVec 32)).bind fun y2 =>
 some ((4294967295 : BitVec 32) ^^^ y2)
def wire_four (a0 : BitVec 32) : Option (List (BitVec 8)) :=
 (wire_three (a0.toNat : Int)).bind fun r2 =>
 (room r2 ([BitVec.ofInt 8 ((a0 >>> 24).toNat : Int)] : List (BitVec 8))).bind fun u10 =>
 some (r2 ++ ([BitVec.ofInt 8 ((a0 >>> 24).toNat : Int)] : List (BitVec 8)))
def wire_Pack_B0 (l17 : List Int) (i24 : Nat) (z24 : (List (BitVec 8))) : Option (List (BitVec 8)) :=
 (lat l17 (i24 : Int)).bind fun x30 =>
 (wire_three x30).bind fun r33 =>
 (room z24 r33).bind fun u39 =>
 some (z24 ++ r33)
def wire_Pack (a0 : Note) : Option (Str × Int) :=
 (wire_Check a0).bind fun r3 =>
 bif r3 != (0 : Int) then (some (([] : Str), r3)) else
 (room ([a0.View, a0.Seq] : List Int) a0.At.toList).bind fun u12 =>
 Let (([a0.View, a0.Seq] : List Int) ++ a0.At.toList) fun l17 =>
 (upTo ((([a0.View, a0.Seq] : List Int) ++ a0.At.toList).length : Int)).bind fun nn29 =>
 (rangeF (wire_Pack_B0 l17) nn29 0 ([BitVec.ofInt 8 a0.Kind, BitVec.ofInt 8 a0.From, BitVec.ofInt 8 a0.To] : List (BitVec 8))).bind fun l26 =>
 (room l26 (Str.bytes a0.Text)).bind fun u42 =>
 (wire_Sum (Str.ofBytes (l26 ++ (Str.bytes a0.Text)))).bind fun r45 =>
 (wire_four r45).bind fun r49 =>
 (room (l26 ++ (Str.bytes a0.Text)) r49).bind fun u55 =>
 some (Str.ofBytes ((l26 ++ (Str.bytes a0.Text)) ++ r49), (0 : Int))
def slices_Grow_int_int (a1 : Int) : Option (List Int) :=
 bif decide (a1 < (0 : Int)) then (none) else
 (bif decide ((w64 (a1 - (w64 ((0 : Int) - (0 : Int))))) > (0 : Int)) then ((mkLen (w64 (a1 - (w64 ((0 : Int) - (0 : Int)))))).bind fun n10 =>
 (cutL (List.replicate n10 (0 : Int)) 0 (0 : Int)).bind fun m14 =>
 some m14) else
 some ([] : List Int)).bind fun l4 =>
 some l4
def slices_Concat_int_int_B2 (a0 : List (List Int)) (i19 : Nat) (z19 : (List Int)) : Option (List Int) :=
 (lat a0 (i19 : Int)).bind fun x24 =>
 (room z19 x24).bind fun u28 =>
 some (z19 ++ x24)
def slices_Concat_int_int_B0 (a0 : List (List Int)) (i3 : Nat) (z3 : Int) : Option Int :=
 (lat a0 (i3 : Int)).bind fun x7 =>
 bif decide ((w64 (z3 + (x7.length : Int))) < (0 : Int)) then (none) else
 some (w64 (z3 + (x7.length : Int)))
def slices_Concat_int_int (a0 : List (List Int)) : Option (List Int) :=
 (rangeF (slices_Concat_int_int_B0 a0) a0.length 0 (0 : Int)).bind fun y4 =>
 (slices_Grow_int_int y4).bind fun r12 =>
 (rangeF (slices_Concat_int_int_B2 a0) a0.length 0 r12).bind fun l21 =>
 some l21
def partref_Sum_B2 (a0 : Str) (i1 : Nat) (i6 : Nat) (z6 : (BitVec 64)) : Option (BitVec 64) :=
 (lat a0 (i1 : Int)).bind fun x10 =>
 (cnt (i6 : Int)).bind fun n12 =>
 bif ((z6 % (2 : BitVec 64)).toNat : Int) != ((((BitVec.ofInt 64 (x10.toBitVec.toNat : Int)) >>> n12) % (2 : BitVec 64)).toNat : Int) then (some ((z6 / (2 : BitVec 64)) ^^^ (2197175160 : BitVec 64))) else
 some (z6 / (2 : BitVec 64))
def partref_Sum_B0 (a0 : Str) (i1 : Nat) (z1 : (BitVec 64)) : Option (BitVec 64) :=
 (rangeF (partref_Sum_B2 a0 i1) 8 0 z1).bind fun y7 =>
 some y7
def partref_Sum (a0 : Str) : Option (BitVec 32) :=
 (upTo (a0.length : Int)).bind fun nn5 =>
 (rangeF (partref_Sum_B0 a0) nn5 0 (4294967295 : BitVec 64)).bind fun y2 =>
 some (BitVec.ofInt 32 (((4294967295 : BitVec 64) - y2).toNat : Int))
def partref_NoteText_B0 (l23 : List Int) (i39 : Nat) (z39 : (List (BitVec 8))) : Option (List (BitVec 8)) :=
 (lat l23 (i39 : Int)).bind fun x45 =>
 (room z39 ([BitVec.ofInt 8 (x45.tmod (256 : Int) : Int), BitVec.ofInt 8 ((w64 (x45.tdiv (256 : Int))).tmod (256 : Int) : Int), BitVec.ofInt 8 (w64 (x45.tdiv (65536 : Int)))] : List (BitVec 8))).bind fun u50 =>
 some (z39 ++ ([BitVec.ofInt 8 (x45.tmod (256 : Int) : Int), BitVec.ofInt 8 ((w64 (x45.tdiv (256 : Int))).tmod (256 : Int) : Int), BitVec.ofInt 8 (w64 (x45.tdiv (65536 : Int)))] : List (BitVec 8)))
def partref_NoteText (a0 : Note) : Option Str :=
 (slices_Concat_int_int ([([a0.View, a0.Seq] : List Int), a0.At.toList] : List (List Int))).bind fun r15 =>
 Let r15 fun l23 =>
 (upTo (r15.length : Int)).bind fun nn44 =>
 (rangeF (partref_NoteText_B0 l23) nn44 0 ([BitVec.ofInt 8 a0.Kind, BitVec.ofInt 8 a0.From, BitVec.ofInt 8 a0.To] : List (BitVec 8))).bind fun l41 =>
 (room (Str.ofBytes l41) a0.Text).bind fun u53 =>
 (partref_Sum ((Str.ofBytes l41) ++ a0.Text)).bind fun r55 =>
 (room ((Str.ofBytes l41) ++ a0.Text) (Str.ofBytes ([BitVec.ofInt 8 ((r55 % (256 : BitVec 32)).toNat : Int), BitVec.ofInt 8 (((r55 / (256 : BitVec 32)) % (256 : BitVec 32)).toNat : Int), BitVec.ofInt 8 (((r55 / (65536 : BitVec 32)) % (256 : BitVec 32)).toNat : Int), BitVec.ofInt 8 ((r55 / (16777216 : BitVec 32)).toNat : Int)] : List (BitVec 8)))).bind fun u61 =>
 some (((Str.ofBytes l41) ++ a0.Text) ++ (Str.ofBytes ([BitVec.ofInt 8 ((r55 % (256 : BitVec 32)).toNat : Int), BitVec.ofInt 8 (((r55 / (256 : BitVec 32)) % (256 : BitVec 32)).toNat : Int), BitVec.ofInt 8 (((r55 / (65536 : BitVec 32)) % (256 : BitVec 32)).toNat : Int), BitVec.ofInt 8 ((r55 / (16777216 : BitVec 32)).toNat : Int)] : List (BitVec 8))))
def wire_Read_1 (a0 : Int) (a1 : Str) : Option Int :=
 (lat a1 (w64 ((3 : Int) + (w64 ((3 : Int) * a0))))).bind fun x2 =>
 (lat a1 (w64 ((w64 ((3 : Int) + (w64 ((3 : Int) * a0)))) + (1 : Int)))).bind fun x4 =>
 (lat a1 (w64 ((w64 ((3 : Int) + (w64 ((3 : Int) * a0)))) + (2 : Int)))).bind fun x6 =>
 some (w64 ((BitVec.ofInt 64 (w64 ((BitVec.ofInt 64 (x2.toBitVec.toNat : Int) ||| BitVec.ofInt 64 (w64 ((x4.toBitVec.toNat : Int) * 2 ^ (min 8 64)))).toNat : Int)) ||| BitVec.ofInt 64 (w64 ((x6.toBitVec.toNat : Int) * 2 ^ (min 16 64)))).toNat : Int))
def wire_Read_B1 (m5 : Str) (i66 : Nat) (z66 : Note) : Option Note :=
 (wire_Read_1 (w64 ((2 : Int) + (i66 : Int))) m5).bind fun r70 =>
 (vat z66.At (i66 : Int)).bind fun x74 =>
 Let ({ z66 with At := z66.At.setIfInBounds (i66 : Int).toNat r70 } : Note) fun p77 =>
 some p77
def wire_Read (a0 : Str) : Option (Note × Int) :=
 bif decide ((a0.length : Int) > (231 : Int)) then (some (Note.zero, (2 : Int))) else
 bif decide ((a0.length : Int) < (31 : Int)) then (some (Note.zero, (3 : Int))) else
 (cutL a0 0 (w64 ((a0.length : Int) - (4 : Int)))).bind fun m5 =>
 (cutL a0 (w64 ((a0.length : Int) - (4 : Int))) (a0.length : Int)).bind fun m7 =>
 (wire_Sum m5).bind fun r18 =>
 (wire_four r18).bind fun r22 =>
 bif !(decide (Str.ofBytes r22 = m7)) then (some (Note.zero, (5 : Int))) else
 (lat m5 (0 : Int)).bind fun x29 =>
 (lat m5 (1 : Int)).bind fun x31 =>
 (lat m5 (2 : Int)).bind fun x33 =>
 (wire_Read_1 (0 : Int) m5).bind fun r35 =>
 (wire_Read_1 (1 : Int) m5).bind fun r39 =>
 (cutL m5 (27 : Int) (m5.length : Int)).bind fun m43 =>
 (rangeF (wire_Read_B1 m5) 6 0 ({ Note.zero with Kind := (x29.toBitVec.toNat : Int), From := (x31.toBitVec.toNat : Int), To := (x33.toBitVec.toNat : Int), View := r35, Seq := r39, Text := m43 } : Note)).bind fun y67 =>
 (wire_Check y67).bind fun r79 =>
 bif r79 != (0 : Int) then (some (Note.zero, r79)) else
 some (y67, (0 : Int))
def partref_NoteRead_1 (a0 : Int) (a1 : Str) : Option Int :=
 (lat a1 a0).bind fun x2 =>
 (lat a1 (w64 (a0 + (1 : Int)))).bind fun x4 =>
 (lat a1 (w64 (a0 + (2 : Int)))).bind fun x6 =>
 some (w64 ((w64 ((x2.toBitVec.toNat : Int) + (w64 ((256 : Int) * (x4.toBitVec.toNat : Int))))) + (w64 ((65536 : Int) * (x6.toBitVec.toNat : Int)))))
def partref_NoteRead_B2 (a0 : Str) (r51 : (BitVec 32)) (i55 : Nat) (z55 : Unit) : Option (Ctl Unit (Note × Int)) :=
 (lat a0 (w64 ((w64 ((a0.length : Int) - (4 : Int))) + (i55 : Int)))).bind fun x58 =>
 (cnt (w64 ((8 : Int) * (i55 : Int)))).bind fun n60 =>
 bif ((BitVec.ofInt 32 (x58.toBitVec.toNat : Int)).toNat : Int) != (((r51 >>> n60) &&& (255 : BitVec 32)).toNat : Int) then (some (.ret (Note.zero, (5 : Int)))) else
 some (.go ())
def partref_NoteRead_B0 (a0 : Str) (i36 : Nat) (z36 : Note) : Option Note :=
 (partref_NoteRead_1 (w64 ((9 : Int) + (w64 ((3 : Int) * (i36 : Int))))) a0).bind fun r40 =>
 (vat z36.At (i36 : Int)).bind fun x44 =>
 Let ({ z36 with At := z36.At.setIfInBounds (i36 : Int).toNat r40 } : Note) fun p47 =>
 some p47
def partref_NoteRead (a0 : Str) : Option (Note × Int) :=
 bif decide ((a0.length : Int) > (231 : Int)) then (some (Note.zero, (2 : Int))) else
 bif decide ((a0.length : Int) < (31 : Int)) then (some (Note.zero, (3 : Int))) else
 (lat a0 (0 : Int)).bind fun x7 =>
 (lat a0 (1 : Int)).bind fun x9 =>
 (lat a0 (2 : Int)).bind fun x11 =>
 (cutL a0 (27 : Int) (w64 ((a0.length : Int) - (4 : Int)))).bind fun m13 =>
 (partref_NoteRead_1 (3 : Int) a0).bind fun r24 =>
 (partref_NoteRead_1 (6 : Int) a0).bind fun r28 =>
 Let ({ ({ Note.zero with Kind := (x7.toBitVec.toNat : Int), From := (x9.toBitVec.toNat : Int), To := (x11.toBitVec.toNat : Int), Text := m13 } : Note) with View := r24 } : Note) fun p32 =>
 Let ({ p32 with Seq := r28 } : Note) fun p34 =>
 (rangeF (partref_NoteRead_B0 a0) 6 0 p34).bind fun y37 =>
 (cutL a0 0 (w64 ((a0.length : Int) - (4 : Int)))).bind fun m49 =>
 (partref_Sum m49).bind fun r51 =>
 andThen (rangeM (partref_NoteRead_B2 a0 r51) 4 0 ()) fun _ =>
 bif decide ((max y37.From y37.To) > (5 : Int)) then (some (Note.zero, (1 : Int))) else
 some (y37, (0 : Int))
def partlaw_WireSays (fu : Nat) (a0 : Note) (a1 : Str) : Option Bool :=
 (partref_NoteErr fu a0).bind fun r3 =>
 (wire_Pack a0).bind fun r7 =>
 (bif r3 == (0 : Int) then ((partref_NoteText a0).bind fun r14 =>
 some r14) else
 some ([] : Str)).bind fun y11 =>
 (wire_Read a1).bind fun r20 =>
 (partref_NoteRead a1).bind fun r26 =>
 (wire_Sum a1).bind fun r32 =>
 (partref_Sum a1).bind fun r36 =>
 (bif (r32.toNat : Int) == (r36.toNat : Int) then ((wire_Check a0).bind fun r43 =>
 some (r43 == r3)) else
 some false).bind fun y41 =>
 (bif y41 then (some (decide (r7.1 = y11))) else
 some false).bind fun y50 =>
 (bif y50 then (some (r7.2 == r3)) else
 some false).bind fun y55 =>
 (bif y55 then (some (decide (r20.1 = r26.1))) else
 some false).bind fun y60 =>
 (bif y60 then (some (r20.2 == r26.2)) else
 some false).bind fun y65 =>
 some y65
end Go.Proofs.Ytobikknjaomalaa
