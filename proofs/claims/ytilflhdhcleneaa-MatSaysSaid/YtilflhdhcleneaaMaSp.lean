/-
  What the functions compute, typed; printed by a program.
-/
import Derived.Test.YtilflhdhcleneaaGoC
namespace Go.Proofs.Ytilflhdhcleneaa
open Go.RowKit Enc
set_option linter.unusedVariables false
set_option linter.unusedSimpArgs false
structure Matrix where
  N : Int
  Me : Int
  Rows : Vector (Vector Int 6) 6
instance : DecidableEq Matrix := fun a b => decidable_of_iff (a.N = b.N ∧ a.Me = b.Me ∧ a.Rows = b.Rows) (by cases a; cases b; simp)
def Matrix.zero : Matrix := ⟨(0 : Int), (0 : Int), (Vector.replicate 6 (Vector.replicate 6 (0 : Int)))⟩
instance : Enc Matrix := ⟨fun p => enc p.N ++ (enc p.Me ++ (enc p.Rows)), 38, fun p => by simp only [List.length_append, Enc.len]; rfl, fun p => by simp only [List.all_append, Enc.one, Bool.and_self]⟩
instance : Rng Matrix := ⟨fun p => Rng.ok p.N ∧ Rng.ok p.Me ∧ Rng.ok p.Rows⟩
theorem Matrix.get_N {p : Matrix} {k : Nat} {ch : List Value} (h : Get (enc p.N) k ch) : Get (enc p) (0 + k) ch := Get.off (Get.left h) (by omega)
theorem Matrix.put_N {p : Matrix} {k : Nat} {vs : List Value} {y : Int} (h : Put (enc p.N) k vs (enc y)) : Put (enc p) (0 + k) vs (enc { p with N := y }) := Put.off (cs' := enc { p with N := y }) (Put.left h) (by omega)
theorem Matrix.get_Me {p : Matrix} {k : Nat} {ch : List Value} (h : Get (enc p.Me) k ch) : Get (enc p) (1 + k) ch := Get.off (Get.right (m := 1) (Enc.len _) (Get.left h)) (by omega)
theorem Matrix.put_Me {p : Matrix} {k : Nat} {vs : List Value} {y : Int} (h : Put (enc p.Me) k vs (enc y)) : Put (enc p) (1 + k) vs (enc { p with Me := y }) := Put.off (cs' := enc { p with Me := y }) (Put.right (m := 1) (Enc.len _) (Put.left h)) (by omega)
theorem Matrix.get_Rows {p : Matrix} {k : Nat} {ch : List Value} (h : Get (enc p.Rows) k ch) : Get (enc p) (2 + k) ch := Get.off (Get.right (m := 1) (Enc.len _) (Get.right (m := 1) (Enc.len _) h)) (by omega)
theorem Matrix.put_Rows {p : Matrix} {k : Nat} {vs : List Value} {y : Vector (Vector Int 6) 6} (h : Put (enc p.Rows) k vs (enc y)) : Put (enc p) (2 + k) vs (enc { p with Rows := y }) := Put.off (cs' := enc { p with Rows := y }) (Put.right (m := 1) (Enc.len _) (Put.right (m := 1) (Enc.len _) h)) (by omega)
def partref_MatrixErr_L15 (a0 : Matrix) (i14 : Nat) (i15 : Nat) (z15 : Unit) : Option (Ctl Unit (Ctl Unit Int)) :=
 (vat a0.Rows (i14 : Int)).bind fun x16 =>
 (vat x16 (i15 : Int)).bind fun x19 =>
 (bif decide (x19 < (0 : Int)) then (some true) else
 some (decide (x19 > (16777215 : Int)))).bind fun y26 =>
 bif y26 then (some (.ret (.ret (1 : Int)))) else
 (bif decide ((max (i14 : Int) (i15 : Int)) ≥ a0.N) then (bif x19 != (0 : Int) then (some true) else
 (vat a0.Rows a0.Me).bind fun x40 =>
 (vat x40 (i15 : Int)).bind fun x43 =>
 some (decide (x19 > x43))) else
 (vat a0.Rows a0.Me).bind fun x31 =>
 (vat x31 (i15 : Int)).bind fun x34 =>
 some (decide (x19 > x34))).bind fun y47 =>
 bif y47 then (some (.ret (.ret (4 : Int)))) else
 some (.go ())
def partref_MatrixErr_L14 (a0 : Matrix) (i14 : Nat) (z14 : Unit) : Option (Ctl Unit Int) :=
 andThen (rangeM (partref_MatrixErr_L15 a0 i14) 6 0 ()) fun _ =>
 some (.go ())
def partref_MatrixErr (a0 : Matrix) : Option Int :=
 (bif decide (a0.N < (1 : Int)) then (some true) else
 bif decide (a0.N > (6 : Int)) then (some true) else
 bif decide (a0.Me < (0 : Int)) then (some true) else
 some (decide (a0.Me ≥ a0.N))).bind fun y11 =>
 bif y11 then (some (1 : Int)) else
 andThen (rangeM (partref_MatrixErr_L14 a0) 6 0 ()) fun _ =>
 some (0 : Int)
def mat_in (a0 : Int) (a1 : Int) (a2 : Int) : Option Bool :=
 (bif decide (a0 ≥ a1) then (some (decide (a0 ≤ a2))) else
 some false).bind fun y5 =>
 some y5
def mat_Check_L20 (a0 : Matrix) (i14 : Nat) (x15 : Vector Int 6) (i20 : Nat) (z20 : Unit) : Option (Ctl Unit (Ctl Unit Int)) :=
 (vat x15 (i20 : Int)).bind fun x21 =>
 (mat_in x21 (0 : Int) (16777215 : Int)).bind fun r24 =>
 bif !r24 then (some (.ret (.ret (1 : Int)))) else
 (bif decide (x21 > (0 : Int)) then (bif decide ((i14 : Int) ≥ a0.N) then (some true) else
 bif decide ((i20 : Int) ≥ a0.N) then (some true) else
 (vat a0.Rows a0.Me).bind fun x40 =>
 (vat x40 (i20 : Int)).bind fun x43 =>
 some (decide (x21 > x43))) else
 (vat a0.Rows a0.Me).bind fun x29 =>
 (vat x29 (i20 : Int)).bind fun x32 =>
 some (decide (x21 > x32))).bind fun y47 =>
 bif y47 then (some (.ret (.ret (4 : Int)))) else
 some (.go ())
def mat_Check_L14 (a0 : Matrix) (i14 : Nat) (z14 : Unit) : Option (Ctl Unit Int) :=
 (vat a0.Rows (i14 : Int)).bind fun x15 =>
 andThen (rangeM (mat_Check_L20 a0 i14 x15) 6 0 ()) fun _ =>
 some (.go ())
def mat_Check (a0 : Matrix) : Option Int :=
 ((mat_in a0.N (1 : Int) (6 : Int)).bind fun r4 =>
 bif !r4 then (some true) else
 (mat_in a0.Me (0 : Int) (w64 (a0.N - (1 : Int)))).bind fun r8 =>
 some (!r8)).bind fun y11 =>
 bif y11 then (some (1 : Int)) else
 andThen (rangeM (mat_Check_L14 a0) 6 0 ()) fun _ =>
 some (0 : Int)
def mat_New (a0 : Int) (a1 : Int) : Option (Matrix × Int) :=
 (mat_Check ({ Matrix.zero with N := a0, Me := a1 } : Matrix)).bind fun r5 =>
 bif r5 != (0 : Int) then (some ((Matrix.zero : Matrix), r5)) else
 some (({ Matrix.zero with N := a0, Me := a1 } : Matrix), (0 : Int))
def mat_Did (a0 : Matrix) : Option (Matrix × Int) :=
 (mat_Check a0).bind fun r5 =>
 bif r5 != (0 : Int) then (some ((Matrix.zero : Matrix), r5)) else
 (vat a0.Rows a0.Me).bind fun x8 =>
 (vat x8 a0.Me).bind fun x11 =>
 bif x11 == (16777215 : Int) then (some ((Matrix.zero : Matrix), (8 : Int))) else
 (vat a0.Rows a0.Me).bind fun x15 =>
 (vat x15 a0.Me).bind fun x18 =>
 (vat a0.Rows a0.Me).bind fun x21 =>
 (vat x21 a0.Me).bind fun x24 =>
 Let ({ a0 with Rows := a0.Rows.setIfInBounds a0.Me.toNat (x21.setIfInBounds a0.Me.toNat (w64 (x18 + (1 : Int)))) }) fun p27 =>
 some (p27, (0 : Int))
def vect_Max_L7 (a1 : Vector Int 6) (i7 : Nat) (z7 : (Vector Int 6)) : Option (Vector Int 6) :=
 (vat z7 (i7 : Int)).bind fun x9 =>
 (vat a1 (i7 : Int)).bind fun x12 =>
 (vat z7 (i7 : Int)).bind fun x15 =>
 Let (z7.setIfInBounds (i7 : Int).toNat (max x9 x12)) fun p18 =>
 some p18
def vect_Max (a0 : Vector Int 6) (a1 : Vector Int 6) : Option (Vector Int 6) :=
 (rangeF (vect_Max_L7 a1) 6 0 a0).bind fun y8 =>
 some y8
def mat_Meet_L25 (a1 : Matrix) (i25 : Nat) (z25 : Matrix) : Option Matrix :=
 (vat z25.Rows (i25 : Int)).bind fun x27 =>
 (vat a1.Rows (i25 : Int)).bind fun x30 =>
 (vect_Max x27 x30).bind fun r33 =>
 (vat z25.Rows (i25 : Int)).bind fun x35 =>
 Let ({ z25 with Rows := z25.Rows.setIfInBounds (i25 : Int).toNat r33 }) fun p38 =>
 some p38
def mat_Meet_L9 (a0 : Matrix) (a1 : Matrix) (i9 : Nat) (z9 : Unit) : Option (Ctl Unit (Matrix × Int)) :=
 (lat ([a0, a1] : List Matrix) (i9 : Int)).bind fun x10 =>
 (mat_Check x10).bind fun r15 =>
 bif r15 != (0 : Int) then (some (.ret ((Matrix.zero : Matrix), r15))) else
 some (.go ())
def mat_Meet (a0 : Matrix) (a1 : Matrix) : Option (Matrix × Int) :=
 andThen (rangeM (mat_Meet_L9 a0 a1) (([a0, a1] : List Matrix).length) 0 ()) fun _ =>
 (bif a0.N != a1.N then (some true) else
 some (a0.Me == a1.Me)).bind fun y22 =>
 bif y22 then (some ((Matrix.zero : Matrix), (1 : Int))) else
 (rangeF (mat_Meet_L25 a1) 6 0 a0).bind fun y26 =>
 (vat y26.Rows y26.Me).bind fun x40 =>
 (vat a1.Rows a1.Me).bind fun x43 =>
 (vect_Max x40 x43).bind fun r46 =>
 (vat y26.Rows y26.Me).bind fun x48 =>
 Let ({ y26 with Rows := y26.Rows.setIfInBounds y26.Me.toNat r46 }) fun p51 =>
 some (p51, (0 : Int))
def vect_Min_L7 (a1 : Vector Int 6) (i7 : Nat) (z7 : (Vector Int 6)) : Option (Vector Int 6) :=
 (vat z7 (i7 : Int)).bind fun x9 =>
 (vat a1 (i7 : Int)).bind fun x12 =>
 (vat z7 (i7 : Int)).bind fun x15 =>
 Let (z7.setIfInBounds (i7 : Int).toNat (min x9 x12)) fun p18 =>
 some p18
def vect_Min (a0 : Vector Int 6) (a1 : Vector Int 6) : Option (Vector Int 6) :=
 (rangeF (vect_Min_L7 a1) 6 0 a0).bind fun y8 =>
 some y8
def mat_Firm_L13 (a0 : Matrix) (i13 : Nat) (z13 : (Vector Int 6)) : Option (Vector Int 6) :=
 (vat a0.Rows (i13 : Int)).bind fun x16 =>
 (vect_Min z13 x16).bind fun r19 =>
 some r19
def mat_Firm (a0 : Matrix) : Option ((Vector Int 6) × Int) :=
 (mat_Check a0).bind fun r5 =>
 bif r5 != (0 : Int) then (some (((Vector.replicate 6 (0 : Int)) : Vector Int 6), r5)) else
 (vat a0.Rows (0 : Int)).bind fun x8 =>
 (upTo a0.N).bind fun nn15 =>
 (rangeF (mat_Firm_L13 a0) nn15 0 x8).bind fun y14 =>
 some (y14, (0 : Int))
def partref_FirmRow_L15 (a0 : Matrix) (i7 : Nat) (i15 : Nat) (z15 : Int) : Option Int :=
 (vat a0.Rows (i15 : Int)).bind fun x18 =>
 (vat x18 (i7 : Int)).bind fun x21 =>
 some (min z15 x21)
def partref_FirmRow_L7 (a0 : Matrix) (i7 : Nat) (z7 : (Vector Int 6)) : Option (Vector Int 6) :=
 (vat a0.Rows (0 : Int)).bind fun x9 =>
 (vat x9 (i7 : Int)).bind fun x12 =>
 (upTo a0.N).bind fun nn17 =>
 (rangeF (partref_FirmRow_L15 a0 i7) nn17 0 x12).bind fun y16 =>
 (vat z7 (i7 : Int)).bind fun x24 =>
 Let (z7.setIfInBounds (i7 : Int).toNat y16) fun p27 =>
 some p27
def partref_FirmRow (a0 : Matrix) : Option (Vector Int 6) :=
 (rangeF (partref_FirmRow_L7 a0) 6 0 (Vector.replicate 6 (0 : Int))).bind fun y8 =>
 some y8
def partref_Meet_L9 (a1 : Matrix) (i7 : Nat) (i9 : Nat) (z9 : Matrix) : Option Matrix :=
 (vat z9.Rows (i7 : Int)).bind fun x11 =>
 (vat x11 (i9 : Int)).bind fun x14 =>
 (vat a1.Rows (i7 : Int)).bind fun x17 =>
 (vat x17 (i9 : Int)).bind fun x20 =>
 (vat z9.Rows (i7 : Int)).bind fun x23 =>
 (vat x23 (i9 : Int)).bind fun x26 =>
 Let ({ z9 with Rows := z9.Rows.setIfInBounds (i7 : Int).toNat (x23.setIfInBounds (i9 : Int).toNat (max x14 x20)) }) fun p29 =>
 some p29
def partref_Meet_L31 (a1 : Matrix) (i31 : Nat) (z31 : Matrix) : Option Matrix :=
 (vat z31.Rows z31.Me).bind fun x33 =>
 (vat x33 (i31 : Int)).bind fun x36 =>
 (vat a1.Rows a1.Me).bind fun x39 =>
 (vat x39 (i31 : Int)).bind fun x42 =>
 (vat z31.Rows z31.Me).bind fun x45 =>
 (vat x45 (i31 : Int)).bind fun x48 =>
 Let ({ z31 with Rows := z31.Rows.setIfInBounds z31.Me.toNat (x45.setIfInBounds (i31 : Int).toNat (max x36 x42)) }) fun p51 =>
 some p51
def partref_Meet_L7 (a1 : Matrix) (i7 : Nat) (z7 : Matrix) : Option Matrix :=
 (rangeF (partref_Meet_L9 a1 i7) 6 0 z7).bind fun y10 =>
 some y10
def partref_Meet (a0 : Matrix) (a1 : Matrix) : Option Matrix :=
 (rangeF (partref_Meet_L7 a1) 6 0 a0).bind fun y8 =>
 (rangeF (partref_Meet_L31 a1) 6 0 y8).bind fun y32 =>
 some y32
def partlaw_MatSays (a0 : Matrix) (a1 : Matrix) (a2 : Int) (a3 : Int) : Option Bool :=
 (partref_MatrixErr a0).bind fun r5 =>
 (partref_MatrixErr a1).bind fun r7 =>
 (mat_New a2 a3).bind fun r11 =>
 (mat_Did a0).bind fun r15 =>
 (mat_Meet a0 a1).bind fun r19 =>
 (mat_Firm a0).bind fun r23 =>
 ((partref_MatrixErr ({ Matrix.zero with N := a2, Me := a3 } : Matrix)).bind fun r30 =>
 bif r30 != (0 : Int) then (some (Matrix.zero : Matrix)) else
 some ({ Matrix.zero with N := a2, Me := a3 } : Matrix)).bind fun y35 =>
 (bif !(decide (r11.1 = y35)) then (some true) else
 bif decide (a2 > (0 : Int)) then (bif decide (a2 < (7 : Int)) then (bif decide (a3 ≥ (0 : Int)) then (bif (r11.2 == (0 : Int)) != (decide (a3 < a2)) then (some true) else
 bif r11.2 != (0 : Int) then (bif r11.2 != (1 : Int) then (some true) else
 (mat_Check a0).bind fun r84 =>
 some (r84 != r5)) else
 (mat_Check a0).bind fun r79 =>
 some (r79 != r5)) else
 bif (r11.2 == (0 : Int)) != false then (some true) else
 bif r11.2 != (0 : Int) then (bif r11.2 != (1 : Int) then (some true) else
 (mat_Check a0).bind fun r73 =>
 some (r73 != r5)) else
 (mat_Check a0).bind fun r68 =>
 some (r68 != r5)) else
 bif (r11.2 == (0 : Int)) != false then (some true) else
 bif r11.2 != (0 : Int) then (bif r11.2 != (1 : Int) then (some true) else
 (mat_Check a0).bind fun r61 =>
 some (r61 != r5)) else
 (mat_Check a0).bind fun r56 =>
 some (r56 != r5)) else
 bif (r11.2 == (0 : Int)) != false then (some true) else
 bif r11.2 != (0 : Int) then (bif r11.2 != (1 : Int) then (some true) else
 (mat_Check a0).bind fun r49 =>
 some (r49 != r5)) else
 (mat_Check a0).bind fun r44 =>
 some (r44 != r5)).bind fun y87 =>
 bif y87 then (some false) else
 bif r5 != (0 : Int) then ((bif decide (r15.1 = (Matrix.zero : Matrix)) then (bif r15.2 == r5 then (bif decide (r19.1 = (Matrix.zero : Matrix)) then (bif r19.2 == r5 then (bif decide (r23.1 = ((Vector.replicate 6 (0 : Int)) : Vector Int 6)) then (some (r23.2 == r5)) else
 some false) else
 some false) else
 some false) else
 some false) else
 some false).bind fun y103 =>
 some y103) else
 ((partref_FirmRow a0).bind fun r106 =>
 bif !(decide (r23.1 = r106)) then (some true) else
 some (r23.2 != (0 : Int))).bind fun y111 =>
 bif y111 then (some false) else
 andThen ((vat a0.Rows a0.Me).bind fun x115 =>
 (vat x115 a0.Me).bind fun x118 =>
 bif x118 == (16777215 : Int) then ((bif !(decide (r15.1 = (Matrix.zero : Matrix))) then (some true) else
 some (r15.2 != (8 : Int))).bind fun y126 =>
 bif y126 then (some (.inr false)) else
 some (.inl ())) else
 (vat a0.Rows a0.Me).bind fun x131 =>
 (vat x131 a0.Me).bind fun x134 =>
 (vat a0.Rows a0.Me).bind fun x137 =>
 (vat x137 a0.Me).bind fun x140 =>
 Let ({ a0 with Rows := a0.Rows.setIfInBounds a0.Me.toNat (x137.setIfInBounds a0.Me.toNat (w64 (x134 + (1 : Int)))) }) fun p143 =>
 (bif !(decide (r15.1 = p143)) then (some true) else
 some (r15.2 != (0 : Int))).bind fun y149 =>
 bif y149 then (some (.inr false)) else
 some (.inl ())) fun _ =>
 bif r7 != (0 : Int) then ((bif decide (r19.1 = (Matrix.zero : Matrix)) then (some (r19.2 == r7)) else
 some false).bind fun y158 =>
 some y158) else
 (bif a0.N != a1.N then (some true) else
 some (a0.Me == a1.Me)).bind fun y164 =>
 bif y164 then ((bif decide (r19.1 = (Matrix.zero : Matrix)) then (some (r19.2 == (1 : Int))) else
 some false).bind fun y171 =>
 some y171) else
 ((partref_Meet a0 a1).bind fun r174 =>
 bif decide (r19.1 = r174) then (some (r19.2 == (0 : Int))) else
 some false).bind fun y179 =>
 some y179
end Go.Proofs.Ytilflhdhcleneaa
