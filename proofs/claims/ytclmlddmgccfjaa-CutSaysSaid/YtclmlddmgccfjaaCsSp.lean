/-
  What the functions compute, typed; printed by a program.
-/
import Derived.Test.YtclmlddmgccfjaaGoI
import Derived.Test.YtclmlddmgccfjaaGoM
import Derived.Test.YtclmlddmgccfjaaGoS
namespace Go.Proofs.Ytclmlddmgccfjaa
open Go.RowKit Enc
set_option linter.unusedVariables false
set_option linter.unusedSimpArgs false
structure Event where
  Proc : Int
  Kind : Int
  Msg : Int
instance : DecidableEq Event := fun a b => decidable_of_iff (a.Proc = b.Proc ∧ a.Kind = b.Kind ∧ a.Msg = b.Msg) (by cases a; cases b; simp)
def Event.zero : Event := ⟨(0 : Int), (0 : Int), (0 : Int)⟩
instance : Enc Event := ⟨fun p => enc p.Proc ++ (enc p.Kind ++ (enc p.Msg)), 3, fun p => by simp only [List.length_append, Enc.len]; rfl, fun p => by simp only [List.all_append, Enc.one, Bool.and_self]⟩
theorem Event.get_Proc {p : Event} {k : Nat} {ch : List Value} (h : Get (enc p.Proc) k ch) : Get (enc p) (0 + k) ch := Get.off (Get.left h) (by omega)
theorem Event.put_Proc {p : Event} {k : Nat} {vs : List Value} {y : Int} (h : Put (enc p.Proc) k vs (enc y)) : Put (enc p) (0 + k) vs (enc ({ p with Proc := y } : Event)) := Put.off (cs' := enc ({ p with Proc := y } : Event)) (Put.left h) (by omega)
theorem Event.get_Kind {p : Event} {k : Nat} {ch : List Value} (h : Get (enc p.Kind) k ch) : Get (enc p) (1 + k) ch := Get.off (Get.right (m := 1) (Enc.len _) (Get.left h)) (by omega)
theorem Event.put_Kind {p : Event} {k : Nat} {vs : List Value} {y : Int} (h : Put (enc p.Kind) k vs (enc y)) : Put (enc p) (1 + k) vs (enc ({ p with Kind := y } : Event)) := Put.off (cs' := enc ({ p with Kind := y } : Event)) (Put.right (m := 1) (Enc.len _) (Put.left h)) (by omega)
theorem Event.get_Msg {p : Event} {k : Nat} {ch : List Value} (h : Get (enc p.Msg) k ch) : Get (enc p) (2 + k) ch := Get.off (Get.right (m := 1) (Enc.len _) (Get.right (m := 1) (Enc.len _) h)) (by omega)
theorem Event.put_Msg {p : Event} {k : Nat} {vs : List Value} {y : Int} (h : Put (enc p.Msg) k vs (enc y)) : Put (enc p) (2 + k) vs (enc ({ p with Msg := y } : Event)) := Put.off (cs' := enc ({ p with Msg := y } : Event)) (Put.right (m := 1) (Enc.len _) (Put.right (m := 1) (Enc.len _) h)) (by omega)
instance : Rng Event := ⟨fun p => Rng.ok p.Proc ∧ Rng.ok p.Kind ∧ Rng.ok p.Msg⟩
structure Checker where
  sender : Vector Int 30
  taken : Vector (Vector Bool 6) 30
instance : DecidableEq Checker := fun a b => decidable_of_iff (a.sender = b.sender ∧ a.taken = b.taken) (by cases a; cases b; simp)
def Checker.zero : Checker := ⟨(Vector.replicate 30 (0 : Int)), (Vector.replicate 30 (Vector.replicate 6 false))⟩
instance : Enc Checker := ⟨fun p => enc p.sender ++ (enc p.taken), 210, fun p => by simp only [List.length_append, Enc.len]; rfl, fun p => by simp only [List.all_append, Enc.one, Bool.and_self]⟩
theorem Checker.get_sender {p : Checker} {k : Nat} {ch : List Value} (h : Get (enc p.sender) k ch) : Get (enc p) (0 + k) ch := Get.off (Get.left h) (by omega)
theorem Checker.put_sender {p : Checker} {k : Nat} {vs : List Value} {y : Vector Int 30} (h : Put (enc p.sender) k vs (enc y)) : Put (enc p) (0 + k) vs (enc ({ p with sender := y } : Checker)) := Put.off (cs' := enc ({ p with sender := y } : Checker)) (Put.left h) (by omega)
theorem Checker.get_taken {p : Checker} {k : Nat} {ch : List Value} (h : Get (enc p.taken) k ch) : Get (enc p) (30 + k) ch := Get.off (Get.right (m := 30) (Enc.len _) h) (by omega)
theorem Checker.put_taken {p : Checker} {k : Nat} {vs : List Value} {y : Vector (Vector Bool 6) 30} (h : Put (enc p.taken) k vs (enc y)) : Put (enc p) (30 + k) vs (enc ({ p with taken := y } : Checker)) := Put.off (cs' := enc ({ p with taken := y } : Checker)) (Put.right (m := 30) (Enc.len _) h) (by omega)
instance : Rng Checker := ⟨fun p => Rng.ok p.sender ∧ Rng.ok p.taken⟩
structure Pair where
  A : Int
  B : Int
instance : DecidableEq Pair := fun a b => decidable_of_iff (a.A = b.A ∧ a.B = b.B) (by cases a; cases b; simp)
def Pair.zero : Pair := ⟨(0 : Int), (0 : Int)⟩
instance : Enc Pair := ⟨fun p => enc p.A ++ (enc p.B), 2, fun p => by simp only [List.length_append, Enc.len]; rfl, fun p => by simp only [List.all_append, Enc.one, Bool.and_self]⟩
theorem Pair.get_A {p : Pair} {k : Nat} {ch : List Value} (h : Get (enc p.A) k ch) : Get (enc p) (0 + k) ch := Get.off (Get.left h) (by omega)
theorem Pair.put_A {p : Pair} {k : Nat} {vs : List Value} {y : Int} (h : Put (enc p.A) k vs (enc y)) : Put (enc p) (0 + k) vs (enc ({ p with A := y } : Pair)) := Put.off (cs' := enc ({ p with A := y } : Pair)) (Put.left h) (by omega)
theorem Pair.get_B {p : Pair} {k : Nat} {ch : List Value} (h : Get (enc p.B) k ch) : Get (enc p) (1 + k) ch := Get.off (Get.right (m := 1) (Enc.len _) h) (by omega)
theorem Pair.put_B {p : Pair} {k : Nat} {vs : List Value} {y : Int} (h : Put (enc p.B) k vs (enc y)) : Put (enc p) (1 + k) vs (enc ({ p with B := y } : Pair)) := Put.off (cs' := enc ({ p with B := y } : Pair)) (Put.right (m := 1) (Enc.len _) h) (by omega)
instance : Rng Pair := ⟨fun p => Rng.ok p.A ∧ Rng.ok p.B⟩
def partref_HistoryErr_B2 (x5 : Event) (m26 : List Event) (i31 : Nat) (z31 : Int × Bool) : Option (Int × Bool) :=
 (lat m26 (i31 : Int)).bind fun x36 =>
 ((bif x36.Kind == (2 : Int) then (some (x36.Msg == x5.Msg)) else
 some false).bind fun y44 =>
 bif y44 then (some x36.Proc) else
 some z31.1).bind fun y41 =>
 (bif z31.2 then (some true) else
 some (decide (x36 = x5))).bind fun y52 =>
 some (y41, y52)
def partref_HistoryErr_B0 (a0 : List Event) (i2 : Nat) (z2 : Unit) : Option (Ctl Unit Int) :=
 (lat a0 (i2 : Int)).bind fun x5 =>
 (bif decide (x5.Proc < (0 : Int)) then (some true) else
 some (decide (x5.Proc > (5 : Int)))).bind fun y11 =>
 (bif y11 then (some true) else
 some (decide (x5.Msg < (0 : Int)))).bind fun y16 =>
 (bif y16 then (some true) else
 some (decide (x5.Msg > (29 : Int)))).bind fun y21 =>
 bif y21 then (some (.ret (1 : Int))) else
 (cutL a0 0 (i2 : Int)).bind fun m26 =>
 (rangeF (partref_HistoryErr_B2 x5 m26) m26.length 0 ((-1 : Int), false)).bind fun (y32, y33) =>
 (bif x5.Kind == (1 : Int) then (some (x5.Msg == (0 : Int))) else
 some false).bind fun y57 =>
 bif y57 then (some (.go ())) else
 (bif x5.Kind == (2 : Int) then (some (decide (y32 < (0 : Int)))) else
 some false).bind fun y63 =>
 bif y63 then (some (.go ())) else
 (bif x5.Kind == (3 : Int) then (some (decide (y32 ≥ (0 : Int)))) else
 some false).bind fun y69 =>
 (bif y69 then (some (y32 != x5.Proc)) else
 some false).bind fun y74 =>
 (bif y74 then (some (!y33)) else
 some false).bind fun y79 =>
 bif y79 then (some (.go ())) else
 some (.ret (4 : Int))
def partref_HistoryErr (a0 : List Event) : Option Int :=
 bif decide ((a0.length : Int) > (60 : Int)) then (some (2 : Int)) else
 andThen (rangeM (partref_HistoryErr_B0 a0) a0.length 0 ()) fun _ =>
 some (0 : Int)
def partref_Sizes_B0 (a0 : List Event) (i5 : Nat) (z5 : (Vector Int 6)) : Option (Vector Int 6) :=
 (lat a0 (i5 : Int)).bind fun x9 =>
 (vat z5 x9.Proc).bind fun x14 =>
 (vat z5 x9.Proc).bind fun x17 =>
 Let (z5.setIfInBounds x9.Proc.toNat (w64 (x14 + (1 : Int)))) fun p20 =>
 some p20
def partref_Sizes (a0 : List Event) : Option (Vector Int 6) :=
 (rangeF (partref_Sizes_B0 a0) a0.length 0 (Vector.replicate 6 (0 : Int))).bind fun y6 =>
 some y6
def partref_CutErr_B0 (a1 : Vector Int 6) (r8 : (Vector Int 6)) (i12 : Nat) (z12 : Unit) : Option (Ctl Unit Int) :=
 (vat r8 (i12 : Int)).bind fun x15 =>
 (vat a1 (i12 : Int)).bind fun x18 =>
 (bif decide (x18 < (0 : Int)) then (some true) else
 (vat a1 (i12 : Int)).bind fun x24 =>
 some (decide (x24 > x15))).bind fun y22 =>
 bif y22 then (some (.ret (1 : Int))) else
 some (.go ())
def partref_CutErr (a0 : List Event) (a1 : Vector Int 6) : Option Int :=
 (partref_HistoryErr a0).bind fun r3 =>
 bif r3 != (0 : Int) then (some r3) else
 (partref_Sizes a0).bind fun r8 =>
 andThen (rangeM (partref_CutErr_B0 a1 r8) 6 0 ()) fun _ =>
 some (0 : Int)
def stamp_in (a0 : Int) (a1 : Int) (a2 : Int) : Option Bool :=
 (bif decide (a0 ≥ a1) then (some (decide (a0 ≤ a2))) else
 some false).bind fun y2 =>
 some y2
def stamp_checker_event (a0 : Checker) (a1 : Event) : Option (Checker × Int) :=
 (stamp_in a1.Proc (0 : Int) (5 : Int)).bind fun r4 =>
 (bif !r4 then (some true) else
 (stamp_in a1.Msg (0 : Int) (29 : Int)).bind fun r11 =>
 some (!r11)).bind fun y9 =>
 bif y9 then (some (a0, (1 : Int))) else
 andThen (bif a1.Kind == (1 : Int) then (bif a1.Msg != (0 : Int) then (some (.inr (a0, (4 : Int)))) else
 some (.inl a0)) else
 bif a1.Kind == (2 : Int) then ((vat a0.sender a1.Msg).bind fun x23 =>
 bif decide (x23 > (0 : Int)) then (some (.inr (a0, (4 : Int)))) else
 (vat a0.sender a1.Msg).bind fun x27 =>
 Let ({ a0 with sender := a0.sender.setIfInBounds a1.Msg.toNat (w64 (a1.Proc + (1 : Int))) } : Checker) fun p30 =>
 some (.inl p30)) else
 bif a1.Kind == (3 : Int) then ((vat a0.sender a1.Msg).bind fun x33 =>
 (bif x33 == (0 : Int) then (some true) else
 (vat a0.sender a1.Msg).bind fun x39 =>
 some (x39 == (w64 (a1.Proc + (1 : Int))))).bind fun y37 =>
 (bif y37 then (some true) else
 (vat a0.taken a1.Msg).bind fun x45 =>
 (vat x45 a1.Proc).bind fun x48 =>
 some x48).bind fun y43 =>
 bif y43 then (some (.inr (a0, (4 : Int)))) else
 (vat a0.taken a1.Msg).bind fun x52 =>
 (vat x52 a1.Proc).bind fun x55 =>
 Let ({ a0 with taken := a0.taken.setIfInBounds a1.Msg.toNat (x52.setIfInBounds a1.Proc.toNat true) } : Checker) fun p58 =>
 some (.inl p58)) else
 some (.inr (a0, (4 : Int)))) fun y18 =>
 some (y18, (0 : Int))
def stamp_Check_B0 (a0 : List Event) (i4 : Nat) (z4 : Checker) : Option (Ctl Checker Int) :=
 (lat a0 (i4 : Int)).bind fun x8 =>
 (stamp_checker_event z4 x8).bind fun r13 =>
 bif r13.2 != (0 : Int) then (some (.ret r13.2)) else
 some (.go r13.1)
def stamp_Check (a0 : List Event) : Option Int :=
 bif decide ((a0.length : Int) > (60 : Int)) then (some (2 : Int)) else
 andThen (rangeM (stamp_Check_B0 a0) a0.length 0 Checker.zero) fun y5 =>
 some (0 : Int)
def vect_Max_B0 (a1 : Vector Int 6) (i7 : Nat) (z7 : (Vector Int 6)) : Option (Vector Int 6) :=
 (vat z7 (i7 : Int)).bind fun x11 =>
 (vat a1 (i7 : Int)).bind fun x14 =>
 (vat z7 (i7 : Int)).bind fun x17 =>
 Let (z7.setIfInBounds (i7 : Int).toNat (max x11 x14)) fun p20 =>
 some p20
def vect_Max (a0 : Vector Int 6) (a1 : Vector Int 6) : Option (Vector Int 6) :=
 (rangeF (vect_Max_B0 a1) 6 0 a0).bind fun y8 =>
 some y8
def vect_Within (a0 : Vector Int 6) (a1 : Vector Int 6) : Option Bool :=
 (vect_Max a0 a1).bind fun r5 =>
 some (decide (r5 = a1))
def cut_counts_B0 (a0 : List Event) (i5 : Nat) (z5 : (Vector Int 6)) : Option (Vector Int 6) :=
 (lat a0 (i5 : Int)).bind fun x9 =>
 (vat z5 x9.Proc).bind fun x14 =>
 (vat z5 x9.Proc).bind fun x17 =>
 Let (z5.setIfInBounds x9.Proc.toNat (w64 (x14 + (1 : Int)))) fun p20 =>
 some p20
def cut_counts (a0 : List Event) : Option (Vector Int 6) :=
 (rangeF (cut_counts_B0 a0) a0.length 0 (Vector.replicate 6 (0 : Int))).bind fun y6 =>
 some y6
def cut_Check (a0 : List Event) (a1 : Vector Int 6) : Option Int :=
 (stamp_Check a0).bind fun r3 =>
 bif r3 != (0 : Int) then (some r3) else
 (vect_Within ((Vector.replicate 6 (0 : Int)) : Vector Int 6) a1).bind fun r8 =>
 (bif !r8 then (some true) else
 (cut_counts a0).bind fun r15 =>
 (vect_Within a1 r15).bind fun r19 =>
 some (!r19)).bind fun y13 =>
 bif y13 then (some (1 : Int)) else
 some (0 : Int)
def vect_Vectors_B0 (a0 : List Event) (i15 : Nat) (z15 : (Vector (Vector Int 6) 30) × (Vector (Vector Int 6) 6) × (Vector Int 6) × (List (Vector Int 6))) : Option ((Vector (Vector Int 6) 30) × (Vector (Vector Int 6) 6) × (Vector Int 6) × (List (Vector Int 6))) :=
 (lat a0 (i15 : Int)).bind fun x23 =>
 (vat z15.2.1 x23.Proc).bind fun x28 =>
 (bif x23.Kind == (3 : Int) then ((vat z15.1 x23.Msg).bind fun x36 =>
 (vect_Max x28 x36).bind fun r39 =>
 some r39) else
 some x28).bind fun y33 =>
 (vat z15.2.2.1 x23.Proc).bind fun x45 =>
 (vat z15.2.2.1 x23.Proc).bind fun x48 =>
 Let (z15.2.2.1.setIfInBounds x23.Proc.toNat (w64 (x45 + (1 : Int)))) fun p51 =>
 (vat p51 x23.Proc).bind fun x53 =>
 (vat y33 x23.Proc).bind fun x56 =>
 Let (y33.setIfInBounds x23.Proc.toNat x53) fun p59 =>
 (vat z15.2.1 x23.Proc).bind fun x61 =>
 Let (z15.2.1.setIfInBounds x23.Proc.toNat p59) fun p64 =>
 (bif x23.Kind == (2 : Int) then ((vat z15.1 x23.Msg).bind fun x69 =>
 Let (z15.1.setIfInBounds x23.Msg.toNat p59) fun p72 =>
 some p72) else
 some z15.1).bind fun y66 =>
 (room z15.2.2.2 ([p59] : List (Vector Int 6))).bind fun u78 =>
 some (y66, p64, p51, z15.2.2.2 ++ ([p59] : List (Vector Int 6)))
def vect_Vectors (a0 : List Event) : Option ((List (Vector Int 6)) × Int) :=
 (stamp_Check a0).bind fun r2 =>
 bif r2 != (0 : Int) then (some (([] : List (Vector Int 6)), r2)) else
 (rangeF (vect_Vectors_B0 a0) a0.length 0 ((Vector.replicate 30 (Vector.replicate 6 (0 : Int))), (Vector.replicate 6 (Vector.replicate 6 (0 : Int))), (Vector.replicate 6 (0 : Int)), ([] : List (Vector Int 6)))).bind fun (y16, y17, y18, l20) =>
 some (l20, (0 : Int))
def cut_vectors_B0 (a0 : List Event) (r9 : (List (Vector Int 6)) × Int) (i15 : Nat) (z15 : (Vector (List (Vector Int 6)) 6)) : Option (Vector (List (Vector Int 6)) 6) :=
 (lat a0 (i15 : Int)).bind fun x22 =>
 (vat z15 x22.Proc).bind fun x27 =>
 (lat r9.1 (i15 : Int)).bind fun x31 =>
 (room x27 ([x31] : List (Vector Int 6))).bind fun u37 =>
 Let (x27 ++ ([x31] : List (Vector Int 6))) fun l42 =>
 (vat z15 x22.Proc).bind fun x52 =>
 Let (z15.setIfInBounds x22.Proc.toNat l42) fun p56 =>
 some p56
def cut_vectors (a0 : List Event) : Option (Vector (List (Vector Int 6)) 6) :=
 (vect_Vectors a0).bind fun r9 =>
 (rangeF (cut_vectors_B0 a0 r9) a0.length 0 (Vector.replicate 6 [] : Vector (List (Vector Int 6)) 6)).bind fun l17 =>
 some l17
def cut_grown_B0 (a0 : Vector (List (Vector Int 6)) 6) (a1 : Vector Int 6) (i9 : Nat) (z9 : (Vector Int 6)) : Option (Vector Int 6) :=
 (vat a1 (i9 : Int)).bind fun x13 =>
 bif decide (x13 > (0 : Int)) then ((vat a0 (i9 : Int)).bind fun x17 =>
 (lat x17 (w64 (x13 - (1 : Int)))).bind fun x21 =>
 (vect_Max z9 x21).bind fun r24 =>
 some r24) else
 some z9
def cut_grown (a0 : Vector (List (Vector Int 6)) 6) (a1 : Vector Int 6) : Option (Vector Int 6) :=
 (rangeF (cut_grown_B0 a0 a1) 6 0 a1).bind fun y10 =>
 some y10
def cut_Grow (a0 : List Event) (a1 : Vector Int 6) : Option ((Vector Int 6) × Int) :=
 (cut_Check a0 a1).bind fun r5 =>
 bif r5 != (0 : Int) then (some (((Vector.replicate 6 (0 : Int)) : Vector Int 6), r5)) else
 (cut_vectors a0).bind fun r10 =>
 Let r10 fun l19 =>
 (cut_grown l19 a1).bind fun r30 =>
 some (r30, (0 : Int))
def cut_Right (a0 : List Event) (a1 : Vector Int 6) : Option (Bool × Int) :=
 (cut_Grow a0 a1).bind fun r3 =>
 (bif r3.2 == (0 : Int) then (some (decide (r3.1 = a1))) else
 some false).bind fun y10 =>
 some (y10, r3.2)
def cut_Shrink_B2 (a1 : Vector Int 6) (r10 : (Vector (List (Vector Int 6)) 6)) (i23 : Nat) (x27 : Int) (z30 : (Vector Int 6)) : Option (Ctl (Vector Int 6) (Vector Int 6)) :=
 (vat z30 (i23 : Int)).bind fun x34 =>
 (bif decide (x34 < x27) then ((vat r10 (i23 : Int)).bind fun x40 =>
 (vat z30 (i23 : Int)).bind fun x44 =>
 (lat x40 x44).bind fun x47 =>
 (vect_Within x47 a1).bind fun r50 =>
 some r50) else
 some false).bind fun y38 =>
 bif y38 then ((vat z30 (i23 : Int)).bind fun x55 =>
 (vat z30 (i23 : Int)).bind fun x58 =>
 Let (z30.setIfInBounds (i23 : Int).toNat (w64 (x55 + (1 : Int)))) fun p61 =>
 some (.go p61)) else
 some (.brk z30)
def cut_Shrink_B0 (fu : Nat) (a1 : Vector Int 6) (r10 : (Vector (List (Vector Int 6)) 6)) (i23 : Nat) (z23 : (Vector Int 6)) : Option (Vector Int 6) :=
 (vat a1 (i23 : Int)).bind fun x27 =>
 andThen (whileM (cut_Shrink_B2 a1 r10 i23 x27) fu z23) fun y31 =>
 some y31
def cut_Shrink (fu : Nat) (a0 : List Event) (a1 : Vector Int 6) : Option ((Vector Int 6) × Int) :=
 (cut_Check a0 a1).bind fun r5 =>
 bif r5 != (0 : Int) then (some (((Vector.replicate 6 (0 : Int)) : Vector Int 6), r5)) else
 (cut_vectors a0).bind fun r10 =>
 (rangeF (cut_Shrink_B0 fu a1 r10) 6 0 (Vector.replicate 6 (0 : Int))).bind fun y24 =>
 some (y24, (0 : Int))
def partref_inCut_B0 (a0 : List Event) (a1 : Vector Int 6) (i11 : Nat) (z11 : (Vector Int 6) × (List Bool)) : Option ((Vector Int 6) × (List Bool)) :=
 (lat a0 (i11 : Int)).bind fun x16 =>
 (vat z11.1 x16.Proc).bind fun x21 =>
 (vat z11.1 x16.Proc).bind fun x24 =>
 Let (z11.1.setIfInBounds x16.Proc.toNat (w64 (x21 + (1 : Int)))) fun p27 =>
 (vat p27 x16.Proc).bind fun x29 =>
 (vat a1 x16.Proc).bind fun x32 =>
 (lat z11.2 (i11 : Int)).bind fun x35 =>
 Let (z11.2.set (i11 : Int).toNat (decide (x29 ≤ x32))) fun p38 =>
 some (p27, p38)
def partref_inCut (a0 : List Event) (a1 : Vector Int 6) : Option (List Bool) :=
 (mkLen (a0.length : Int)).bind fun n4 =>
 (rangeF (partref_inCut_B0 a0 a1) a0.length 0 ((Vector.replicate 6 (0 : Int)), (List.replicate n4 false))).bind fun (y12, l13) =>
 some l13
def partref_Closure_B4 (a1 : List Pair) (i11 : Nat) (x42 : Int) (i50 : Nat) (z50 : (List Int) × (List (List Bool))) : Option ((List Int) × (List (List Bool))) :=
 (lat a1 (i50 : Int)).bind fun x58 =>
 (bif x58.A == x42 then ((lat z50.2 (i11 : Int)).bind fun x66 =>
 (lat x66 x58.B).bind fun x71 =>
 some (!x71)) else
 some false).bind fun y64 =>
 bif y64 then ((lat z50.2 (i11 : Int)).bind fun x75 =>
 (lat x75 x58.B).bind fun x80 =>
 Let (z50.2.set (i11 : Int).toNat (x75.set x58.B.toNat true)) fun p83 =>
 (room z50.1 ([x58.B] : List Int)).bind fun u89 =>
 some (z50.1 ++ ([x58.B] : List Int), p83)) else
 some (z50.1, z50.2)
def partref_Closure_B2 (a1 : List Pair) (i11 : Nat) (z33 : (List Int) × (List (List Bool))) : Option (Ctl ((List Int) × (List (List Bool))) (List (List Bool))) :=
 bif decide ((z33.1.length : Int) > (0 : Int)) then ((lat z33.1 (0 : Int)).bind fun x42 =>
 (cutL z33.1 (1 : Int) (z33.1.length : Int)).bind fun m45 =>
 (rangeF (partref_Closure_B4 a1 i11 x42) a1.length 0 (m45, z33.2)).bind fun (l52, l53) =>
 some (.go (l52, l53))) else
 some (.brk (z33.1, z33.2))
def partref_Closure_B0 (fu : Nat) (a0 : Int) (a1 : List Pair) (i11 : Nat) (z11 : (List (List Bool))) : Option (List (List Bool)) :=
 (mkLen a0).bind fun n18 =>
 (lat z11 (i11 : Int)).bind fun x23 =>
 Let (z11.set (i11 : Int).toNat (List.replicate n18 false)) fun p28 =>
 andThen (whileM (partref_Closure_B2 a1 i11) fu (([(i11 : Int)] : List Int), p28)) fun (l35, l36) =>
 some l36
def partref_Closure (fu : Nat) (a0 : Int) (a1 : List Pair) : Option (List (List Bool)) :=
 (mkLen a0).bind fun n3 =>
 (upTo a0).bind fun nn17 =>
 (rangeF (partref_Closure_B0 fu a0 a1) nn17 0 (List.replicate n3 ([] : List Bool))).bind fun l12 =>
 some l12
def partref_Causes_B2 (a0 : List Event) (i4 : Nat) (x9 : Event) (z14 : Int × (List Pair)) : Option (Ctl (Int × (List Pair)) (List Pair)) :=
 bif decide (z14.1 < (a0.length : Int)) then ((lat a0 z14.1).bind fun x21 =>
 bif x9.Proc == x21.Proc then ((room z14.2 ([({ Pair.zero with A := (i4 : Int), B := z14.1 } : Pair)] : List Pair)).bind fun u29 =>
 some (.go (w64 (z14.1 + (1 : Int)), z14.2 ++ ([({ Pair.zero with A := (i4 : Int), B := z14.1 } : Pair)] : List Pair)))) else
 (bif x9.Kind == (2 : Int) then (some (x21.Kind == (3 : Int))) else
 some false).bind fun y33 =>
 (bif y33 then (some (x9.Msg == x21.Msg)) else
 some false).bind fun y38 =>
 bif y38 then ((room z14.2 ([({ Pair.zero with A := (i4 : Int), B := z14.1 } : Pair)] : List Pair)).bind fun u45 =>
 some (.go (w64 (z14.1 + (1 : Int)), z14.2 ++ ([({ Pair.zero with A := (i4 : Int), B := z14.1 } : Pair)] : List Pair)))) else
 some (.go (w64 (z14.1 + (1 : Int)), z14.2))) else
 some (.brk (z14.1, z14.2))
def partref_Causes_B0 (fu : Nat) (a0 : List Event) (i4 : Nat) (z4 : (List Pair)) : Option (List Pair) :=
 (lat a0 (i4 : Int)).bind fun x9 =>
 andThen (whileM (partref_Causes_B2 a0 i4 x9) fu (w64 ((i4 : Int) + (1 : Int)), z4)) fun (y15, l17) =>
 some l17
def partref_Causes (fu : Nat) (a0 : List Event) : Option (List (List Bool)) :=
 (rangeF (partref_Causes_B0 fu a0) a0.length 0 ([] : List Pair)).bind fun l6 =>
 (partref_Closure fu (a0.length : Int) l6).bind fun r48 =>
 some r48
def slices_Clone_bool_bool (a0 : List Bool) : Option (List Bool) :=
 (room ([] : List Bool) a0).bind fun u5 =>
 some (([] : List Bool) ++ a0)
def partref_cutOf_B0 (a0 : List Event) (a1 : List Bool) (i5 : Nat) (z5 : (Vector Int 6)) : Option (Vector Int 6) :=
 (lat a0 (i5 : Int)).bind fun x9 =>
 (lat a1 (i5 : Int)).bind fun x14 =>
 bif x14 then ((vat z5 x9.Proc).bind fun x18 =>
 (vat z5 x9.Proc).bind fun x21 =>
 Let (z5.setIfInBounds x9.Proc.toNat (w64 (x18 + (1 : Int)))) fun p24 =>
 some p24) else
 some z5
def partref_cutOf (a0 : List Event) (a1 : List Bool) : Option (Vector Int 6) :=
 (rangeF (partref_cutOf_B0 a0 a1) a0.length 0 (Vector.replicate 6 (0 : Int))).bind fun y6 =>
 some y6
def partref_Grow_B2 (r5 : (List Bool)) (r11 : (List (List Bool))) (i26 : Nat) (i30 : Nat) (z30 : (List Bool)) : Option (List Bool) :=
 (lat z30 (i26 : Int)).bind fun x34 =>
 bif x34 then ((lat z30 (i26 : Int)).bind fun x38 =>
 Let (z30.set (i26 : Int).toNat true) fun p41 =>
 some p41) else
 (lat r5 (i30 : Int)).bind fun x43 =>
 (bif x43 then ((lat r11 (i26 : Int)).bind fun x49 =>
 (lat x49 (i30 : Int)).bind fun x54 =>
 some x54) else
 some false).bind fun y47 =>
 (lat z30 (i26 : Int)).bind fun x59 =>
 Let (z30.set (i26 : Int).toNat y47) fun p62 =>
 some p62
def partref_Grow_B0 (a0 : List Event) (r5 : (List Bool)) (r11 : (List (List Bool))) (i26 : Nat) (z26 : (List Bool)) : Option (List Bool) :=
 (rangeF (partref_Grow_B2 r5 r11 i26) a0.length 0 z26).bind fun l31 =>
 some l31
def partref_Grow (fu : Nat) (a0 : List Event) (a1 : Vector Int 6) : Option (Vector Int 6) :=
 (partref_inCut a0 a1).bind fun r5 =>
 (partref_Causes fu a0).bind fun r11 =>
 (slices_Clone_bool_bool r5).bind fun r20 =>
 (rangeF (partref_Grow_B0 a0 r5 r11) a0.length 0 r20).bind fun l27 =>
 (partref_cutOf a0 l27).bind fun r65 =>
 some r65
def partref_Shrink_B2 (r5 : (List Bool)) (r11 : (List (List Bool))) (i26 : Nat) (i30 : Nat) (z30 : (List Bool)) : Option (List Bool) :=
 (lat z30 (i26 : Int)).bind fun x34 =>
 bif x34 then ((lat r5 (i30 : Int)).bind fun x43 =>
 (bif x43 then (some true) else
 (lat r11 (i30 : Int)).bind fun x49 =>
 (lat x49 (i26 : Int)).bind fun x54 =>
 some (!x54)).bind fun y47 =>
 (lat z30 (i26 : Int)).bind fun x59 =>
 Let (z30.set (i26 : Int).toNat y47) fun p62 =>
 some p62) else
 (lat z30 (i26 : Int)).bind fun x38 =>
 Let (z30.set (i26 : Int).toNat false) fun p41 =>
 some p41
def partref_Shrink_B0 (a0 : List Event) (r5 : (List Bool)) (r11 : (List (List Bool))) (i26 : Nat) (z26 : (List Bool)) : Option (List Bool) :=
 (rangeF (partref_Shrink_B2 r5 r11 i26) a0.length 0 z26).bind fun l31 =>
 some l31
def partref_Shrink (fu : Nat) (a0 : List Event) (a1 : Vector Int 6) : Option (Vector Int 6) :=
 (partref_inCut a0 a1).bind fun r5 =>
 (partref_Causes fu a0).bind fun r11 =>
 (slices_Clone_bool_bool r5).bind fun r20 =>
 (rangeF (partref_Shrink_B0 a0 r5 r11) a0.length 0 r20).bind fun l27 =>
 (partref_cutOf a0 l27).bind fun r65 =>
 some r65
def partlaw_CutSays (fu : Nat) (a0 : List Event) (a1 : Vector Int 6) : Option Bool :=
 (partref_CutErr a0 a1).bind fun r3 =>
 (cut_Right a0 a1).bind fun r7 =>
 (cut_Grow a0 a1).bind fun r11 =>
 (cut_Shrink fu a0 a1).bind fun r17 =>
 (cut_Check a0 a1).bind fun r23 =>
 bif r23 != r3 then (some false) else
 bif r3 != (0 : Int) then ((bif !r7.1 then (some (r7.2 == r3)) else
 some false).bind fun y32 =>
 (bif y32 then (some (decide (r11.1 = ((Vector.replicate 6 (0 : Int)) : Vector Int 6)))) else
 some false).bind fun y37 =>
 (bif y37 then (some (r11.2 == r3)) else
 some false).bind fun y42 =>
 (bif y42 then (some (decide (r17.1 = ((Vector.replicate 6 (0 : Int)) : Vector Int 6)))) else
 some false).bind fun y47 =>
 (bif y47 then (some (r17.2 == r3)) else
 some false).bind fun y52 =>
 some y52) else
 (partref_Grow fu a0 a1).bind fun r56 =>
 (bif r7.1 == (decide (r56 = a1)) then (some (r7.2 == (0 : Int))) else
 some false).bind fun y61 =>
 (bif y61 then ((partref_Grow fu a0 a1).bind fun r66 =>
 some (decide (r11.1 = r66))) else
 some false).bind fun y64 =>
 (bif y64 then (some (r11.2 == (0 : Int))) else
 some false).bind fun y71 =>
 (bif y71 then ((partref_Shrink fu a0 a1).bind fun r76 =>
 some (decide (r17.1 = r76))) else
 some false).bind fun y74 =>
 (bif y74 then (some (r17.2 == (0 : Int))) else
 some false).bind fun y81 =>
 some y81
end Go.Proofs.Ytclmlddmgccfjaa
