/-
  What the functions compute, typed; printed by a program.
-/
import Derived.Test.YtclmlddmgccfjaaGoI
import Derived.Test.YtclmlddmgccfjaaGoM
import Derived.Test.YtclmlddmgccfjaaGoS
namespace Go.Proofs.Ytclmlddmgccfjaa
open Go.RowKit Enc
set_option linter.unusedVariables false
set_option linter.unusedSimpArgs false
structure Event where
  Proc : Int
  Kind : Int
  Msg : Int
instance : DecidableEq Event := fun a b => decidable_of_iff (a.Proc = b.Proc ∧ a.Kind = b.Kind ∧ a.Msg = b.Msg) (by cases a; cases b; simp)
def Event.zero : Event := ⟨(0 : Int), (0 : Int), (0 : Int)⟩
instance : Enc Event := ⟨fun p => enc p.Proc ++ (enc p.Kind ++ (enc p.Msg)), 3, fun p => by simp only [List.length_append, Enc.len]; rfl, fun p => by simp only [List.all_append, Enc.one, Bool.and_self]⟩
theorem Event.get_Proc {p : Event} {k : Nat} {ch : List Value} (h : Get (enc p.Proc) k ch) : Get (enc p) (0 + k) ch := Get.off (Get.left h) (by omega)
theorem Event.put_Proc {p : Event} {k : Nat} {vs : List Value} {y : Int} (h : Put (enc p.Proc) k vs (enc y)) : Put (enc p) (0 + k) vs (enc ({ p with Proc := y } : Event)) := Put.off (cs' := enc ({ p with Proc := y } : Event)) (Put.left h) (by omega)
theorem Event.get_Kind {p : Event} {k : Nat} {ch : List Value} (h : Get (enc p.Kind) k ch) : Get (enc p) (1 + k) ch := Get.off (Get.right (m := 1) (Enc.len _) (Get.left h)) (by omega)
theorem Event.put_Kind {p : Event} {k : Nat} {vs : List Value} {y : Int} (h : Put (enc p.Kind) k vs (enc y)) : Put (enc p) (1 + k) vs (enc ({ p with Kind := y } : Event)) := Put.off (cs' := enc ({ p with Kind := y } : Event)) (Put.right (m := 1) (Enc.len _) (Put.left h)) (by omega)
theorem Event.get_Msg {p : Event} {k : Nat} {ch : List Value} (h : Get (enc p.Msg) k ch) : Get (enc p) (2 + k) ch := Get.off (Get.right (m := 1) (Enc.len _) (Get.right (m := 1) (Enc.len _) h)) (by omega)
theorem Event.put_Msg {p : Event} {k : Nat} {vs : List Value} {y : Int} (h : Put (enc p.Msg) k vs (enc y)) : Put (enc p) (2 + k) vs (enc ({ p with Msg := y } : Event)) := Put.off (cs' := enc ({ p with Msg := y } : Event)) (Put.right (m := 1) (Enc.len _) (Put.right (m := 1) (Enc.len _) h)) (by omega)
instance : Rng Event := ⟨fun p => Rng.ok p.Proc ∧ Rng.ok p.Kind ∧ Rng.ok p.Msg⟩
structure Checker where
  sender : Vector Int 30
  taken : Vector (Vector Bool 6) 30
instance : DecidableEq Checker := fun a b => decidable_of_iff (a.sender = b.sender ∧ a.taken = b.taken) (by cases a; cases b; simp)
def Checker.zero : Checker := ⟨(Vector.replicate 30 (0 : Int)), (Vector.replicate 30 (Vector.replicate 6 false))⟩
instance : Enc Checker := ⟨fun p => enc p.sender ++ (enc p.taken), 210, fun p => by simp only [List.length_append, Enc.len]; rfl, fun p => by simp only [List.all_append, Enc.one, Bool.and_self]⟩
theorem Checker.get_sender {p : Checker} {k : Nat} {ch : List Value} (h : Get (enc p.sender) k ch) : Get (enc p) (0 + k) ch := Get.off (Get.left h) (by omega)
theorem Checker.put_sender {p : Checker} {k : Nat} {vs : List Value} {y : Vector Int 30} (h : Put (enc p.sender) k vs (enc y)) : Put (enc p) (0 + k) vs (enc ({ p with sender := y } : Checker)) := Put.off (cs' := enc ({ p with sender := y } : Checker)) (Put.left h) (by omega)
theorem Checker.get_taken {p : Checker} {k : Nat} {ch : List Value} (h : Get (enc p.taken) k ch) : Get (enc p) (30 + k) ch := Get.off (Get.right (m := 30) (Enc.len _) h) (by omega)
theorem Checker.put_taken {p : Checker} {k : Nat} {vs : List Value} {y : Vector (Vector Bool 6) 30} (h : Put (enc p.taken) k vs (enc y)) : Put (enc p) (30 + k) vs (enc ({ p with taken := y } : Checker)) := Put.off (cs' := enc ({ p with taken := y } : Checker)) (Put.right (m := 30) (Enc.len _) h) (by omega)
instance : Rng Checker := ⟨fun p => Rng.ok p.sender ∧ Rng.ok p.taken⟩
structure Pair where
  A : Int
  B : Int
instance : DecidableEq Pair := fun a b => decidable_of_iff (a.A = b.A ∧ a.B = b.B) (by cases a; cases b; simp)
def Pair.zero : Pair := ⟨(0 : Int), (0 : Int)⟩
instance : Enc Pair := ⟨fun p => enc p.A ++ (enc p.B), 2, fun p => by simp only [List.length_append, Enc.len]; rfl, fun p => by simp only [List.all_append, Enc.one, Bool.and_self]⟩
theorem Pair.get_A {p : Pair} {k : Nat} {ch : List Value} (h : Get (enc p.A) k ch) : Get (enc p) (0 + k) ch := Get.off (Get.left h) (by omega)
theorem Pair.put_A {p : Pair} {k : Nat} {vs : List Value} {y : Int} (h : Put (enc p.A) k vs (enc y)) : Put (enc p) (0 + k) vs (enc ({ p with A := y } : Pair)) := Put.off (cs' := enc ({ p with A := y } : Pair)) (Put.left h) (by omega)
theorem Pair.get_B {p : Pair} {k : Nat} {ch : List Value} (h : Get (enc p.B) k ch) : Get (enc p) (1 + k) ch := Get.off (Get.right (m := 1) (Enc.len _) h) (by omega)
theorem Pair.put_B {p : Pair} {k : Nat} {vs : List Value} {y : Int} (h : Put (enc p.B) k vs (enc y)) : Put (enc p) (1 + k) vs (enc ({ p with B := y } : Pair)) := Put.off (cs' := enc ({ p with B := y } : Pair)) (Put.right (m := 1) (Enc.len _) h) (by omega)
instance : Rng Pair := ⟨fun p => Rng.ok p.A ∧ Rng.ok p.B⟩
def partref_HistoryErr_B2 (x5 : Event) (m26 : List Event) (i31 : Nat) (z31 : Int × Bool) : Option (Int × Bool) :=
 (lat m26 (i31 : Int)).bind fun x36 =>
 ((bif x36.Kind == (2 : Int) then (some (x36.Msg == x5.Msg)) else
 some false).bind fun y44 =>
 bif y44 then (some x36.Proc) else
 some z31.1).bind fun y41 =>
 (bif z31.2 then (some true) else
 some (decide (x36 = x5))).bind fun y52 =>
 some (y41, y52)
def partref_HistoryErr_B0 (a0 : List Event) (i2 : Nat) (z2 : Unit) : Option (Ctl Unit Int) :=
 (lat a0 (i2 : Int)).bind fun x5 =>
 (bif decide (x5.Proc < (0 : Int)) then (some true) else
 some (decide (x5.Proc > (5 : Int)))).bind fun y11 =>
 (bif y11 then (some true) else
 some (decide (x5.Msg < (0 : Int)))).bind fun y16 =>
 (bif y16 then (some true) else
 some (decide (x5.Msg > (29 : Int)))).bind fun y21 =>
 bif y21 then (some (.ret (1 : Int))) else
 (cutL a0 0 (i2 : Int)).bind fun m26 =>
 (rangeF (partref_HistoryErr_B2 x5 m26) m26.length 0 ((-1 : Int), false)).bind fun (y32, y33) =>
 (bif x5.Kind == (1 : Int) then (some (x5.Msg == (0 : Int))) else
 some false).bind fun y57 =>
 bif y57 then (some (.go ())) else
 (bif x5.Kind == (2 : Int) then (some (decide (y32 < (0 : Int)))) else
 some false).bind fun y63 =>
 bif y63 then (some (.go ())) else
 (bif x5.Kind == (3 : Int) then (some (decide (y32 ≥ (0 : Int)))) else
 some false).bind fun y69 =>
 (bif y69 then (some (y32 != x5.Proc)) else
 some false).bind fun y74 =>
 (bif y74 then (some (!y33)) else
 some false).bind fun y79 =>
 bif y79 then (some (.go ())) else
 some (.ret (4 : Int))
def partref_HistoryErr (a0 : List Event) : Option Int :=
 bif decide ((a0.length : Int) > (60 : Int)) then (some (2 : Int)) else
 andThen (rangeM (partref_HistoryErr_B0 a0) a0.length 0 ()) fun _ =>
 some (0 : Int)
def partref_Sizes_B0 (a0 : List Event) (i5 : Nat) (z5 : (Vector Int 6)) : Option (Vector Int 6) :=
 (lat a0 (i5 : Int)).bind fun x9 =>
 (vat z5 x9.Proc).bind fun x14 =>
 (vat z5 x9.Proc).bind fun x17 =>
 Let (z5.setIfInBounds x9.Proc.toNat (w64 (x14 + (1 : Int)))) fun p20 =>
 some p20
def partref_Sizes (a0 : List Event) : Option (Vector Int 6) :=
 (rangeF (partref_Sizes_B0 a0) a0.length 0 (Vector.replicate 6 (0 : Int))).bind fun y6 =>
 some y6
def partref_TruthErr_B0 (a1 : List (List Bool)) (r8 : (Vector Int 6)) (i12 : Nat) (z12 : Unit) : Option (Ctl Unit Int) :=
 (vat r8 (i12 : Int)).bind fun x15 =>
 (lat a1 (i12 : Int)).bind fun x18 =>
 bif (x18.length : Int) != (w64 (x15 + (1 : Int))) then (some (.ret (4 : Int))) else
 some (.go ())
def partref_TruthErr (a0 : List Event) (a1 : List (List Bool)) : Option Int :=
 (partref_HistoryErr a0).bind fun r1 =>
 bif r1 != (0 : Int) then (some r1) else
 bif (a1.length : Int) != (6 : Int) then (some (4 : Int)) else
 (partref_Sizes a0).bind fun r8 =>
 andThen (rangeM (partref_TruthErr_B0 a1 r8) 6 0 ()) fun _ =>
 some (0 : Int)
def stamp_in (a0 : Int) (a1 : Int) (a2 : Int) : Option Bool :=
 (bif decide (a0 ≥ a1) then (some (decide (a0 ≤ a2))) else
 some false).bind fun y2 =>
 some y2
def stamp_checker_event (a0 : Checker) (a1 : Event) : Option (Checker × Int) :=
 (stamp_in a1.Proc (0 : Int) (5 : Int)).bind fun r4 =>
 (bif !r4 then (some true) else
 (stamp_in a1.Msg (0 : Int) (29 : Int)).bind fun r11 =>
 some (!r11)).bind fun y9 =>
 bif y9 then (some (a0, (1 : Int))) else
 andThen (bif a1.Kind == (1 : Int) then (bif a1.Msg != (0 : Int) then (some (.inr (a0, (4 : Int)))) else
 some (.inl a0)) else
 bif a1.Kind == (2 : Int) then ((vat a0.sender a1.Msg).bind fun x23 =>
 bif decide (x23 > (0 : Int)) then (some (.inr (a0, (4 : Int)))) else
 (vat a0.sender a1.Msg).bind fun x27 =>
 Let ({ a0 with sender := a0.sender.setIfInBounds a1.Msg.toNat (w64 (a1.Proc + (1 : Int))) } : Checker) fun p30 =>
 some (.inl p30)) else
 bif a1.Kind == (3 : Int) then ((vat a0.sender a1.Msg).bind fun x33 =>
 (bif x33 == (0 : Int) then (some true) else
 (vat a0.sender a1.Msg).bind fun x39 =>
 some (x39 == (w64 (a1.Proc + (1 : Int))))).bind fun y37 =>
 (bif y37 then (some true) else
 (vat a0.taken a1.Msg).bind fun x45 =>
 (vat x45 a1.Proc).bind fun x48 =>
 some x48).bind fun y43 =>
 bif y43 then (some (.inr (a0, (4 : Int)))) else
 (vat a0.taken a1.Msg).bind fun x52 =>
 (vat x52 a1.Proc).bind fun x55 =>
 Let ({ a0 with taken := a0.taken.setIfInBounds a1.Msg.toNat (x52.setIfInBounds a1.Proc.toNat true) } : Checker) fun p58 =>
 some (.inl p58)) else
 some (.inr (a0, (4 : Int)))) fun y18 =>
 some (y18, (0 : Int))
def stamp_Check_B0 (a0 : List Event) (i4 : Nat) (z4 : Checker) : Option (Ctl Checker Int) :=
 (lat a0 (i4 : Int)).bind fun x8 =>
 (stamp_checker_event z4 x8).bind fun r13 =>
 bif r13.2 != (0 : Int) then (some (.ret r13.2)) else
 some (.go r13.1)
def stamp_Check (a0 : List Event) : Option Int :=
 bif decide ((a0.length : Int) > (60 : Int)) then (some (2 : Int)) else
 andThen (rangeM (stamp_Check_B0 a0) a0.length 0 Checker.zero) fun y5 =>
 some (0 : Int)
def pred_Check_B2 (a1 : List (List Bool)) (y9 : Vector Int 6) (i28 : Nat) (z28 : Unit) : Option (Ctl Unit Int) :=
 (lat a1 (i28 : Int)).bind fun x31 =>
 (vat y9 (i28 : Int)).bind fun x35 =>
 bif (x31.length : Int) != (w64 (x35 + (1 : Int))) then (some (.ret (4 : Int))) else
 some (.go ())
def pred_Check_B0 (a0 : List Event) (i8 : Nat) (z8 : (Vector Int 6)) : Option (Vector Int 6) :=
 (lat a0 (i8 : Int)).bind fun x12 =>
 (vat z8 x12.Proc).bind fun x17 =>
 (vat z8 x12.Proc).bind fun x20 =>
 Let (z8.setIfInBounds x12.Proc.toNat (w64 (x17 + (1 : Int)))) fun p23 =>
 some p23
def pred_Check (a0 : List Event) (a1 : List (List Bool)) : Option Int :=
 (stamp_Check a0).bind fun r1 =>
 bif r1 != (0 : Int) then (some r1) else
 (rangeF (pred_Check_B0 a0) a0.length 0 (Vector.replicate 6 (0 : Int))).bind fun y9 =>
 bif (a1.length : Int) != (6 : Int) then (some (4 : Int)) else
 andThen (rangeM (pred_Check_B2 a1 y9) a1.length 0 ()) fun _ =>
 some (0 : Int)
def pred_holds_B0 (a0 : List (List Bool)) (a1 : Vector Int 6) (i3 : Nat) (z3 : Unit) : Option (Ctl Unit Bool) :=
 (vat a1 (i3 : Int)).bind fun x6 =>
 (lat a0 (i3 : Int)).bind fun x9 =>
 (lat x9 x6).bind fun x13 =>
 bif !x13 then (some (.ret false)) else
 some (.go ())
def pred_holds (a0 : List (List Bool)) (a1 : Vector Int 6) : Option Bool :=
 andThen (rangeM (pred_holds_B0 a0 a1) 6 0 ()) fun _ =>
 some true
def vect_Max_B0 (a1 : Vector Int 6) (i7 : Nat) (z7 : (Vector Int 6)) : Option (Vector Int 6) :=
 (vat z7 (i7 : Int)).bind fun x11 =>
 (vat a1 (i7 : Int)).bind fun x14 =>
 (vat z7 (i7 : Int)).bind fun x17 =>
 Let (z7.setIfInBounds (i7 : Int).toNat (max x11 x14)) fun p20 =>
 some p20
def vect_Max (a0 : Vector Int 6) (a1 : Vector Int 6) : Option (Vector Int 6) :=
 (rangeF (vect_Max_B0 a1) 6 0 a0).bind fun y8 =>
 some y8
def vect_Within (a0 : Vector Int 6) (a1 : Vector Int 6) : Option Bool :=
 (vect_Max a0 a1).bind fun r5 =>
 some (decide (r5 = a1))
def cut_counts_B0 (a0 : List Event) (i5 : Nat) (z5 : (Vector Int 6)) : Option (Vector Int 6) :=
 (lat a0 (i5 : Int)).bind fun x9 =>
 (vat z5 x9.Proc).bind fun x14 =>
 (vat z5 x9.Proc).bind fun x17 =>
 Let (z5.setIfInBounds x9.Proc.toNat (w64 (x14 + (1 : Int)))) fun p20 =>
 some p20
def cut_counts (a0 : List Event) : Option (Vector Int 6) :=
 (rangeF (cut_counts_B0 a0) a0.length 0 (Vector.replicate 6 (0 : Int))).bind fun y6 =>
 some y6
def cut_Check (a0 : List Event) (a1 : Vector Int 6) : Option Int :=
 (stamp_Check a0).bind fun r3 =>
 bif r3 != (0 : Int) then (some r3) else
 (vect_Within ((Vector.replicate 6 (0 : Int)) : Vector Int 6) a1).bind fun r8 =>
 (bif !r8 then (some true) else
 (cut_counts a0).bind fun r15 =>
 (vect_Within a1 r15).bind fun r19 =>
 some (!r19)).bind fun y13 =>
 bif y13 then (some (1 : Int)) else
 some (0 : Int)
def vect_Vectors_B0 (a0 : List Event) (i15 : Nat) (z15 : (Vector (Vector Int 6) 30) × (Vector (Vector Int 6) 6) × (Vector Int 6) × (List (Vector Int 6))) : Option ((Vector (Vector Int 6) 30) × (Vector (Vector Int 6) 6) × (Vector Int 6) × (List (Vector Int 6))) :=
 (lat a0 (i15 : Int)).bind fun x23 =>
 (vat z15.2.1 x23.Proc).bind fun x28 =>
 (bif x23.Kind == (3 : Int) then ((vat z15.1 x23.Msg).bind fun x36 =>
 (vect_Max x28 x36).bind fun r39 =>
 some r39) else
 some x28).bind fun y33 =>
 (vat z15.2.2.1 x23.Proc).bind fun x45 =>
 (vat z15.2.2.1 x23.Proc).bind fun x48 =>
 Let (z15.2.2.1.setIfInBounds x23.Proc.toNat (w64 (x45 + (1 : Int)))) fun p51 =>
 (vat p51 x23.Proc).bind fun x53 =>
 (vat y33 x23.Proc).bind fun x56 =>
 Let (y33.setIfInBounds x23.Proc.toNat x53) fun p59 =>
 (vat z15.2.1 x23.Proc).bind fun x61 =>
 Let (z15.2.1.setIfInBounds x23.Proc.toNat p59) fun p64 =>
 (bif x23.Kind == (2 : Int) then ((vat z15.1 x23.Msg).bind fun x69 =>
 Let (z15.1.setIfInBounds x23.Msg.toNat p59) fun p72 =>
 some p72) else
 some z15.1).bind fun y66 =>
 (room z15.2.2.2 ([p59] : List (Vector Int 6))).bind fun u78 =>
 some (y66, p64, p51, z15.2.2.2 ++ ([p59] : List (Vector Int 6)))
def vect_Vectors (a0 : List Event) : Option ((List (Vector Int 6)) × Int) :=
 (stamp_Check a0).bind fun r2 =>
 bif r2 != (0 : Int) then (some (([] : List (Vector Int 6)), r2)) else
 (rangeF (vect_Vectors_B0 a0) a0.length 0 ((Vector.replicate 30 (Vector.replicate 6 (0 : Int))), (Vector.replicate 6 (Vector.replicate 6 (0 : Int))), (Vector.replicate 6 (0 : Int)), ([] : List (Vector Int 6)))).bind fun (y16, y17, y18, l20) =>
 some (l20, (0 : Int))
def cut_vectors_B0 (a0 : List Event) (r9 : (List (Vector Int 6)) × Int) (i15 : Nat) (z15 : (Vector (List (Vector Int 6)) 6)) : Option (Vector (List (Vector Int 6)) 6) :=
 (lat a0 (i15 : Int)).bind fun x22 =>
 (vat z15 x22.Proc).bind fun x27 =>
 (lat r9.1 (i15 : Int)).bind fun x31 =>
 (room x27 ([x31] : List (Vector Int 6))).bind fun u37 =>
 Let (x27 ++ ([x31] : List (Vector Int 6))) fun l42 =>
 (vat z15 x22.Proc).bind fun x52 =>
 Let (z15.setIfInBounds x22.Proc.toNat l42) fun p56 =>
 some p56
def cut_vectors (a0 : List Event) : Option (Vector (List (Vector Int 6)) 6) :=
 (vect_Vectors a0).bind fun r9 =>
 (rangeF (cut_vectors_B0 a0 r9) a0.length 0 (Vector.replicate 6 [] : Vector (List (Vector Int 6)) 6)).bind fun l17 =>
 some l17
def cut_grown_B0 (a0 : Vector (List (Vector Int 6)) 6) (a1 : Vector Int 6) (i9 : Nat) (z9 : (Vector Int 6)) : Option (Vector Int 6) :=
 (vat a1 (i9 : Int)).bind fun x13 =>
 bif decide (x13 > (0 : Int)) then ((vat a0 (i9 : Int)).bind fun x17 =>
 (lat x17 (w64 (x13 - (1 : Int)))).bind fun x21 =>
 (vect_Max z9 x21).bind fun r24 =>
 some r24) else
 some z9
def cut_grown (a0 : Vector (List (Vector Int 6)) 6) (a1 : Vector Int 6) : Option (Vector Int 6) :=
 (rangeF (cut_grown_B0 a0 a1) 6 0 a1).bind fun y10 =>
 some y10
def cut_Grow (a0 : List Event) (a1 : Vector Int 6) : Option ((Vector Int 6) × Int) :=
 (cut_Check a0 a1).bind fun r5 =>
 bif r5 != (0 : Int) then (some (((Vector.replicate 6 (0 : Int)) : Vector Int 6), r5)) else
 (cut_vectors a0).bind fun r10 =>
 Let r10 fun l19 =>
 (cut_grown l19 a1).bind fun r30 =>
 some (r30, (0 : Int))
def pred_First_B4 (a1 : List (List Bool)) (i19 : Nat) (z23 : (Vector Int 6)) : Option (Ctl (Vector Int 6) (Ctl (Vector Int 6) (Ctl (Vector Int 6) ((Vector Int 6) × Int)))) :=
 (lat a1 (i19 : Int)).bind fun x27 =>
 (vat z23 (i19 : Int)).bind fun x31 =>
 (lat x27 x31).bind fun x34 =>
 bif !x34 then ((vat z23 (i19 : Int)).bind fun x38 =>
 (vat z23 (i19 : Int)).bind fun x41 =>
 Let (z23.setIfInBounds (i19 : Int).toNat (w64 (x38 + (1 : Int)))) fun p44 =>
 (vat p44 (i19 : Int)).bind fun x46 =>
 (lat a1 (i19 : Int)).bind fun x49 =>
 bif x46 == (x49.length : Int) then (some (.ret (.ret (.ret (((Vector.replicate 6 (0 : Int)) : Vector Int 6), (6 : Int)))))) else
 some (.go p44)) else
 some (.brk z23)
def pred_First_B2 (fu : Nat) (a1 : List (List Bool)) (i19 : Nat) (z19 : (Vector Int 6)) : Option (Ctl (Vector Int 6) (Ctl (Vector Int 6) ((Vector Int 6) × Int))) :=
 andThen (whileM (pred_First_B4 a1 i19) fu z19) fun y24 =>
 some (.go y24)
def pred_First_B0 (fu : Nat) (a0 : List Event) (a1 : List (List Bool)) (z10 : (Vector Int 6)) : Option (Ctl (Vector Int 6) ((Vector Int 6) × Int)) :=
 (pred_holds a1 z10).bind fun r14 =>
 bif !r14 then (andThen (rangeM (pred_First_B2 fu a1) 6 0 z10) fun y20 =>
 (cut_Grow a0 y20).bind fun r54 =>
 some (.go r54.1)) else
 some (.brk z10)
def pred_First (fu : Nat) (a0 : List Event) (a1 : List (List Bool)) : Option ((Vector Int 6) × Int) :=
 (pred_Check a0 a1).bind fun r3 =>
 bif r3 != (0 : Int) then (some (((Vector.replicate 6 (0 : Int)) : Vector Int 6), r3)) else
 andThen (whileM (pred_First_B0 fu a0 a1) fu (Vector.replicate 6 (0 : Int))) fun y11 =>
 some (y11, (0 : Int))
def cut_All_B4 (r8 : (Vector Int 6)) (z63 : Int × (Vector Int 6)) : Option (Ctl (Int × (Vector Int 6)) ((Vector Int 6) × (List (Vector Int 6)))) :=
 bif decide (z63.1 ≥ (0 : Int)) then ((vat z63.2 z63.1).bind fun x69 =>
 (vat r8 z63.1).bind fun x72 =>
 bif decide (x69 < x72) then ((vat z63.2 z63.1).bind fun x76 =>
 (vat z63.2 z63.1).bind fun x79 =>
 Let (z63.2.setIfInBounds z63.1.toNat (w64 (x76 + (1 : Int)))) fun p82 =>
 some (.brk (z63.1, p82))) else
 (vat z63.2 z63.1).bind fun x84 =>
 Let (z63.2.setIfInBounds z63.1.toNat (0 : Int)) fun p87 =>
 some (.go (w64 (z63.1 - (1 : Int)), p87))) else
 some (.brk (z63.1, z63.2))
def cut_All_B2 (fu : Nat) (r8 : (Vector Int 6)) (r23 : (Vector (List (Vector Int 6)) 6)) (i37 : Nat) (z37 : (Vector Int 6) × (List (Vector Int 6))) : Option ((Vector Int 6) × (List (Vector Int 6))) :=
 (((cut_grown r23 z37.1).bind fun r51 =>
 bif decide (r51 = z37.1) then ((room z37.2 ([z37.1] : List (Vector Int 6))).bind fun u58 =>
 some (z37.2 ++ ([z37.1] : List (Vector Int 6)))) else
 some z37.2).bind fun l49 =>
 andThen (whileM (cut_All_B4 r8) fu ((5 : Int), z37.1)) fun (y64, y65) =>
 some (y65, l49)).bind fun (y44, l46) =>
 some (y44, l46)
def cut_All_B0 (r8 : (Vector Int 6)) (i14 : Nat) (z14 : Int) : Option Int :=
 (vat r8 (i14 : Int)).bind fun x18 =>
 some (w64 (z14 * (w64 (x18 + (1 : Int)))))
def cut_All (fu : Nat) (a0 : List Event) : Option ((List (Vector Int 6)) × Int) :=
 (stamp_Check a0).bind fun r2 =>
 bif r2 != (0 : Int) then (some (([] : List (Vector Int 6)), r2)) else
 (cut_counts a0).bind fun r8 =>
 (rangeF (cut_All_B0 r8) 6 0 (1 : Int)).bind fun y15 =>
 bif decide (y15 > (4096 : Int)) then (some (([] : List (Vector Int 6)), (2 : Int))) else
 (cut_vectors a0).bind fun r23 =>
 (upTo y15).bind fun nn43 =>
 (rangeF (cut_All_B2 fu r8 r23) nn43 0 ((Vector.replicate 6 (0 : Int)), ([] : List (Vector Int 6)))).bind fun (y38, l40) =>
 some (l40, (0 : Int))
def pred_Must_B2 (x25 : Vector Int 6) (i38 : Nat) (z38 : (List ((Vector Int 6) × Bool))) : Option (List ((Vector Int 6) × Bool)) :=
 (vat x25 (i38 : Int)).bind fun x44 =>
 (vat x25 (i38 : Int)).bind fun x47 =>
 Let (x25.setIfInBounds (i38 : Int).toNat (w64 (x44 - (1 : Int)))) fun p50 =>
 bif (mget z38 p50).getD false then (Let (mset z38 x25 true) fun m53 =>
 some m53) else
 some z38
def pred_Must_B0 (a1 : List (List Bool)) (r6 : (List (Vector Int 6)) × Int) (i17 : Nat) (z17 : (Vector Int 6) × (List ((Vector Int 6) × Bool))) : Option ((Vector Int 6) × (List ((Vector Int 6) × Bool))) :=
 ((lat r6.1 (i17 : Int)).bind fun x25 =>
 (pred_holds a1 x25).bind fun r30 =>
 bif r30 then (some (x25, z17.2)) else
 bif decide (x25 = ((Vector.replicate 6 (0 : Int)) : Vector Int 6)) then (Let (mset z17.2 x25 true) fun m36 =>
 some (x25, m36)) else
 (rangeF (pred_Must_B2 x25) 6 0 z17.2).bind fun l39 =>
 some (x25, l39)).bind fun (y22, l23) =>
 some (y22, l23)
def pred_Must (fu : Nat) (a0 : List Event) (a1 : List (List Bool)) : Option (Bool × Int) :=
 (pred_Check a0 a1).bind fun r1 =>
 bif r1 != (0 : Int) then (some (false, r1)) else
 (cut_All fu a0).bind fun r6 =>
 bif r6.2 != (0 : Int) then (some (false, r6.2)) else
 (rangeF (pred_Must_B0 a1 r6) r6.1.length 0 ((Vector.replicate 6 (0 : Int)), ([] : List ((Vector Int 6) × Bool)))).bind fun (y18, l19) =>
 some (!((mget l19 y18).getD false), (0 : Int))
def partref_So_B0 (a0 : List (List Bool)) (a1 : Vector Int 6) (i3 : Nat) (z3 : Unit) : Option (Ctl Unit Bool) :=
 (vat a1 (i3 : Int)).bind fun x6 =>
 (lat a0 (i3 : Int)).bind fun x9 =>
 (lat x9 x6).bind fun x13 =>
 bif !x13 then (some (.ret false)) else
 some (.go ())
def partref_So (a0 : List (List Bool)) (a1 : Vector Int 6) : Option Bool :=
 andThen (rangeM (partref_So_B0 a0 a1) 6 0 ()) fun _ =>
 some true
def partref_inCut_B0 (a0 : List Event) (a1 : Vector Int 6) (i11 : Nat) (z11 : (Vector Int 6) × (List Bool)) : Option ((Vector Int 6) × (List Bool)) :=
 (lat a0 (i11 : Int)).bind fun x16 =>
 (vat z11.1 x16.Proc).bind fun x21 =>
 (vat z11.1 x16.Proc).bind fun x24 =>
 Let (z11.1.setIfInBounds x16.Proc.toNat (w64 (x21 + (1 : Int)))) fun p27 =>
 (vat p27 x16.Proc).bind fun x29 =>
 (vat a1 x16.Proc).bind fun x32 =>
 (lat z11.2 (i11 : Int)).bind fun x35 =>
 Let (z11.2.set (i11 : Int).toNat (decide (x29 ≤ x32))) fun p38 =>
 some (p27, p38)
def partref_inCut (a0 : List Event) (a1 : Vector Int 6) : Option (List Bool) :=
 (mkLen (a0.length : Int)).bind fun n4 =>
 (rangeF (partref_inCut_B0 a0 a1) a0.length 0 ((Vector.replicate 6 (0 : Int)), (List.replicate n4 false))).bind fun (y12, l13) =>
 some l13
def partref_Closure_B4 (a1 : List Pair) (i11 : Nat) (x42 : Int) (i50 : Nat) (z50 : (List Int) × (List (List Bool))) : Option ((List Int) × (List (List Bool))) :=
 (lat a1 (i50 : Int)).bind fun x58 =>
 (bif x58.A == x42 then ((lat z50.2 (i11 : Int)).bind fun x66 =>
 (lat x66 x58.B).bind fun x71 =>
 some (!x71)) else
 some false).bind fun y64 =>
 bif y64 then ((lat z50.2 (i11 : Int)).bind fun x75 =>
 (lat x75 x58.B).bind fun x80 =>
 Let (z50.2.set (i11 : Int).toNat (x75.set x58.B.toNat true)) fun p83 =>
 (room z50.1 ([x58.B] : List Int)).bind fun u89 =>
 some (z50.1 ++ ([x58.B] : List Int), p83)) else
 some (z50.1, z50.2)
def partref_Closure_B2 (a1 : List Pair) (i11 : Nat) (z33 : (List Int) × (List (List Bool))) : Option (Ctl ((List Int) × (List (List Bool))) (List (List Bool))) :=
 bif decide ((z33.1.length : Int) > (0 : Int)) then ((lat z33.1 (0 : Int)).bind fun x42 =>
 (cutL z33.1 (1 : Int) (z33.1.length : Int)).bind fun m45 =>
 (rangeF (partref_Closure_B4 a1 i11 x42) a1.length 0 (m45, z33.2)).bind fun (l52, l53) =>
 some (.go (l52, l53))) else
 some (.brk (z33.1, z33.2))
def partref_Closure_B0 (fu : Nat) (a0 : Int) (a1 : List Pair) (i11 : Nat) (z11 : (List (List Bool))) : Option (List (List Bool)) :=
 (mkLen a0).bind fun n18 =>
 (lat z11 (i11 : Int)).bind fun x23 =>
 Let (z11.set (i11 : Int).toNat (List.replicate n18 false)) fun p28 =>
 andThen (whileM (partref_Closure_B2 a1 i11) fu (([(i11 : Int)] : List Int), p28)) fun (l35, l36) =>
 some l36
def partref_Closure (fu : Nat) (a0 : Int) (a1 : List Pair) : Option (List (List Bool)) :=
 (mkLen a0).bind fun n3 =>
 (upTo a0).bind fun nn17 =>
 (rangeF (partref_Closure_B0 fu a0 a1) nn17 0 (List.replicate n3 ([] : List Bool))).bind fun l12 =>
 some l12
def partref_Causes_B2 (a0 : List Event) (i4 : Nat) (x9 : Event) (z14 : Int × (List Pair)) : Option (Ctl (Int × (List Pair)) (List Pair)) :=
 bif decide (z14.1 < (a0.length : Int)) then ((lat a0 z14.1).bind fun x21 =>
 bif x9.Proc == x21.Proc then ((room z14.2 ([({ Pair.zero with A := (i4 : Int), B := z14.1 } : Pair)] : List Pair)).bind fun u29 =>
 some (.go (w64 (z14.1 + (1 : Int)), z14.2 ++ ([({ Pair.zero with A := (i4 : Int), B := z14.1 } : Pair)] : List Pair)))) else
 (bif x9.Kind == (2 : Int) then (some (x21.Kind == (3 : Int))) else
 some false).bind fun y33 =>
 (bif y33 then (some (x9.Msg == x21.Msg)) else
 some false).bind fun y38 =>
 bif y38 then ((room z14.2 ([({ Pair.zero with A := (i4 : Int), B := z14.1 } : Pair)] : List Pair)).bind fun u45 =>
 some (.go (w64 (z14.1 + (1 : Int)), z14.2 ++ ([({ Pair.zero with A := (i4 : Int), B := z14.1 } : Pair)] : List Pair)))) else
 some (.go (w64 (z14.1 + (1 : Int)), z14.2))) else
 some (.brk (z14.1, z14.2))
def partref_Causes_B0 (fu : Nat) (a0 : List Event) (i4 : Nat) (z4 : (List Pair)) : Option (List Pair) :=
 (lat a0 (i4 : Int)).bind fun x9 =>
 andThen (whileM (partref_Causes_B2 a0 i4 x9) fu (w64 ((i4 : Int) + (1 : Int)), z4)) fun (y15, l17) =>
 some l17
def partref_Causes (fu : Nat) (a0 : List Event) : Option (List (List Bool)) :=
 (rangeF (partref_Causes_B0 fu a0) a0.length 0 ([] : List Pair)).bind fun l6 =>
 (partref_Closure fu (a0.length : Int) l6).bind fun r48 =>
 some r48
def slices_Clone_bool_bool (a0 : List Bool) : Option (List Bool) :=
 (room ([] : List Bool) a0).bind fun u5 =>
 some (([] : List Bool) ++ a0)
def partref_cutOf_B0 (a0 : List Event) (a1 : List Bool) (i5 : Nat) (z5 : (Vector Int 6)) : Option (Vector Int 6) :=
 (lat a0 (i5 : Int)).bind fun x9 =>
 (lat a1 (i5 : Int)).bind fun x14 =>
 bif x14 then ((vat z5 x9.Proc).bind fun x18 =>
 (vat z5 x9.Proc).bind fun x21 =>
 Let (z5.setIfInBounds x9.Proc.toNat (w64 (x18 + (1 : Int)))) fun p24 =>
 some p24) else
 some z5
def partref_cutOf (a0 : List Event) (a1 : List Bool) : Option (Vector Int 6) :=
 (rangeF (partref_cutOf_B0 a0 a1) a0.length 0 (Vector.replicate 6 (0 : Int))).bind fun y6 =>
 some y6
def partref_Grow_B2 (r5 : (List Bool)) (r11 : (List (List Bool))) (i26 : Nat) (i30 : Nat) (z30 : (List Bool)) : Option (List Bool) :=
 (lat z30 (i26 : Int)).bind fun x34 =>
 bif x34 then ((lat z30 (i26 : Int)).bind fun x38 =>
 Let (z30.set (i26 : Int).toNat true) fun p41 =>
 some p41) else
 (lat r5 (i30 : Int)).bind fun x43 =>
 (bif x43 then ((lat r11 (i26 : Int)).bind fun x49 =>
 (lat x49 (i30 : Int)).bind fun x54 =>
 some x54) else
 some false).bind fun y47 =>
 (lat z30 (i26 : Int)).bind fun x59 =>
 Let (z30.set (i26 : Int).toNat y47) fun p62 =>
 some p62
def partref_Grow_B0 (a0 : List Event) (r5 : (List Bool)) (r11 : (List (List Bool))) (i26 : Nat) (z26 : (List Bool)) : Option (List Bool) :=
 (rangeF (partref_Grow_B2 r5 r11 i26) a0.length 0 z26).bind fun l31 =>
 some l31
def partref_Grow (fu : Nat) (a0 : List Event) (a1 : Vector Int 6) : Option (Vector Int 6) :=
 (partref_inCut a0 a1).bind fun r5 =>
 (partref_Causes fu a0).bind fun r11 =>
 (slices_Clone_bool_bool r5).bind fun r20 =>
 (rangeF (partref_Grow_B0 a0 r5 r11) a0.length 0 r20).bind fun l27 =>
 (partref_cutOf a0 l27).bind fun r65 =>
 some r65
def partref_First_B2 (fu : Nat) (a0 : List Event) (a1 : List (List Bool)) (r5 : (Vector Int 6)) (i20 : Nat) (z20 : (Vector Int 6)) : Option (Ctl (Vector Int 6) (Ctl (Vector Int 6) ((Vector Int 6) × Bool))) :=
 (lat a1 (i20 : Int)).bind fun x24 =>
 (vat z20 (i20 : Int)).bind fun x28 =>
 (lat x24 x28).bind fun x31 =>
 bif !x31 then ((vat z20 (i20 : Int)).bind fun x35 =>
 (vat r5 (i20 : Int)).bind fun x38 =>
 bif x35 == x38 then (some (.ret (.ret (((Vector.replicate 6 (0 : Int)) : Vector Int 6), false)))) else
 (vat z20 (i20 : Int)).bind fun x42 =>
 (vat z20 (i20 : Int)).bind fun x45 =>
 Let (z20.setIfInBounds (i20 : Int).toNat (w64 (x42 + (1 : Int)))) fun p48 =>
 (partref_Grow fu a0 p48).bind fun r50 =>
 some (.brk r50)) else
 some (.go z20)
def partref_First_B0 (fu : Nat) (a0 : List Event) (a1 : List (List Bool)) (r5 : (Vector Int 6)) (z11 : (Vector Int 6)) : Option (Ctl (Vector Int 6) ((Vector Int 6) × Bool)) :=
 (partref_So a1 z11).bind fun r15 =>
 bif !r15 then (andThen (rangeM (partref_First_B2 fu a0 a1 r5) 6 0 z11) fun y21 =>
 some (.go y21)) else
 some (.brk z11)
def partref_First (fu : Nat) (a0 : List Event) (a1 : List (List Bool)) : Option ((Vector Int 6) × Bool) :=
 (partref_Sizes a0).bind fun r5 =>
 andThen (whileM (partref_First_B0 fu a0 a1 r5) fu (Vector.replicate 6 (0 : Int))) fun y12 =>
 some (y12, true)
def partref_Room_B0 (r1 : (Vector Int 6)) (i5 : Nat) (z5 : Int) : Option Int :=
 (vat r1 (i5 : Int)).bind fun x9 =>
 some (w64 (z5 * (w64 (x9 + (1 : Int)))))
def partref_Room (a0 : List Event) : Option Int :=
 (partref_Sizes a0).bind fun r1 =>
 (rangeF (partref_Room_B0 r1) 6 0 (1 : Int)).bind fun y6 =>
 some y6
def partref_Vectors_B2 (a0 : List Event) (r2 : (List (List Bool))) (i16 : Nat) (i20 : Nat) (z20 : (List (Vector Int 6))) : Option (List (Vector Int 6)) :=
 (lat r2 (i20 : Int)).bind fun x24 =>
 (lat x24 (i16 : Int)).bind fun x29 =>
 (bif x29 then (some true) else
 some ((i20 : Int) == (i16 : Int))).bind fun y33 =>
 bif y33 then ((lat a0 (i20 : Int)).bind fun x38 =>
 (lat z20 (i16 : Int)).bind fun x41 =>
 (vat x41 x38.Proc).bind fun x44 =>
 (lat z20 (i16 : Int)).bind fun x47 =>
 (vat x47 x38.Proc).bind fun x50 =>
 Let (z20.set (i16 : Int).toNat (x47.setIfInBounds x38.Proc.toNat (w64 (x44 + (1 : Int))))) fun p53 =>
 some p53) else
 some z20
def partref_Vectors_B0 (a0 : List Event) (r2 : (List (List Bool))) (i16 : Nat) (z16 : (List (Vector Int 6))) : Option (List (Vector Int 6)) :=
 (rangeF (partref_Vectors_B2 a0 r2 i16) a0.length 0 z16).bind fun l21 =>
 some l21
def partref_Vectors (fu : Nat) (a0 : List Event) : Option (List (Vector Int 6)) :=
 (partref_Causes fu a0).bind fun r2 =>
 (mkLen (a0.length : Int)).bind fun n11 =>
 (rangeF (partref_Vectors_B0 a0 r2) a0.length 0 (List.replicate n11 (Vector.replicate 6 (0 : Int)))).bind fun l17 =>
 some l17
def partref_Compare_B0 (a0 : Vector Int 6) (a1 : Vector Int 6) (i5 : Nat) (z5 : Bool × Bool) : Option (Bool × Bool) :=
 (bif z5.1 then (some true) else
 (vat a0 (i5 : Int)).bind fun x13 =>
 (vat a1 (i5 : Int)).bind fun x16 =>
 some (decide (x13 < x16))).bind fun y11 =>
 (bif z5.2 then (some true) else
 (vat a0 (i5 : Int)).bind fun x22 =>
 (vat a1 (i5 : Int)).bind fun x25 =>
 some (decide (x22 > x25))).bind fun y20 =>
 some (y11, y20)
def partref_Compare (a0 : Vector Int 6) (a1 : Vector Int 6) : Option Int :=
 (rangeF (partref_Compare_B0 a0 a1) 6 0 (false, false)).bind fun (y6, y7) =>
 (bif y6 then (some y7) else
 some false).bind fun y29 =>
 bif y29 then (some (3 : Int)) else
 bif y7 then (some (2 : Int)) else
 bif y6 then (some (1 : Int)) else
 some (0 : Int)
def partref_rightCut_B0 (a1 : List (Vector Int 6)) (a2 : Vector Int 6) (r3 : (List Bool)) (i9 : Nat) (z9 : Unit) : Option (Ctl Unit Bool) :=
 (lat r3 (i9 : Int)).bind fun x12 =>
 (bif x12 then ((lat a1 (i9 : Int)).bind fun x18 =>
 (partref_Compare x18 a2).bind fun r21 =>
 some (decide (r21 > (1 : Int)))) else
 some false).bind fun y16 =>
 bif y16 then (some (.ret false)) else
 some (.go ())
def partref_rightCut (a0 : List Event) (a1 : List (Vector Int 6)) (a2 : Vector Int 6) : Option Bool :=
 (partref_inCut a0 a2).bind fun r3 =>
 andThen (rangeM (partref_rightCut_B0 a1 a2 r3) r3.length 0 ()) fun _ =>
 some true
def partref_Cuts_1_B0 (a1 : Int) (a2 : List Event) (a3 : List (Vector Int 6)) (a5 : Vector Int 6) (rc : (Vector Int 6) → Int → (List Event) → (List (Vector Int 6)) → (List (Vector Int 6)) → (Vector Int 6) → Option (List (Vector Int 6))) (i28 : Nat) (z28 : (Vector Int 6) × (List (Vector Int 6))) : Option ((Vector Int 6) × (List (Vector Int 6))) :=
 (vat z28.1 a1).bind fun x35 =>
 Let (z28.1.setIfInBounds a1.toNat (i28 : Int)) fun p38 =>
 (rc p38 (w64 (a1 + (1 : Int))) a2 a3 z28.2 a5).bind fun r40 =>
 some (p38, r40)
def partref_Cuts_1_R (rc : (Vector Int 6) → Int → (List Event) → (List (Vector Int 6)) → (List (Vector Int 6)) → (Vector Int 6) → Option (List (Vector Int 6))) (a0 : Vector Int 6) (a1 : Int) (a2 : List Event) (a3 : List (Vector Int 6)) (a4 : List (Vector Int 6)) (a5 : Vector Int 6) : Option (List (Vector Int 6)) :=
 bif a1 == (6 : Int) then (((partref_rightCut a2 a3 a0).bind fun r13 =>
 bif r13 then ((room a4 ([a0] : List (Vector Int 6))).bind fun u20 =>
 some (a4 ++ ([a0] : List (Vector Int 6)))) else
 some a4).bind fun l11 =>
 some l11) else
 (vat a5 a1).bind fun x25 =>
 (upTo (w64 (x25 + (1 : Int)))).bind fun nn34 =>
 (rangeF (partref_Cuts_1_B0 a1 a2 a3 a5 rc) nn34 0 (a0, a4)).bind fun (y29, l31) =>
 some l31
def partref_Cuts_1 : (fu : Nat) → (a0 : Vector Int 6) → (a1 : Int) → (a2 : List Event) → (a3 : List (Vector Int 6)) → (a4 : List (Vector Int 6)) → (a5 : Vector Int 6) → Option (List (Vector Int 6))
  | 0, _, _, _, _, _, _ => none
  | fu + 1, a0, a1, a2, a3, a4, a5 => partref_Cuts_1_R (partref_Cuts_1 fu) a0 a1 a2 a3 a4 a5
def partref_Cuts (fu : Nat) (a0 : List Event) : Option (List (Vector Int 6)) :=
 (partref_Vectors fu a0).bind fun r4 =>
 (partref_Sizes a0).bind fun r13 =>
 (partref_Cuts_1 fu ((Vector.replicate 6 (0 : Int)) : Vector Int 6) (0 : Int) a0 r4 ([] : List (Vector Int 6)) r13).bind fun r24 =>
 some r24
def partref_Must_B2 (l11 : List ((Vector Int 6) × Int)) (x15 : Vector Int 6) (i29 : Nat) (z29 : Bool) : Option Bool :=
 (vat x15 (i29 : Int)).bind fun x35 =>
 (vat x15 (i29 : Int)).bind fun x38 =>
 Let (x15.setIfInBounds (i29 : Int).toNat (w64 (x35 + (1 : Int)))) fun p41 =>
 (bif z29 then (some true) else
 some (decide (((mget l11 p41).getD (0 : Int)) > (0 : Int)))).bind fun y44 =>
 some y44
def partref_Must_B0 (a0 : List Event) (a1 : List (List Bool)) (r1 : (List (Vector Int 6))) (z9 : Int × (List ((Vector Int 6) × Int))) : Option (Ctl (Int × (List ((Vector Int 6) × Int))) Bool) :=
 bif decide (z9.1 ≥ (0 : Int)) then ((lat r1 z9.1).bind fun x15 =>
 (partref_So a1 x15).bind fun r20 =>
 bif r20 then (some (.go (w64 (z9.1 - (1 : Int)), z9.2))) else
 (partref_Sizes a0).bind fun r25 =>
 (rangeF (partref_Must_B2 z9.2 x15) 6 0 (decide (x15 = r25))).bind fun y30 =>
 bif y30 then (Let (mset z9.2 x15 (1 : Int)) fun m49 =>
 some (.go (w64 (z9.1 - (1 : Int)), m49))) else
 some (.go (w64 (z9.1 - (1 : Int)), z9.2))) else
 some (.brk (z9.1, z9.2))
def partref_Must (fu : Nat) (a0 : List Event) (a1 : List (List Bool)) : Option Bool :=
 (partref_Cuts fu a0).bind fun r1 =>
 andThen (whileM (partref_Must_B0 a0 a1 r1) fu (w64 ((r1.length : Int) - (1 : Int)), ([] : List ((Vector Int 6) × Int)))) fun (y10, l11) =>
 some (((mget l11 ((Vector.replicate 6 (0 : Int)) : Vector Int 6)).getD (0 : Int)) == (0 : Int))
def partlaw_PredSays (fu : Nat) (a0 : List Event) (a1 : List (List Bool)) : Option Bool :=
 (partref_TruthErr a0 a1).bind fun r1 =>
 (pred_First fu a0 a1).bind fun r5 =>
 (pred_Must fu a0 a1).bind fun r11 =>
 (pred_Check a0 a1).bind fun r15 =>
 bif r15 != r1 then (some false) else
 bif r1 != (0 : Int) then ((bif decide (r5.1 = ((Vector.replicate 6 (0 : Int)) : Vector Int 6)) then (some (r5.2 == r1)) else
 some false).bind fun y22 =>
 (bif y22 then (some (!r11.1)) else
 some false).bind fun y27 =>
 (bif y27 then (some (r11.2 == r1)) else
 some false).bind fun y32 =>
 some y32) else
 (partref_First fu a0 a1).bind fun r36 =>
 (bif r36.2 != (r5.2 == (0 : Int)) then (some true) else
 some (!(decide (r5.1 = r36.1)))).bind fun y43 =>
 bif y43 then (some false) else
 (bif !r36.2 then (some (r5.2 != (6 : Int))) else
 some false).bind fun y49 =>
 bif y49 then (some false) else
 (partref_Room a0).bind fun r54 =>
 bif decide (r54 > (4096 : Int)) then ((bif !r11.1 then (some (r11.2 == (2 : Int))) else
 some false).bind fun y60 =>
 some y60) else
 (partref_Must fu a0 a1).bind fun r64 =>
 (bif r11.1 == r64 then (some (r11.2 == (0 : Int))) else
 some false).bind fun y69 =>
 some y69
end Go.Proofs.Ytclmlddmgccfjaa
