/-
  What the functions compute, typed; printed by a program.
-/
import Derived.Test.YtclmlddmgccfjaaGoI
import Derived.Test.YtclmlddmgccfjaaGoM
import Derived.Test.YtclmlddmgccfjaaGoS
namespace Go.Proofs.Ytclmlddmgccfjaa
open Go.RowKit Enc
set_option linter.unusedVariables false
set_option linter.unusedSimpArgs false
structure Event where
  Proc : Int
  Kind : Int
  Msg : Int
instance : DecidableEq Event := fun a b => decidable_of_iff (a.Proc = b.Proc ∧ a.Kind = b.Kind ∧ a.Msg = b.Msg) (by cases a; cases b; simp)
def Event.zero : Event := ⟨(0 : Int), (0 : Int), (0 : Int)⟩
instance : Enc Event := ⟨fun p => enc p.Proc ++ (enc p.Kind ++ (enc p.Msg)), 3, fun p => by simp only [List.length_append, Enc.len]; rfl, fun p => by simp only [List.all_append, Enc.one, Bool.and_self]⟩
theorem Event.get_Proc {p : Event} {k : Nat} {ch : List Value} (h : Get (enc p.Proc) k ch) : Get (enc p) (0 + k) ch := Get.off (Get.left h) (by omega)
theorem Event.put_Proc {p : Event} {k : Nat} {vs : List Value} {y : Int} (h : Put (enc p.Proc) k vs (enc y)) : Put (enc p) (0 + k) vs (enc ({ p with Proc := y } : Event)) := Put.off (cs' := enc ({ p with Proc := y } : Event)) (Put.left h) (by omega)
theorem Event.get_Kind {p : Event} {k : Nat} {ch : List Value} (h : Get (enc p.Kind) k ch) : Get (enc p) (1 + k) ch := Get.off (Get.right (m := 1) (Enc.len _) (Get.left h)) (by omega)
theorem Event.put_Kind {p : Event} {k : Nat} {vs : List Value} {y : Int} (h : Put (enc p.Kind) k vs (enc y)) : Put (enc p) (1 + k) vs (enc ({ p with Kind := y } : Event)) := Put.off (cs' := enc ({ p with Kind := y } : Event)) (Put.right (m := 1) (Enc.len _) (Put.left h)) (by omega)
theorem Event.get_Msg {p : Event} {k : Nat} {ch : List Value} (h : Get (enc p.Msg) k ch) : Get (enc p) (2 + k) ch := Get.off (Get.right (m := 1) (Enc.len _) (Get.right (m := 1) (Enc.len _) h)) (by omega)
theorem Event.put_Msg {p : Event} {k : Nat} {vs : List Value} {y : Int} (h : Put (enc p.Msg) k vs (enc y)) : Put (enc p) (2 + k) vs (enc ({ p with Msg := y } : Event)) := Put.off (cs' := enc ({ p with Msg := y } : Event)) (Put.right (m := 1) (Enc.len _) (Put.right (m := 1) (Enc.len _) h)) (by omega)
instance : Rng Event := ⟨fun p => Rng.ok p.Proc ∧ Rng.ok p.Kind ∧ Rng.ok p.Msg⟩
structure Checker where
  sender : Vector Int 30
  taken : Vector (Vector Bool 6) 30
instance : DecidableEq Checker := fun a b => decidable_of_iff (a.sender = b.sender ∧ a.taken = b.taken) (by cases a; cases b; simp)
def Checker.zero : Checker := ⟨(Vector.replicate 30 (0 : Int)), (Vector.replicate 30 (Vector.replicate 6 false))⟩
instance : Enc Checker := ⟨fun p => enc p.sender ++ (enc p.taken), 210, fun p => by simp only [List.length_append, Enc.len]; rfl, fun p => by simp only [List.all_append, Enc.one, Bool.and_self]⟩
theorem Checker.get_sender {p : Checker} {k : Nat} {ch : List Value} (h : Get (enc p.sender) k ch) : Get (enc p) (0 + k) ch := Get.off (Get.left h) (by omega)
theorem Checker.put_sender {p : Checker} {k : Nat} {vs : List Value} {y : Vector Int 30} (h : Put (enc p.sender) k vs (enc y)) : Put (enc p) (0 + k) vs (enc ({ p with sender := y } : Checker)) := Put.off (cs' := enc ({ p with sender := y } : Checker)) (Put.left h) (by omega)
theorem Checker.get_taken {p : Checker} {k : Nat} {ch : List Value} (h : Get (enc p.taken) k ch) : Get (enc p) (30 + k) ch := Get.off (Get.right (m := 30) (Enc.len _) h) (by omega)
theorem Checker.put_taken {p : Checker} {k : Nat} {vs : List Value} {y : Vector (Vector Bool 6) 30} (h : Put (enc p.taken) k vs (enc y)) : Put (enc p) (30 + k) vs (enc ({ p with taken := y } : Checker)) := Put.off (cs' := enc ({ p with taken := y } : Checker)) (Put.right (m := 30) (Enc.len _) h) (by omega)
instance : Rng Checker := ⟨fun p => Rng.ok p.sender ∧ Rng.ok p.taken⟩
def slices_Clone_api_Event_api_Event (a0 : List Event) : Option (List Event) :=
 (room ([] : List Event) a0).bind fun u5 =>
 some (([] : List Event) ++ a0)
def stamp_in (a0 : Int) (a1 : Int) (a2 : Int) : Option Bool :=
 (bif decide (a0 ≥ a1) then (some (decide (a0 ≤ a2))) else
 some false).bind fun y2 =>
 some y2
def stamp_checker_event (a0 : Checker) (a1 : Event) : Option (Checker × Int) :=
 (stamp_in a1.Proc (0 : Int) (5 : Int)).bind fun r4 =>
 (bif !r4 then (some true) else
 (stamp_in a1.Msg (0 : Int) (29 : Int)).bind fun r11 =>
 some (!r11)).bind fun y9 =>
 bif y9 then (some (a0, (1 : Int))) else
 andThen (bif a1.Kind == (1 : Int) then (bif a1.Msg != (0 : Int) then (some (.inr (a0, (4 : Int)))) else
 some (.inl a0)) else
 bif a1.Kind == (2 : Int) then ((vat a0.sender a1.Msg).bind fun x23 =>
 bif decide (x23 > (0 : Int)) then (some (.inr (a0, (4 : Int)))) else
 (vat a0.sender a1.Msg).bind fun x27 =>
 Let ({ a0 with sender := a0.sender.setIfInBounds a1.Msg.toNat (w64 (a1.Proc + (1 : Int))) } : Checker) fun p30 =>
 some (.inl p30)) else
 bif a1.Kind == (3 : Int) then ((vat a0.sender a1.Msg).bind fun x33 =>
 (bif x33 == (0 : Int) then (some true) else
 (vat a0.sender a1.Msg).bind fun x39 =>
 some (x39 == (w64 (a1.Proc + (1 : Int))))).bind fun y37 =>
 (bif y37 then (some true) else
 (vat a0.taken a1.Msg).bind fun x45 =>
 (vat x45 a1.Proc).bind fun x48 =>
 some x48).bind fun y43 =>
 bif y43 then (some (.inr (a0, (4 : Int)))) else
 (vat a0.taken a1.Msg).bind fun x52 =>
 (vat x52 a1.Proc).bind fun x55 =>
 Let ({ a0 with taken := a0.taken.setIfInBounds a1.Msg.toNat (x52.setIfInBounds a1.Proc.toNat true) } : Checker) fun p58 =>
 some (.inl p58)) else
 some (.inr (a0, (4 : Int)))) fun y18 =>
 some (y18, (0 : Int))
def stamp_Check_B0 (a0 : List Event) (i4 : Nat) (z4 : Checker) : Option (Ctl Checker Int) :=
 (lat a0 (i4 : Int)).bind fun x8 =>
 (stamp_checker_event z4 x8).bind fun r13 =>
 bif r13.2 != (0 : Int) then (some (.ret r13.2)) else
 some (.go r13.1)
def stamp_Check (a0 : List Event) : Option Int :=
 bif decide ((a0.length : Int) > (60 : Int)) then (some (2 : Int)) else
 andThen (rangeM (stamp_Check_B0 a0) a0.length 0 Checker.zero) fun y5 =>
 some (0 : Int)
def parttop_historyOf_B0 (a0 : List Event) (i3 : Nat) (z3 : (List Event)) : Option (List Event) :=
 (lat a0 (i3 : Int)).bind fun x8 =>
 (slices_Clone_api_Event_api_Event z3).bind fun r13 =>
 Let (([x8] : List Event), r13) fun (l23, l25) =>
 (room l25 l23).bind fun u38 =>
 (stamp_Check (l25 ++ l23)).bind fun r41 =>
 bif r41 == (0 : Int) then ((room z3 ([x8] : List Event)).bind fun u48 =>
 some (z3 ++ ([x8] : List Event))) else
 some z3
def parttop_historyOf (a0 : List Event) : Option (List Event) :=
 (rangeF (parttop_historyOf_B0 a0) a0.length 0 ([] : List Event)).bind fun l5 =>
 some l5
def vect_Max_B0 (a1 : Vector Int 6) (i7 : Nat) (z7 : (Vector Int 6)) : Option (Vector Int 6) :=
 (vat z7 (i7 : Int)).bind fun x11 =>
 (vat a1 (i7 : Int)).bind fun x14 =>
 (vat z7 (i7 : Int)).bind fun x17 =>
 Let (z7.setIfInBounds (i7 : Int).toNat (max x11 x14)) fun p20 =>
 some p20
def vect_Max (a0 : Vector Int 6) (a1 : Vector Int 6) : Option (Vector Int 6) :=
 (rangeF (vect_Max_B0 a1) 6 0 a0).bind fun y8 =>
 some y8
def vect_Vectors_B0 (a0 : List Event) (i15 : Nat) (z15 : (Vector (Vector Int 6) 30) × (Vector (Vector Int 6) 6) × (Vector Int 6) × (List (Vector Int 6))) : Option ((Vector (Vector Int 6) 30) × (Vector (Vector Int 6) 6) × (Vector Int 6) × (List (Vector Int 6))) :=
 (lat a0 (i15 : Int)).bind fun x23 =>
 (vat z15.2.1 x23.Proc).bind fun x28 =>
 (bif x23.Kind == (3 : Int) then ((vat z15.1 x23.Msg).bind fun x36 =>
 (vect_Max x28 x36).bind fun r39 =>
 some r39) else
 some x28).bind fun y33 =>
 (vat z15.2.2.1 x23.Proc).bind fun x45 =>
 (vat z15.2.2.1 x23.Proc).bind fun x48 =>
 Let (z15.2.2.1.setIfInBounds x23.Proc.toNat (w64 (x45 + (1 : Int)))) fun p51 =>
 (vat p51 x23.Proc).bind fun x53 =>
 (vat y33 x23.Proc).bind fun x56 =>
 Let (y33.setIfInBounds x23.Proc.toNat x53) fun p59 =>
 (vat z15.2.1 x23.Proc).bind fun x61 =>
 Let (z15.2.1.setIfInBounds x23.Proc.toNat p59) fun p64 =>
 (bif x23.Kind == (2 : Int) then ((vat z15.1 x23.Msg).bind fun x69 =>
 Let (z15.1.setIfInBounds x23.Msg.toNat p59) fun p72 =>
 some p72) else
 some z15.1).bind fun y66 =>
 (room z15.2.2.2 ([p59] : List (Vector Int 6))).bind fun u78 =>
 some (y66, p64, p51, z15.2.2.2 ++ ([p59] : List (Vector Int 6)))
def vect_Vectors (a0 : List Event) : Option ((List (Vector Int 6)) × Int) :=
 (stamp_Check a0).bind fun r2 =>
 bif r2 != (0 : Int) then (some (([] : List (Vector Int 6)), r2)) else
 (rangeF (vect_Vectors_B0 a0) a0.length 0 ((Vector.replicate 30 (Vector.replicate 6 (0 : Int))), (Vector.replicate 6 (Vector.replicate 6 (0 : Int))), (Vector.replicate 6 (0 : Int)), ([] : List (Vector Int 6)))).bind fun (y16, y17, y18, l20) =>
 some (l20, (0 : Int))
def parttop_grown : Option Bool :=
 (parttop_historyOf ([({ Event.zero with Kind := (2 : Int) } : Event), ({ Event.zero with Proc := (1 : Int), Kind := (3 : Int) } : Event), ({ Event.zero with Proc := (1 : Int), Kind := (3 : Int) } : Event), ({ Event.zero with Proc := (2 : Int), Kind := (1 : Int) } : Event)] : List Event)).bind fun r3 =>
 (vect_Vectors r3).bind fun r9 =>
 (bif (r3.length : Int) == (3 : Int) then (some (r9.2 == (0 : Int))) else
 some false).bind fun y16 =>
 (bif y16 then (some ((r9.1.length : Int) == (3 : Int))) else
 some false).bind fun y21 =>
 (bif y21 then ((lat r9.1 (1 : Int)).bind fun x28 =>
 some (decide (x28 = ((((Vector.replicate 6 (0 : Int)).setIfInBounds 0 (1 : Int)).setIfInBounds 1 (1 : Int)) : Vector Int 6)))) else
 some false).bind fun y26 =>
 some y26
def stamp_Stamps_B0 (a0 : List Event) (i13 : Nat) (z13 : (Vector Int 30) × (Vector Int 6) × (List Int)) : Option ((Vector Int 30) × (Vector Int 6) × (List Int)) :=
 (lat a0 (i13 : Int)).bind fun x20 =>
 (vat z13.2.1 x20.Proc).bind fun x25 =>
 (bif x20.Kind == (3 : Int) then ((vat z13.1 x20.Msg).bind fun x31 =>
 some (max x25 x31)) else
 some x25).bind fun y28 =>
 (vat z13.2.1 x20.Proc).bind fun x36 =>
 Let (z13.2.1.setIfInBounds x20.Proc.toNat (w64 (y28 + (1 : Int)))) fun p39 =>
 (bif x20.Kind == (2 : Int) then ((vat z13.1 x20.Msg).bind fun x44 =>
 Let (z13.1.setIfInBounds x20.Msg.toNat (w64 (y28 + (1 : Int)))) fun p47 =>
 some p47) else
 some z13.1).bind fun y41 =>
 (room z13.2.2 ([w64 (y28 + (1 : Int))] : List Int)).bind fun u53 =>
 some (y41, p39, z13.2.2 ++ ([w64 (y28 + (1 : Int))] : List Int))
def stamp_Stamps (a0 : List Event) : Option ((List Int) × Int) :=
 (stamp_Check a0).bind fun r2 =>
 bif r2 != (0 : Int) then (some (([] : List Int), r2)) else
 (rangeF (stamp_Stamps_B0 a0) a0.length 0 ((Vector.replicate 30 (0 : Int)), (Vector.replicate 6 (0 : Int)), ([] : List Int))).bind fun (y14, y15, l17) =>
 some (l17, (0 : Int))
def vect_Within (a0 : Vector Int 6) (a1 : Vector Int 6) : Option Bool :=
 (vect_Max a0 a1).bind fun r5 =>
 some (decide (r5 = a1))
def cut_counts_B0 (a0 : List Event) (i5 : Nat) (z5 : (Vector Int 6)) : Option (Vector Int 6) :=
 (lat a0 (i5 : Int)).bind fun x9 =>
 (vat z5 x9.Proc).bind fun x14 =>
 (vat z5 x9.Proc).bind fun x17 =>
 Let (z5.setIfInBounds x9.Proc.toNat (w64 (x14 + (1 : Int)))) fun p20 =>
 some p20
def cut_counts (a0 : List Event) : Option (Vector Int 6) :=
 (rangeF (cut_counts_B0 a0) a0.length 0 (Vector.replicate 6 (0 : Int))).bind fun y6 =>
 some y6
def cut_Check (a0 : List Event) (a1 : Vector Int 6) : Option Int :=
 (stamp_Check a0).bind fun r3 =>
 bif r3 != (0 : Int) then (some r3) else
 (vect_Within ((Vector.replicate 6 (0 : Int)) : Vector Int 6) a1).bind fun r8 =>
 (bif !r8 then (some true) else
 (cut_counts a0).bind fun r15 =>
 (vect_Within a1 r15).bind fun r19 =>
 some (!r19)).bind fun y13 =>
 bif y13 then (some (1 : Int)) else
 some (0 : Int)
def cut_vectors_B0 (a0 : List Event) (r9 : (List (Vector Int 6)) × Int) (i15 : Nat) (z15 : (Vector (List (Vector Int 6)) 6)) : Option (Vector (List (Vector Int 6)) 6) :=
 (lat a0 (i15 : Int)).bind fun x22 =>
 (vat z15 x22.Proc).bind fun x27 =>
 (lat r9.1 (i15 : Int)).bind fun x31 =>
 (room x27 ([x31] : List (Vector Int 6))).bind fun u37 =>
 Let (x27 ++ ([x31] : List (Vector Int 6))) fun l42 =>
 (vat z15 x22.Proc).bind fun x52 =>
 Let (z15.setIfInBounds x22.Proc.toNat l42) fun p56 =>
 some p56
def cut_vectors (a0 : List Event) : Option (Vector (List (Vector Int 6)) 6) :=
 (vect_Vectors a0).bind fun r9 =>
 (rangeF (cut_vectors_B0 a0 r9) a0.length 0 (Vector.replicate 6 [] : Vector (List (Vector Int 6)) 6)).bind fun l17 =>
 some l17
def cut_grown_B0 (a0 : Vector (List (Vector Int 6)) 6) (a1 : Vector Int 6) (i9 : Nat) (z9 : (Vector Int 6)) : Option (Vector Int 6) :=
 (vat a1 (i9 : Int)).bind fun x13 =>
 bif decide (x13 > (0 : Int)) then ((vat a0 (i9 : Int)).bind fun x17 =>
 (lat x17 (w64 (x13 - (1 : Int)))).bind fun x21 =>
 (vect_Max z9 x21).bind fun r24 =>
 some r24) else
 some z9
def cut_grown (a0 : Vector (List (Vector Int 6)) 6) (a1 : Vector Int 6) : Option (Vector Int 6) :=
 (rangeF (cut_grown_B0 a0 a1) 6 0 a1).bind fun y10 =>
 some y10
def cut_Grow (a0 : List Event) (a1 : Vector Int 6) : Option ((Vector Int 6) × Int) :=
 (cut_Check a0 a1).bind fun r5 =>
 bif r5 != (0 : Int) then (some (((Vector.replicate 6 (0 : Int)) : Vector Int 6), r5)) else
 (cut_vectors a0).bind fun r10 =>
 Let r10 fun l19 =>
 (cut_grown l19 a1).bind fun r30 =>
 some (r30, (0 : Int))
def cut_Right (a0 : List Event) (a1 : Vector Int 6) : Option (Bool × Int) :=
 (cut_Grow a0 a1).bind fun r3 =>
 (bif r3.2 == (0 : Int) then (some (decide (r3.1 = a1))) else
 some false).bind fun y10 =>
 some (y10, r3.2)
def vect_Compare (a0 : Vector Int 6) (a1 : Vector Int 6) : Option Int :=
 bif decide (a0 = a1) then (some (0 : Int)) else
 (vect_Within a0 a1).bind fun r6 =>
 bif r6 then (some (1 : Int)) else
 (vect_Within a1 a0).bind fun r11 =>
 bif r11 then (some (2 : Int)) else
 some (3 : Int)
def parttop_TopCauses_B2 (r12 : (List Int) × Int) (r18 : (List (Vector Int 6)) × Int) (i30 : Nat) (i46 : Nat) (z46 : Unit) : Option (Ctl Unit (Ctl Unit Bool)) :=
 (lat r18.1 (i30 : Int)).bind fun x49 =>
 (lat r18.1 (i46 : Int)).bind fun x52 =>
 (vect_Compare x49 x52).bind fun r55 =>
 (bif (i30 : Int) != (i46 : Int) then ((lat r18.1 (i30 : Int)).bind fun x62 =>
 (lat r18.1 (i46 : Int)).bind fun x65 =>
 (vect_Within x62 x65).bind fun r68 =>
 some r68) else
 some false).bind fun y60 =>
 (bif (r55 == (1 : Int)) != y60 then (some true) else
 (bif r55 == (1 : Int) then ((lat r12.1 (i30 : Int)).bind fun x78 =>
 (lat r12.1 (i46 : Int)).bind fun x81 =>
 some (decide (x78 ≥ x81))) else
 some false).bind fun y76 =>
 some y76).bind fun y73 =>
 bif y73 then (some (.ret (.ret false))) else
 some (.go ())
def parttop_TopCauses_B0 (r6 : (List Event)) (r12 : (List Int) × Int) (r18 : (List (Vector Int 6)) × Int) (i30 : Nat) (z30 : Unit) : Option (Ctl Unit Bool) :=
 (lat r18.1 (i30 : Int)).bind fun x33 =>
 (cut_Right r6 x33).bind fun r36 =>
 (bif r36.2 != (0 : Int) then (some true) else
 some (!r36.1)).bind fun y41 =>
 bif y41 then (some (.ret false)) else
 andThen (rangeM (parttop_TopCauses_B2 r12 r18 i30) r6.length 0 ()) fun _ =>
 some (.go ())
def parttop_TopCauses (a0 : List Event) : Option Bool :=
 parttop_grown.bind fun r1 =>
 bif !r1 then (some false) else
 (parttop_historyOf a0).bind fun r6 =>
 (stamp_Stamps r6).bind fun r12 =>
 (vect_Vectors r6).bind fun r18 =>
 (bif r12.2 != (0 : Int) then (some true) else
 some (r18.2 != (0 : Int))).bind fun y25 =>
 bif y25 then (some false) else
 andThen (rangeM (parttop_TopCauses_B0 r6 r12 r18) r6.length 0 ()) fun _ =>
 some true
end Go.Proofs.Ytclmlddmgccfjaa
