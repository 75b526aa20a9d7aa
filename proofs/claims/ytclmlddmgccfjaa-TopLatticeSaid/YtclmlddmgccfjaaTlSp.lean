/-
  What the functions compute, typed; printed by a program.
-/
import Derived.Test.YtclmlddmgccfjaaGoI
import Derived.Test.YtclmlddmgccfjaaGoM
import Derived.Test.YtclmlddmgccfjaaGoS
namespace Go.Proofs.Ytclmlddmgccfjaa
open Go.RowKit Enc
set_option linter.unusedVariables false
set_option linter.unusedSimpArgs false
structure Event where
  Proc : Int
  Kind : Int
  Msg : Int
instance : DecidableEq Event := fun a b => decidable_of_iff (a.Proc = b.Proc ∧ a.Kind = b.Kind ∧ a.Msg = b.Msg) (by cases a; cases b; simp)
def Event.zero : Event := ⟨(0 : Int), (0 : Int), (0 : Int)⟩
instance : Enc Event := ⟨fun p => enc p.Proc ++ (enc p.Kind ++ (enc p.Msg)), 3, fun p => by simp only [List.length_append, Enc.len]; rfl, fun p => by simp only [List.all_append, Enc.one, Bool.and_self]⟩
theorem Event.get_Proc {p : Event} {k : Nat} {ch : List Value} (h : Get (enc p.Proc) k ch) : Get (enc p) (0 + k) ch := Get.off (Get.left h) (by omega)
theorem Event.put_Proc {p : Event} {k : Nat} {vs : List Value} {y : Int} (h : Put (enc p.Proc) k vs (enc y)) : Put (enc p) (0 + k) vs (enc ({ p with Proc := y } : Event)) := Put.off (cs' := enc ({ p with Proc := y } : Event)) (Put.left h) (by omega)
theorem Event.get_Kind {p : Event} {k : Nat} {ch : List Value} (h : Get (enc p.Kind) k ch) : Get (enc p) (1 + k) ch := Get.off (Get.right (m := 1) (Enc.len _) (Get.left h)) (by omega)
theorem Event.put_Kind {p : Event} {k : Nat} {vs : List Value} {y : Int} (h : Put (enc p.Kind) k vs (enc y)) : Put (enc p) (1 + k) vs (enc ({ p with Kind := y } : Event)) := Put.off (cs' := enc ({ p with Kind := y } : Event)) (Put.right (m := 1) (Enc.len _) (Put.left h)) (by omega)
theorem Event.get_Msg {p : Event} {k : Nat} {ch : List Value} (h : Get (enc p.Msg) k ch) : Get (enc p) (2 + k) ch := Get.off (Get.right (m := 1) (Enc.len _) (Get.right (m := 1) (Enc.len _) h)) (by omega)
theorem Event.put_Msg {p : Event} {k : Nat} {vs : List Value} {y : Int} (h : Put (enc p.Msg) k vs (enc y)) : Put (enc p) (2 + k) vs (enc ({ p with Msg := y } : Event)) := Put.off (cs' := enc ({ p with Msg := y } : Event)) (Put.right (m := 1) (Enc.len _) (Put.right (m := 1) (Enc.len _) h)) (by omega)
instance : Rng Event := ⟨fun p => Rng.ok p.Proc ∧ Rng.ok p.Kind ∧ Rng.ok p.Msg⟩
structure Checker where
  sender : Vector Int 30
  taken : Vector (Vector Bool 6) 30
instance : DecidableEq Checker := fun a b => decidable_of_iff (a.sender = b.sender ∧ a.taken = b.taken) (by cases a; cases b; simp)
def Checker.zero : Checker := ⟨(Vector.replicate 30 (0 : Int)), (Vector.replicate 30 (Vector.replicate 6 false))⟩
instance : Enc Checker := ⟨fun p => enc p.sender ++ (enc p.taken), 210, fun p => by simp only [List.length_append, Enc.len]; rfl, fun p => by simp only [List.all_append, Enc.one, Bool.and_self]⟩
theorem Checker.get_sender {p : Checker} {k : Nat} {ch : List Value} (h : Get (enc p.sender) k ch) : Get (enc p) (0 + k) ch := Get.off (Get.left h) (by omega)
theorem Checker.put_sender {p : Checker} {k : Nat} {vs : List Value} {y : Vector Int 30} (h : Put (enc p.sender) k vs (enc y)) : Put (enc p) (0 + k) vs (enc ({ p with sender := y } : Checker)) := Put.off (cs' := enc ({ p with sender := y } : Checker)) (Put.left h) (by omega)
theorem Checker.get_taken {p : Checker} {k : Nat} {ch : List Value} (h : Get (enc p.taken) k ch) : Get (enc p) (30 + k) ch := Get.off (Get.right (m := 30) (Enc.len _) h) (by omega)
theorem Checker.put_taken {p : Checker} {k : Nat} {vs : List Value} {y : Vector (Vector Bool 6) 30} (h : Put (enc p.taken) k vs (enc y)) : Put (enc p) (30 + k) vs (enc ({ p with taken := y } : Checker)) := Put.off (cs' := enc ({ p with taken := y } : Checker)) (Put.right (m := 30) (Enc.len _) h) (by omega)
instance : Rng Checker := ⟨fun p => Rng.ok p.sender ∧ Rng.ok p.taken⟩
structure Pair where
  A : Int
  B : Int
instance : DecidableEq Pair := fun a b => decidable_of_iff (a.A = b.A ∧ a.B = b.B) (by cases a; cases b; simp)
def Pair.zero : Pair := ⟨(0 : Int), (0 : Int)⟩
instance : Enc Pair := ⟨fun p => enc p.A ++ (enc p.B), 2, fun p => by simp only [List.length_append, Enc.len]; rfl, fun p => by simp only [List.all_append, Enc.one, Bool.and_self]⟩
theorem Pair.get_A {p : Pair} {k : Nat} {ch : List Value} (h : Get (enc p.A) k ch) : Get (enc p) (0 + k) ch := Get.off (Get.left h) (by omega)
theorem Pair.put_A {p : Pair} {k : Nat} {vs : List Value} {y : Int} (h : Put (enc p.A) k vs (enc y)) : Put (enc p) (0 + k) vs (enc ({ p with A := y } : Pair)) := Put.off (cs' := enc ({ p with A := y } : Pair)) (Put.left h) (by omega)
theorem Pair.get_B {p : Pair} {k : Nat} {ch : List Value} (h : Get (enc p.B) k ch) : Get (enc p) (1 + k) ch := Get.off (Get.right (m := 1) (Enc.len _) h) (by omega)
theorem Pair.put_B {p : Pair} {k : Nat} {vs : List Value} {y : Int} (h : Put (enc p.B) k vs (enc y)) : Put (enc p) (1 + k) vs (enc ({ p with B := y } : Pair)) := Put.off (cs' := enc ({ p with B := y } : Pair)) (Put.right (m := 1) (Enc.len _) h) (by omega)
instance : Rng Pair := ⟨fun p => Rng.ok p.A ∧ Rng.ok p.B⟩
structure Poset where
  N : Int
  Pairs : List Pair
instance : DecidableEq Poset := fun a b => decidable_of_iff (a.N = b.N ∧ a.Pairs = b.Pairs) (by cases a; cases b; simp)
def Poset.zero : Poset := ⟨(0 : Int), []⟩
instance : Rng Poset := ⟨fun p => Rng.ok p.N ∧ Rng.ok p.Pairs⟩
def slices_Clone_api_Event_api_Event (a0 : List Event) : Option (List Event) :=
 (room ([] : List Event) a0).bind fun u5 =>
 some (([] : List Event) ++ a0)
def stamp_in (a0 : Int) (a1 : Int) (a2 : Int) : Option Bool :=
 (bif decide (a0 ≥ a1) then (some (decide (a0 ≤ a2))) else
 some false).bind fun y2 =>
 some y2
def stamp_checker_event (a0 : Checker) (a1 : Event) : Option (Checker × Int) :=
 (stamp_in a1.Proc (0 : Int) (5 : Int)).bind fun r4 =>
 (bif !r4 then (some true) else
 (stamp_in a1.Msg (0 : Int) (29 : Int)).bind fun r11 =>
 some (!r11)).bind fun y9 =>
 bif y9 then (some (a0, (1 : Int))) else
 andThen (bif a1.Kind == (1 : Int) then (bif a1.Msg != (0 : Int) then (some (.inr (a0, (4 : Int)))) else
 some (.inl a0)) else
 bif a1.Kind == (2 : Int) then ((vat a0.sender a1.Msg).bind fun x23 =>
 bif decide (x23 > (0 : Int)) then (some (.inr (a0, (4 : Int)))) else
 (vat a0.sender a1.Msg).bind fun x27 =>
 Let ({ a0 with sender := a0.sender.setIfInBounds a1.Msg.toNat (w64 (a1.Proc + (1 : Int))) } : Checker) fun p30 =>
 some (.inl p30)) else
 bif a1.Kind == (3 : Int) then ((vat a0.sender a1.Msg).bind fun x33 =>
 (bif x33 == (0 : Int) then (some true) else
 (vat a0.sender a1.Msg).bind fun x39 =>
 some (x39 == (w64 (a1.Proc + (1 : Int))))).bind fun y37 =>
 (bif y37 then (some true) else
 (vat a0.taken a1.Msg).bind fun x45 =>
 (vat x45 a1.Proc).bind fun x48 =>
 some x48).bind fun y43 =>
 bif y43 then (some (.inr (a0, (4 : Int)))) else
 (vat a0.taken a1.Msg).bind fun x52 =>
 (vat x52 a1.Proc).bind fun x55 =>
 Let ({ a0 with taken := a0.taken.setIfInBounds a1.Msg.toNat (x52.setIfInBounds a1.Proc.toNat true) } : Checker) fun p58 =>
 some (.inl p58)) else
 some (.inr (a0, (4 : Int)))) fun y18 =>
 some (y18, (0 : Int))
def stamp_Check_B0 (a0 : List Event) (i4 : Nat) (z4 : Checker) : Option (Ctl Checker Int) :=
 (lat a0 (i4 : Int)).bind fun x8 =>
 (stamp_checker_event z4 x8).bind fun r13 =>
 bif r13.2 != (0 : Int) then (some (.ret r13.2)) else
 some (.go r13.1)
def stamp_Check (a0 : List Event) : Option Int :=
 bif decide ((a0.length : Int) > (60 : Int)) then (some (2 : Int)) else
 andThen (rangeM (stamp_Check_B0 a0) a0.length 0 Checker.zero) fun y5 =>
 some (0 : Int)
def parttop_historyOf_B0 (a0 : List Event) (i3 : Nat) (z3 : (List Event)) : Option (List Event) :=
 (lat a0 (i3 : Int)).bind fun x8 =>
 (slices_Clone_api_Event_api_Event z3).bind fun r13 =>
 Let (([x8] : List Event), r13) fun (l23, l25) =>
 (room l25 l23).bind fun u38 =>
 (stamp_Check (l25 ++ l23)).bind fun r41 =>
 bif r41 == (0 : Int) then ((room z3 ([x8] : List Event)).bind fun u48 =>
 some (z3 ++ ([x8] : List Event))) else
 some z3
def parttop_historyOf (a0 : List Event) : Option (List Event) :=
 (rangeF (parttop_historyOf_B0 a0) a0.length 0 ([] : List Event)).bind fun l5 =>
 some l5
def vect_Max_B0 (a1 : Vector Int 6) (i7 : Nat) (z7 : (Vector Int 6)) : Option (Vector Int 6) :=
 (vat z7 (i7 : Int)).bind fun x11 =>
 (vat a1 (i7 : Int)).bind fun x14 =>
 (vat z7 (i7 : Int)).bind fun x17 =>
 Let (z7.setIfInBounds (i7 : Int).toNat (max x11 x14)) fun p20 =>
 some p20
def vect_Max (a0 : Vector Int 6) (a1 : Vector Int 6) : Option (Vector Int 6) :=
 (rangeF (vect_Max_B0 a1) 6 0 a0).bind fun y8 =>
 some y8
def vect_Vectors_B0 (a0 : List Event) (i15 : Nat) (z15 : (Vector (Vector Int 6) 30) × (Vector (Vector Int 6) 6) × (Vector Int 6) × (List (Vector Int 6))) : Option ((Vector (Vector Int 6) 30) × (Vector (Vector Int 6) 6) × (Vector Int 6) × (List (Vector Int 6))) :=
 (lat a0 (i15 : Int)).bind fun x23 =>
 (vat z15.2.1 x23.Proc).bind fun x28 =>
 (bif x23.Kind == (3 : Int) then ((vat z15.1 x23.Msg).bind fun x36 =>
 (vect_Max x28 x36).bind fun r39 =>
 some r39) else
 some x28).bind fun y33 =>
 (vat z15.2.2.1 x23.Proc).bind fun x45 =>
 (vat z15.2.2.1 x23.Proc).bind fun x48 =>
 Let (z15.2.2.1.setIfInBounds x23.Proc.toNat (w64 (x45 + (1 : Int)))) fun p51 =>
 (vat p51 x23.Proc).bind fun x53 =>
 (vat y33 x23.Proc).bind fun x56 =>
 Let (y33.setIfInBounds x23.Proc.toNat x53) fun p59 =>
 (vat z15.2.1 x23.Proc).bind fun x61 =>
 Let (z15.2.1.setIfInBounds x23.Proc.toNat p59) fun p64 =>
 (bif x23.Kind == (2 : Int) then ((vat z15.1 x23.Msg).bind fun x69 =>
 Let (z15.1.setIfInBounds x23.Msg.toNat p59) fun p72 =>
 some p72) else
 some z15.1).bind fun y66 =>
 (room z15.2.2.2 ([p59] : List (Vector Int 6))).bind fun u78 =>
 some (y66, p64, p51, z15.2.2.2 ++ ([p59] : List (Vector Int 6)))
def vect_Vectors (a0 : List Event) : Option ((List (Vector Int 6)) × Int) :=
 (stamp_Check a0).bind fun r2 =>
 bif r2 != (0 : Int) then (some (([] : List (Vector Int 6)), r2)) else
 (rangeF (vect_Vectors_B0 a0) a0.length 0 ((Vector.replicate 30 (Vector.replicate 6 (0 : Int))), (Vector.replicate 6 (Vector.replicate 6 (0 : Int))), (Vector.replicate 6 (0 : Int)), ([] : List (Vector Int 6)))).bind fun (y16, y17, y18, l20) =>
 some (l20, (0 : Int))
def parttop_grown : Option Bool :=
 (parttop_historyOf ([({ Event.zero with Kind := (2 : Int) } : Event), ({ Event.zero with Proc := (1 : Int), Kind := (3 : Int) } : Event), ({ Event.zero with Proc := (1 : Int), Kind := (3 : Int) } : Event), ({ Event.zero with Proc := (2 : Int), Kind := (1 : Int) } : Event)] : List Event)).bind fun r3 =>
 (vect_Vectors r3).bind fun r9 =>
 (bif (r3.length : Int) == (3 : Int) then (some (r9.2 == (0 : Int))) else
 some false).bind fun y16 =>
 (bif y16 then (some ((r9.1.length : Int) == (3 : Int))) else
 some false).bind fun y21 =>
 (bif y21 then ((lat r9.1 (1 : Int)).bind fun x28 =>
 some (decide (x28 = ((((Vector.replicate 6 (0 : Int)).setIfInBounds 0 (1 : Int)).setIfInBounds 1 (1 : Int)) : Vector Int 6)))) else
 some false).bind fun y26 =>
 some y26
def stamp_Ahead_B4 (i16 : Nat) (i45 : Nat) (i78 : Nat) (z78 : (List (List Bool))) : Option (List (List Bool)) :=
 (lat z78 (i45 : Int)).bind fun x85 =>
 (lat x85 (i78 : Int)).bind fun x89 =>
 (lat z78 (i16 : Int)).bind fun x92 =>
 (lat z78 (i16 : Int)).bind fun x97 =>
 (lat x97 (i78 : Int)).bind fun x102 =>
 (bif x102 then (some true) else
 some x89).bind fun y106 =>
 (lat x92 (i78 : Int)).bind fun x108 =>
 Let (z78.set (i16 : Int).toNat (x92.set (i78 : Int).toNat y106)) fun p111 =>
 some p111
def stamp_Ahead_B4x (i16 : Nat) (i45 : Nat) (i145 : Nat) (z145 : (List (List Bool))) : Option (List (List Bool)) :=
 (lat z145 (i45 : Int)).bind fun x152 =>
 (lat x152 (i145 : Int)).bind fun x156 =>
 (lat z145 (i16 : Int)).bind fun x159 =>
 (lat z145 (i16 : Int)).bind fun x164 =>
 (lat x164 (i145 : Int)).bind fun x169 =>
 (bif x169 then (some true) else
 some x156).bind fun y173 =>
 (lat x159 (i145 : Int)).bind fun x175 =>
 Let (z145.set (i16 : Int).toNat (x159.set (i145 : Int).toNat y173)) fun p178 =>
 some p178
def stamp_Ahead_B2 (i16 : Nat) (x22 : Event) (m40 : List Event) (i45 : Nat) (z45 : (List (List Bool))) : Option (List (List Bool)) :=
 ((lat m40 (i45 : Int)).bind fun x55 =>
 bif x55.Proc != x22.Proc then ((bif x55.Kind == (2 : Int) then (some (x22.Kind == (3 : Int))) else
 some false).bind fun y118 =>
 (bif y118 then (some (x55.Msg == x22.Msg)) else
 some false).bind fun y123 =>
 bif !y123 then (some z45) else
 (lat z45 (i16 : Int)).bind fun x128 =>
 (lat x128 (i45 : Int)).bind fun x133 =>
 Let (z45.set (i16 : Int).toNat (x128.set (i45 : Int).toNat true)) fun p136 =>
 (lat p136 (i45 : Int)).bind fun x140 =>
 (rangeF (stamp_Ahead_B4x i16 i45) x140.length 0 p136).bind fun l146 =>
 some l146) else
 (lat z45 (i16 : Int)).bind fun x61 =>
 (lat x61 (i45 : Int)).bind fun x66 =>
 Let (z45.set (i16 : Int).toNat (x61.set (i45 : Int).toNat true)) fun p69 =>
 (lat p69 (i45 : Int)).bind fun x73 =>
 (rangeF (stamp_Ahead_B4 i16 i45) x73.length 0 p69).bind fun l79 =>
 some l79).bind fun l51 =>
 some l51
def stamp_Ahead_B8 (l17 : List (List Bool)) (i188 : Nat) (i193 : Nat) (z193 : (List Pair)) : Option (List Pair) :=
 (lat l17 (i193 : Int)).bind fun x198 =>
 (lat x198 (i188 : Int)).bind fun x203 =>
 bif x203 then ((room z193 ([({ Pair.zero with A := (i188 : Int), B := (i193 : Int) } : Pair)] : List Pair)).bind fun u209 =>
 some (z193 ++ ([({ Pair.zero with A := (i188 : Int), B := (i193 : Int) } : Pair)] : List Pair))) else
 some z193
def stamp_Ahead_B6 (a0 : List Event) (l17 : List (List Bool)) (i188 : Nat) (z188 : (List Pair)) : Option (List Pair) :=
 (rangeF (stamp_Ahead_B8 l17 i188) a0.length 0 z188).bind fun l195 =>
 some l195
def stamp_Ahead_B0 (a0 : List Event) (i16 : Nat) (z16 : (List (List Bool))) : Option (List (List Bool)) :=
 (lat a0 (i16 : Int)).bind fun x22 =>
 (mkLen (a0.length : Int)).bind fun n27 =>
 (lat z16 (i16 : Int)).bind fun x32 =>
 Let (z16.set (i16 : Int).toNat (List.replicate n27 false)) fun p37 =>
 (cutL a0 0 (i16 : Int)).bind fun m40 =>
 (rangeF (stamp_Ahead_B2 i16 x22 m40) m40.length 0 p37).bind fun l46 =>
 some l46
def stamp_Ahead (a0 : List Event) : Option ((List Pair) × Int) :=
 (stamp_Check a0).bind fun r2 =>
 bif r2 != (0 : Int) then (some (([] : List Pair), r2)) else
 (mkLen (a0.length : Int)).bind fun n8 =>
 (rangeF (stamp_Ahead_B0 a0) a0.length 0 (List.replicate n8 ([] : List Bool))).bind fun l17 =>
 (rangeF (stamp_Ahead_B6 a0 l17) a0.length 0 ([] : List Pair)).bind fun l190 =>
 some (l190, (0 : Int))
def match_in (a0 : Int) (a1 : Int) (a2 : Int) : Option Bool :=
 (bif decide (a0 ≥ a1) then (some (decide (a0 ≤ a2))) else
 some false).bind fun y2 =>
 some y2
def match_Check_1 (a0 : Pair) (a1 : Int) (a2 : Int) : Option Bool :=
 (match_in a0.A (0 : Int) (w64 (a1 - (1 : Int)))).bind fun r5 =>
 (bif !r5 then (some true) else
 (match_in a0.B (0 : Int) (w64 (a2 - (1 : Int)))).bind fun r12 =>
 some (!r12)).bind fun y10 =>
 some y10
def slices_IndexFunc_api_Pair_api_Pair_Check_1_B0 (a0 : List Pair) (a1_c0 : Int) (a1_c1 : Int) (i3 : Nat) (z3 : Unit) : Option (Ctl Unit Int) :=
 (lat a0 (i3 : Int)).bind fun x6 =>
 (match_Check_1 x6 a1_c0 a1_c1).bind fun r9 =>
 bif r9 then (some (.ret (i3 : Int))) else
 some (.go ())
def slices_IndexFunc_api_Pair_api_Pair_Check_1 (a0 : List Pair) (a1_c0 : Int) (a1_c1 : Int) : Option Int :=
 andThen (rangeM (slices_IndexFunc_api_Pair_api_Pair_Check_1_B0 a0 a1_c0 a1_c1) a0.length 0 ()) fun _ =>
 some (-1 : Int)
def slices_ContainsFunc_api_Pair_api_Pair_Check_1 (a0 : List Pair) (a1_c0 : Int) (a1_c1 : Int) : Option Bool :=
 (slices_IndexFunc_api_Pair_api_Pair_Check_1 a0 a1_c0 a1_c1).bind fun r3 =>
 some (decide (r3 ≥ (0 : Int)))
def match_Check (a0 : Int) (a1 : Int) (a2 : List Pair) : Option Int :=
 (match_in a0 (0 : Int) (40 : Int)).bind fun r5 =>
 (bif !r5 then (some true) else
 (match_in a1 (0 : Int) (40 : Int)).bind fun r12 =>
 some (!r12)).bind fun y10 =>
 bif y10 then (some (1 : Int)) else
 bif decide ((a2.length : Int) > (600 : Int)) then (some (2 : Int)) else
 (slices_ContainsFunc_api_Pair_api_Pair_Check_1 a2 a0 a1).bind fun r20 =>
 bif r20 then (some (4 : Int)) else
 some (0 : Int)
def poset_closed_B6 (i24 : Nat) (i29 : Nat) (i34 : Nat) (z34 : (Vector (Vector Bool 20) 20)) : Option (Vector (Vector Bool 20) 20) :=
 (vat z34 (i29 : Int)).bind fun x39 =>
 (vat x39 (i34 : Int)).bind fun x42 =>
 (bif x42 then (some true) else
 (vat z34 (i29 : Int)).bind fun x48 =>
 (vat x48 (i24 : Int)).bind fun x51 =>
 (bif x51 then ((vat z34 (i24 : Int)).bind fun x57 =>
 (vat x57 (i34 : Int)).bind fun x60 =>
 some x60) else
 some false).bind fun y55 =>
 some y55).bind fun y46 =>
 (vat z34 (i29 : Int)).bind fun x63 =>
 (vat x63 (i34 : Int)).bind fun x66 =>
 Let (z34.setIfInBounds (i29 : Int).toNat (x63.setIfInBounds (i34 : Int).toNat y46)) fun p69 =>
 some p69
def poset_closed_B4 (a0 : Poset) (i24 : Nat) (i29 : Nat) (z29 : (Vector (Vector Bool 20) 20)) : Option (Vector (Vector Bool 20) 20) :=
 (upTo a0.N).bind fun nn38 =>
 (rangeF (poset_closed_B6 i24 i29) nn38 0 z29).bind fun y35 =>
 some y35
def poset_closed_B2 (a0 : Poset) (i24 : Nat) (z24 : (Vector (Vector Bool 20) 20)) : Option (Vector (Vector Bool 20) 20) :=
 (upTo a0.N).bind fun nn33 =>
 (rangeF (poset_closed_B4 a0 i24) nn33 0 z24).bind fun y30 =>
 some y30
def poset_closed_B0 (a0 : Poset) (i7 : Nat) (z7 : (Vector (Vector Bool 20) 20)) : Option (Vector (Vector Bool 20) 20) :=
 (lat a0.Pairs (i7 : Int)).bind fun x11 =>
 (vat z7 x11.A).bind fun x16 =>
 (vat x16 x11.B).bind fun x19 =>
 Let (z7.setIfInBounds x11.A.toNat (x16.setIfInBounds x11.B.toNat true)) fun p22 =>
 some p22
def poset_closed (a0 : Poset) : Option (Vector (Vector Bool 20) 20) :=
 (rangeF (poset_closed_B0 a0) a0.Pairs.length 0 (Vector.replicate 20 (Vector.replicate 20 false))).bind fun y8 =>
 (upTo a0.N).bind fun nn28 =>
 (rangeF (poset_closed_B2 a0) nn28 0 y8).bind fun y25 =>
 some y25
def poset_check_B0 (r16 : (Vector (Vector Bool 20) 20)) (i22 : Nat) (z22 : Unit) : Option (Ctl Unit ((Vector (Vector Bool 20) 20) × Int)) :=
 (vat r16 (i22 : Int)).bind fun x26 =>
 (vat x26 (i22 : Int)).bind fun x29 =>
 bif x29 then (some (.ret (((Vector.replicate 20 (Vector.replicate 20 false)) : Vector (Vector Bool 20) 20), (9 : Int)))) else
 some (.go ())
def poset_check (a0 : Poset) : Option ((Vector (Vector Bool 20) 20) × Int) :=
 (bif decide (a0.N < (0 : Int)) then (some true) else
 some (decide (a0.N > (20 : Int)))).bind fun y6 =>
 bif y6 then (some (((Vector.replicate 20 (Vector.replicate 20 false)) : Vector (Vector Bool 20) 20), (1 : Int))) else
 (match_Check a0.N a0.N a0.Pairs).bind fun r11 =>
 bif r11 != (0 : Int) then (some (((Vector.replicate 20 (Vector.replicate 20 false)) : Vector (Vector Bool 20) 20), r11)) else
 (poset_closed a0).bind fun r16 =>
 (upTo a0.N).bind fun nn25 =>
 andThen (rangeM (poset_check_B0 r16) nn25 0 ()) fun _ =>
 some (r16, (0 : Int))
def poset_order_all_1 (a0 : Int) (a1 : Int) : Option Bool :=
 some true
def poset_order_pairs_all_1_B2 (a0 : Vector (Vector Bool 20) 20) (i5 : Nat) (i11 : Nat) (z11 : (List Pair)) : Option (List Pair) :=
 (vat a0 (i5 : Int)).bind fun x17 =>
 (vat x17 (i11 : Int)).bind fun x20 =>
 (bif x20 then ((poset_order_all_1 (i5 : Int) (i11 : Int)).bind fun r26 =>
 some r26) else
 some false).bind fun y24 =>
 bif y24 then ((room z11 ([({ Pair.zero with A := (i5 : Int), B := (i11 : Int) } : Pair)] : List Pair)).bind fun u35 =>
 some (z11 ++ ([({ Pair.zero with A := (i5 : Int), B := (i11 : Int) } : Pair)] : List Pair))) else
 some z11
def poset_order_pairs_all_1_B0 (a0 : Vector (Vector Bool 20) 20) (a1 : Int) (i5 : Nat) (z5 : (List Pair)) : Option (List Pair) :=
 (upTo a1).bind fun nn16 =>
 (rangeF (poset_order_pairs_all_1_B2 a0 i5) nn16 0 z5).bind fun l13 =>
 some l13
def poset_order_pairs_all_1 (a0 : Vector (Vector Bool 20) 20) (a1 : Int) : Option (List Pair) :=
 (upTo a1).bind fun nn10 =>
 (rangeF (poset_order_pairs_all_1_B0 a0 a1) nn10 0 ([] : List Pair)).bind fun l7 =>
 some l7
def poset_order_all (a0 : Vector (Vector Bool 20) 20) (a1 : Int) : Option (List Pair) :=
 (poset_order_pairs_all_1 a0 a1).bind fun r4 =>
 some r4
def poset_Close (a0 : Poset) : Option ((List Pair) × Int) :=
 (poset_check a0).bind fun r4 =>
 bif r4.2 != (0 : Int) then (some (([] : List Pair), r4.2)) else
 (poset_order_all r4.1 a0.N).bind fun r12 =>
 some (r12, (0 : Int))
def lat_Downs_B4 (y17 : Vector (BitVec 16) 12) (y41 : BitVec 16) (i47 : Nat) (z47 : Bool) : Option Bool :=
 bif z47 then ((cnt (i47 : Int)).bind fun n53 =>
 (bif (((y41 >>> n53) &&& (1 : BitVec 16)).toNat : Int) == ((0 : BitVec 16).toNat : Int) then (some true) else
 (vat y17 (i47 : Int)).bind fun x59 =>
 some (((x59 &&& ~~~y41).toNat : Int) == ((0 : BitVec 16).toNat : Int))).bind fun y57 =>
 some y57) else
 some false
def lat_Downs_B2 (a0 : Poset) (y17 : Vector (BitVec 16) 12) (n37 : Nat) (z40 : (BitVec 16) × (List (BitVec 16))) : Option (Ctl ((BitVec 16) × (List (BitVec 16))) ((List (BitVec 16)) × Int)) :=
 bif decide ((z40.1.toNat : Int) < (((1 : BitVec 16) <<< n37).toNat : Int)) then ((upTo a0.N).bind fun nn51 =>
 (rangeF (lat_Downs_B4 y17 z40.1) nn51 0 true).bind fun y48 =>
 bif y48 then ((room z40.2 ([z40.1] : List (BitVec 16))).bind fun u67 =>
 some (.go (z40.1 + (1 : BitVec 16), z40.2 ++ ([z40.1] : List (BitVec 16))))) else
 some (.go (z40.1 + (1 : BitVec 16), z40.2))) else
 some (.brk (z40.1, z40.2))
def lat_Downs_B0 (r4 : (List Pair) × Int) (i16 : Nat) (z16 : (Vector (BitVec 16) 12)) : Option (Vector (BitVec 16) 12) :=
 (lat r4.1 (i16 : Int)).bind fun x20 =>
 (vat z16 x20.B).bind fun x25 =>
 (cnt x20.A).bind fun n28 =>
 (vat z16 x20.B).bind fun x31 =>
 Let (z16.setIfInBounds x20.B.toNat (x25 ||| ((1 : BitVec 16) <<< n28))) fun p34 =>
 some p34
def lat_Downs (fu : Nat) (a0 : Poset) : Option ((List (BitVec 16)) × Int) :=
 (poset_Close a0).bind fun r4 =>
 bif r4.2 != (0 : Int) then (some (([] : List (BitVec 16)), r4.2)) else
 bif decide (a0.N > (12 : Int)) then (some (([] : List (BitVec 16)), (2 : Int))) else
 (rangeF (lat_Downs_B0 r4) r4.1.length 0 (Vector.replicate 12 (0 : BitVec 16))).bind fun y17 =>
 (cnt a0.N).bind fun n37 =>
 andThen (whileM (lat_Downs_B2 a0 y17 n37) fu ((0 : BitVec 16), ([] : List (BitVec 16)))) fun (y41, l43) =>
 some (l43, (0 : Int))
def cut_counts_B0 (a0 : List Event) (i5 : Nat) (z5 : (Vector Int 6)) : Option (Vector Int 6) :=
 (lat a0 (i5 : Int)).bind fun x9 =>
 (vat z5 x9.Proc).bind fun x14 =>
 (vat z5 x9.Proc).bind fun x17 =>
 Let (z5.setIfInBounds x9.Proc.toNat (w64 (x14 + (1 : Int)))) fun p20 =>
 some p20
def cut_counts (a0 : List Event) : Option (Vector Int 6) :=
 (rangeF (cut_counts_B0 a0) a0.length 0 (Vector.replicate 6 (0 : Int))).bind fun y6 =>
 some y6
def cut_vectors_B0 (a0 : List Event) (r9 : (List (Vector Int 6)) × Int) (i15 : Nat) (z15 : (Vector (List (Vector Int 6)) 6)) : Option (Vector (List (Vector Int 6)) 6) :=
 (lat a0 (i15 : Int)).bind fun x22 =>
 (vat z15 x22.Proc).bind fun x27 =>
 (lat r9.1 (i15 : Int)).bind fun x31 =>
 (room x27 ([x31] : List (Vector Int 6))).bind fun u37 =>
 Let (x27 ++ ([x31] : List (Vector Int 6))) fun l42 =>
 (vat z15 x22.Proc).bind fun x52 =>
 Let (z15.setIfInBounds x22.Proc.toNat l42) fun p56 =>
 some p56
def cut_vectors (a0 : List Event) : Option (Vector (List (Vector Int 6)) 6) :=
 (vect_Vectors a0).bind fun r9 =>
 (rangeF (cut_vectors_B0 a0 r9) a0.length 0 (Vector.replicate 6 [] : Vector (List (Vector Int 6)) 6)).bind fun l17 =>
 some l17
def cut_grown_B0 (a0 : Vector (List (Vector Int 6)) 6) (a1 : Vector Int 6) (i9 : Nat) (z9 : (Vector Int 6)) : Option (Vector Int 6) :=
 (vat a1 (i9 : Int)).bind fun x13 =>
 bif decide (x13 > (0 : Int)) then ((vat a0 (i9 : Int)).bind fun x17 =>
 (lat x17 (w64 (x13 - (1 : Int)))).bind fun x21 =>
 (vect_Max z9 x21).bind fun r24 =>
 some r24) else
 some z9
def cut_grown (a0 : Vector (List (Vector Int 6)) 6) (a1 : Vector Int 6) : Option (Vector Int 6) :=
 (rangeF (cut_grown_B0 a0 a1) 6 0 a1).bind fun y10 =>
 some y10
def cut_All_B4 (r8 : (Vector Int 6)) (z63 : Int × (Vector Int 6)) : Option (Ctl (Int × (Vector Int 6)) ((Vector Int 6) × (List (Vector Int 6)))) :=
 bif decide (z63.1 ≥ (0 : Int)) then ((vat z63.2 z63.1).bind fun x69 =>
 (vat r8 z63.1).bind fun x72 =>
 bif decide (x69 < x72) then ((vat z63.2 z63.1).bind fun x76 =>
 (vat z63.2 z63.1).bind fun x79 =>
 Let (z63.2.setIfInBounds z63.1.toNat (w64 (x76 + (1 : Int)))) fun p82 =>
 some (.brk (z63.1, p82))) else
 (vat z63.2 z63.1).bind fun x84 =>
 Let (z63.2.setIfInBounds z63.1.toNat (0 : Int)) fun p87 =>
 some (.go (w64 (z63.1 - (1 : Int)), p87))) else
 some (.brk (z63.1, z63.2))
def cut_All_B2 (fu : Nat) (r8 : (Vector Int 6)) (r23 : (Vector (List (Vector Int 6)) 6)) (i37 : Nat) (z37 : (Vector Int 6) × (List (Vector Int 6))) : Option ((Vector Int 6) × (List (Vector Int 6))) :=
 (((cut_grown r23 z37.1).bind fun r51 =>
 bif decide (r51 = z37.1) then ((room z37.2 ([z37.1] : List (Vector Int 6))).bind fun u58 =>
 some (z37.2 ++ ([z37.1] : List (Vector Int 6)))) else
 some z37.2).bind fun l49 =>
 andThen (whileM (cut_All_B4 r8) fu ((5 : Int), z37.1)) fun (y64, y65) =>
 some (y65, l49)).bind fun (y44, l46) =>
 some (y44, l46)
def cut_All_B0 (r8 : (Vector Int 6)) (i14 : Nat) (z14 : Int) : Option Int :=
 (vat r8 (i14 : Int)).bind fun x18 =>
 some (w64 (z14 * (w64 (x18 + (1 : Int)))))
def cut_All (fu : Nat) (a0 : List Event) : Option ((List (Vector Int 6)) × Int) :=
 (stamp_Check a0).bind fun r2 =>
 bif r2 != (0 : Int) then (some (([] : List (Vector Int 6)), r2)) else
 (cut_counts a0).bind fun r8 =>
 (rangeF (cut_All_B0 r8) 6 0 (1 : Int)).bind fun y15 =>
 bif decide (y15 > (4096 : Int)) then (some (([] : List (Vector Int 6)), (2 : Int))) else
 (cut_vectors a0).bind fun r23 =>
 (upTo y15).bind fun nn43 =>
 (rangeF (cut_All_B2 fu r8 r23) nn43 0 ((Vector.replicate 6 (0 : Int)), ([] : List (Vector Int 6)))).bind fun (y38, l40) =>
 some (l40, (0 : Int))
def parttop_TopLattice (fu : Nat) (a0 : List Event) : Option Bool :=
 parttop_grown.bind fun r1 =>
 bif !r1 then (some false) else
 (parttop_historyOf a0).bind fun r6 =>
 (bif decide ((r6.length : Int) > (12 : Int)) then ((cutL r6 0 (12 : Int)).bind fun m16 =>
 some m16) else
 some r6).bind fun l13 =>
 (stamp_Ahead l13).bind fun r23 =>
 bif r23.2 != (0 : Int) then (some false) else
 (lat_Downs fu ({ Poset.zero with N := (l13.length : Int), Pairs := r23.1 } : Poset)).bind fun r30 =>
 (cut_All fu l13).bind fun r36 =>
 (bif r30.2 == (0 : Int) then (some (r36.2 == (0 : Int))) else
 some false).bind fun y43 =>
 (bif y43 then (some ((r30.1.length : Int) == (r36.1.length : Int))) else
 some false).bind fun y48 =>
 some y48
end Go.Proofs.Ytclmlddmgccfjaa
