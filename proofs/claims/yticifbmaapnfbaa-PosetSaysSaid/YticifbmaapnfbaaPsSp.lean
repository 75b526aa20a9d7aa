/-
  What the functions compute, typed; printed by a program.
-/
import Derived.Test.YticifbmaapnfbaaGoI
import Derived.Test.YticifbmaapnfbaaGoM
import Derived.Test.YticifbmaapnfbaaGoS
namespace Go.Proofs.Yticifbmaapnfbaa
open Go.RowKit Enc
set_option linter.unusedVariables false
set_option linter.unusedSimpArgs false
structure Pair where
  A : Int
  B : Int
instance : DecidableEq Pair := fun a b => decidable_of_iff (a.A = b.A ∧ a.B = b.B) (by cases a; cases b; simp)
def Pair.zero : Pair := ⟨(0 : Int), (0 : Int)⟩
instance : Enc Pair := ⟨fun p => enc p.A ++ (enc p.B), 2, fun p => by simp only [List.length_append, Enc.len]; rfl, fun p => by simp only [List.all_append, Enc.one, Bool.and_self]⟩
theorem Pair.get_A {p : Pair} {k : Nat} {ch : List Value} (h : Get (enc p.A) k ch) : Get (enc p) (0 + k) ch := Get.off (Get.left h) (by omega)
theorem Pair.put_A {p : Pair} {k : Nat} {vs : List Value} {y : Int} (h : Put (enc p.A) k vs (enc y)) : Put (enc p) (0 + k) vs (enc ({ p with A := y } : Pair)) := Put.off (cs' := enc ({ p with A := y } : Pair)) (Put.left h) (by omega)
theorem Pair.get_B {p : Pair} {k : Nat} {ch : List Value} (h : Get (enc p.B) k ch) : Get (enc p) (1 + k) ch := Get.off (Get.right (m := 1) (Enc.len _) h) (by omega)
theorem Pair.put_B {p : Pair} {k : Nat} {vs : List Value} {y : Int} (h : Put (enc p.B) k vs (enc y)) : Put (enc p) (1 + k) vs (enc ({ p with B := y } : Pair)) := Put.off (cs' := enc ({ p with B := y } : Pair)) (Put.right (m := 1) (Enc.len _) h) (by omega)
instance : Rng Pair := ⟨fun p => Rng.ok p.A ∧ Rng.ok p.B⟩
structure Poset where
  N : Int
  Pairs : List Pair
instance : DecidableEq Poset := fun a b => decidable_of_iff (a.N = b.N ∧ a.Pairs = b.Pairs) (by cases a; cases b; simp)
def Poset.zero : Poset := ⟨(0 : Int), []⟩
instance : Rng Poset := ⟨fun p => Rng.ok p.N ∧ Rng.ok p.Pairs⟩
def partref_PairsErr_B0 (a0 : Int) (a1 : Int) (a2 : List Pair) (i8 : Nat) (z8 : Unit) : Option (Ctl Unit Int) :=
 (lat a2 (i8 : Int)).bind fun x11 =>
 (bif decide (x11.A < (0 : Int)) then (some true) else
 some (decide (x11.B < (0 : Int)))).bind fun y17 =>
 (bif y17 then (some true) else
 some (decide (x11.A ≥ a0))).bind fun y22 =>
 (bif y22 then (some true) else
 some (decide (x11.B ≥ a1))).bind fun y27 =>
 bif y27 then (some (.ret (4 : Int))) else
 some (.go ())
def partref_PairsErr (a0 : Int) (a1 : Int) (a2 : List Pair) : Option Int :=
 (bif decide ((min a0 a1) < (0 : Int)) then (some true) else
 some (decide ((max a0 a1) > (40 : Int)))).bind fun y2 =>
 bif y2 then (some (1 : Int)) else
 bif decide ((a2.length : Int) > (600 : Int)) then (some (2 : Int)) else
 andThen (rangeM (partref_PairsErr_B0 a0 a1 a2) a2.length 0 ()) fun _ =>
 some (0 : Int)
def partref_Closure_B4 (a1 : List Pair) (i11 : Nat) (x42 : Int) (i50 : Nat) (z50 : (List Int) × (List (List Bool))) : Option ((List Int) × (List (List Bool))) :=
 (lat a1 (i50 : Int)).bind fun x58 =>
 (bif x58.A == x42 then ((lat z50.2 (i11 : Int)).bind fun x66 =>
 (lat x66 x58.B).bind fun x71 =>
 some (!x71)) else
 some false).bind fun y64 =>
 bif y64 then ((lat z50.2 (i11 : Int)).bind fun x75 =>
 (lat x75 x58.B).bind fun x80 =>
 Let (z50.2.set (i11 : Int).toNat (x75.set x58.B.toNat true)) fun p83 =>
 (room z50.1 ([x58.B] : List Int)).bind fun u89 =>
 some (z50.1 ++ ([x58.B] : List Int), p83)) else
 some (z50.1, z50.2)
def partref_Closure_B2 (a1 : List Pair) (i11 : Nat) (z33 : (List Int) × (List (List Bool))) : Option (Ctl ((List Int) × (List (List Bool))) (List (List Bool))) :=
 bif decide ((z33.1.length : Int) > (0 : Int)) then ((lat z33.1 (0 : Int)).bind fun x42 =>
 (cutL z33.1 (1 : Int) (z33.1.length : Int)).bind fun m45 =>
 (rangeF (partref_Closure_B4 a1 i11 x42) a1.length 0 (m45, z33.2)).bind fun (l52, l53) =>
 some (.go (l52, l53))) else
 some (.brk (z33.1, z33.2))
def partref_Closure_B0 (fu : Nat) (a0 : Int) (a1 : List Pair) (i11 : Nat) (z11 : (List (List Bool))) : Option (List (List Bool)) :=
 (mkLen a0).bind fun n18 =>
 (lat z11 (i11 : Int)).bind fun x23 =>
 Let (z11.set (i11 : Int).toNat (List.replicate n18 false)) fun p28 =>
 andThen (whileM (partref_Closure_B2 a1 i11) fu (([(i11 : Int)] : List Int), p28)) fun (l35, l36) =>
 some l36
def partref_Closure (fu : Nat) (a0 : Int) (a1 : List Pair) : Option (List (List Bool)) :=
 (mkLen a0).bind fun n3 =>
 (upTo a0).bind fun nn17 =>
 (rangeF (partref_Closure_B0 fu a0 a1) nn17 0 (List.replicate n3 ([] : List Bool))).bind fun l12 =>
 some l12
def partref_PosetErr_B0 (r14 : (List (List Bool))) (i24 : Nat) (z24 : Unit) : Option (Ctl Unit Int) :=
 (lat r14 (i24 : Int)).bind fun x27 =>
 (lat x27 (i24 : Int)).bind fun x32 =>
 bif x32 then (some (.ret (9 : Int))) else
 some (.go ())
def partref_PosetErr (fu : Nat) (a0 : Poset) : Option Int :=
 (bif decide (a0.N < (0 : Int)) then (some true) else
 some (decide (a0.N > (20 : Int)))).bind fun y4 =>
 bif y4 then (some (1 : Int)) else
 (partref_PairsErr a0.N a0.N a0.Pairs).bind fun r9 =>
 bif r9 != (0 : Int) then (some r9) else
 (partref_Closure fu a0.N a0.Pairs).bind fun r14 =>
 andThen (rangeM (partref_PosetErr_B0 r14) r14.length 0 ()) fun _ =>
 some (0 : Int)
def match_in (a0 : Int) (a1 : Int) (a2 : Int) : Option Bool :=
 (bif decide (a0 ≥ a1) then (some (decide (a0 ≤ a2))) else
 some false).bind fun y2 =>
 some y2
def match_Check_1 (a0 : Pair) (a1 : Int) (a2 : Int) : Option Bool :=
 (match_in a0.A (0 : Int) (w64 (a1 - (1 : Int)))).bind fun r5 =>
 (bif !r5 then (some true) else
 (match_in a0.B (0 : Int) (w64 (a2 - (1 : Int)))).bind fun r12 =>
 some (!r12)).bind fun y10 =>
 some y10
def slices_IndexFunc_api_Pair_api_Pair_Check_1_B0 (a0 : List Pair) (a1_c0 : Int) (a1_c1 : Int) (i3 : Nat) (z3 : Unit) : Option (Ctl Unit Int) :=
 (lat a0 (i3 : Int)).bind fun x6 =>
 (match_Check_1 x6 a1_c0 a1_c1).bind fun r9 =>
 bif r9 then (some (.ret (i3 : Int))) else
 some (.go ())
def slices_IndexFunc_api_Pair_api_Pair_Check_1 (a0 : List Pair) (a1_c0 : Int) (a1_c1 : Int) : Option Int :=
 andThen (rangeM (slices_IndexFunc_api_Pair_api_Pair_Check_1_B0 a0 a1_c0 a1_c1) a0.length 0 ()) fun _ =>
 some (-1 : Int)
def slices_ContainsFunc_api_Pair_api_Pair_Check_1 (a0 : List Pair) (a1_c0 : Int) (a1_c1 : Int) : Option Bool :=
 (slices_IndexFunc_api_Pair_api_Pair_Check_1 a0 a1_c0 a1_c1).bind fun r3 =>
 some (decide (r3 ≥ (0 : Int)))
def match_Check (a0 : Int) (a1 : Int) (a2 : List Pair) : Option Int :=
 (match_in a0 (0 : Int) (40 : Int)).bind fun r5 =>
 (bif !r5 then (some true) else
 (match_in a1 (0 : Int) (40 : Int)).bind fun r12 =>
 some (!r12)).bind fun y10 =>
 bif y10 then (some (1 : Int)) else
 bif decide ((a2.length : Int) > (600 : Int)) then (some (2 : Int)) else
 (slices_ContainsFunc_api_Pair_api_Pair_Check_1 a2 a0 a1).bind fun r20 =>
 bif r20 then (some (4 : Int)) else
 some (0 : Int)
def poset_closed_B6 (i24 : Nat) (i29 : Nat) (i34 : Nat) (z34 : (Vector (Vector Bool 20) 20)) : Option (Vector (Vector Bool 20) 20) :=
 (vat z34 (i29 : Int)).bind fun x39 =>
 (vat x39 (i34 : Int)).bind fun x42 =>
 (bif x42 then (some true) else
 (vat z34 (i29 : Int)).bind fun x48 =>
 (vat x48 (i24 : Int)).bind fun x51 =>
 (bif x51 then ((vat z34 (i24 : Int)).bind fun x57 =>
 (vat x57 (i34 : Int)).bind fun x60 =>
 some x60) else
 some false).bind fun y55 =>
 some y55).bind fun y46 =>
 (vat z34 (i29 : Int)).bind fun x63 =>
 (vat x63 (i34 : Int)).bind fun x66 =>
 Let (z34.setIfInBounds (i29 : Int).toNat (x63.setIfInBounds (i34 : Int).toNat y46)) fun p69 =>
 some p69
def poset_closed_B4 (a0 : Poset) (i24 : Nat) (i29 : Nat) (z29 : (Vector (Vector Bool 20) 20)) : Option (Vector (Vector Bool 20) 20) :=
 (upTo a0.N).bind fun nn38 =>
 (rangeF (poset_closed_B6 i24 i29) nn38 0 z29).bind fun y35 =>
 some y35
def poset_closed_B2 (a0 : Poset) (i24 : Nat) (z24 : (Vector (Vector Bool 20) 20)) : Option (Vector (Vector Bool 20) 20) :=
 (upTo a0.N).bind fun nn33 =>
 (rangeF (poset_closed_B4 a0 i24) nn33 0 z24).bind fun y30 =>
 some y30
def poset_closed_B0 (a0 : Poset) (i7 : Nat) (z7 : (Vector (Vector Bool 20) 20)) : Option (Vector (Vector Bool 20) 20) :=
 (lat a0.Pairs (i7 : Int)).bind fun x11 =>
 (vat z7 x11.A).bind fun x16 =>
 (vat x16 x11.B).bind fun x19 =>
 Let (z7.setIfInBounds x11.A.toNat (x16.setIfInBounds x11.B.toNat true)) fun p22 =>
 some p22
def poset_closed (a0 : Poset) : Option (Vector (Vector Bool 20) 20) :=
 (rangeF (poset_closed_B0 a0) a0.Pairs.length 0 (Vector.replicate 20 (Vector.replicate 20 false))).bind fun y8 =>
 (upTo a0.N).bind fun nn28 =>
 (rangeF (poset_closed_B2 a0) nn28 0 y8).bind fun y25 =>
 some y25
def poset_check_B0 (r16 : (Vector (Vector Bool 20) 20)) (i22 : Nat) (z22 : Unit) : Option (Ctl Unit ((Vector (Vector Bool 20) 20) × Int)) :=
 (vat r16 (i22 : Int)).bind fun x26 =>
 (vat x26 (i22 : Int)).bind fun x29 =>
 bif x29 then (some (.ret (((Vector.replicate 20 (Vector.replicate 20 false)) : Vector (Vector Bool 20) 20), (9 : Int)))) else
 some (.go ())
def poset_check (a0 : Poset) : Option ((Vector (Vector Bool 20) 20) × Int) :=
 (bif decide (a0.N < (0 : Int)) then (some true) else
 some (decide (a0.N > (20 : Int)))).bind fun y6 =>
 bif y6 then (some (((Vector.replicate 20 (Vector.replicate 20 false)) : Vector (Vector Bool 20) 20), (1 : Int))) else
 (match_Check a0.N a0.N a0.Pairs).bind fun r11 =>
 bif r11 != (0 : Int) then (some (((Vector.replicate 20 (Vector.replicate 20 false)) : Vector (Vector Bool 20) 20), r11)) else
 (poset_closed a0).bind fun r16 =>
 (upTo a0.N).bind fun nn25 =>
 andThen (rangeM (poset_check_B0 r16) nn25 0 ()) fun _ =>
 some (r16, (0 : Int))
def poset_order_all_1 (a0 : Int) (a1 : Int) : Option Bool :=
 some true
def poset_order_pairs_all_1_B2 (a0 : Vector (Vector Bool 20) 20) (i5 : Nat) (i11 : Nat) (z11 : (List Pair)) : Option (List Pair) :=
 (vat a0 (i5 : Int)).bind fun x17 =>
 (vat x17 (i11 : Int)).bind fun x20 =>
 (bif x20 then ((poset_order_all_1 (i5 : Int) (i11 : Int)).bind fun r26 =>
 some r26) else
 some false).bind fun y24 =>
 bif y24 then ((room z11 ([({ Pair.zero with A := (i5 : Int), B := (i11 : Int) } : Pair)] : List Pair)).bind fun u35 =>
 some (z11 ++ ([({ Pair.zero with A := (i5 : Int), B := (i11 : Int) } : Pair)] : List Pair))) else
 some z11
def poset_order_pairs_all_1_B0 (a0 : Vector (Vector Bool 20) 20) (a1 : Int) (i5 : Nat) (z5 : (List Pair)) : Option (List Pair) :=
 (upTo a1).bind fun nn16 =>
 (rangeF (poset_order_pairs_all_1_B2 a0 i5) nn16 0 z5).bind fun l13 =>
 some l13
def poset_order_pairs_all_1 (a0 : Vector (Vector Bool 20) 20) (a1 : Int) : Option (List Pair) :=
 (upTo a1).bind fun nn10 =>
 (rangeF (poset_order_pairs_all_1_B0 a0 a1) nn10 0 ([] : List Pair)).bind fun l7 =>
 some l7
def poset_order_all (a0 : Vector (Vector Bool 20) 20) (a1 : Int) : Option (List Pair) :=
 (poset_order_pairs_all_1 a0 a1).bind fun r4 =>
 some r4
def poset_Close (a0 : Poset) : Option ((List Pair) × Int) :=
 (poset_check a0).bind fun r4 =>
 bif r4.2 != (0 : Int) then (some (([] : List Pair), r4.2)) else
 (poset_order_all r4.1 a0.N).bind fun r12 =>
 some (r12, (0 : Int))
def poset_Cover_1_B0 (a0 : Int) (a1 : Int) (a3 : Vector (Vector Bool 20) 20) (i3 : Nat) (z3 : Unit) : Option (Ctl Unit Bool) :=
 (vat a3 a0).bind fun x7 =>
 (vat x7 (i3 : Int)).bind fun x10 =>
 (bif x10 then ((vat a3 (i3 : Int)).bind fun x16 =>
 (vat x16 a1).bind fun x19 =>
 some x19) else
 some false).bind fun y14 =>
 bif y14 then (some (.ret false)) else
 some (.go ())
def poset_Cover_1 (a0 : Int) (a1 : Int) (a2 : Poset) (a3 : Vector (Vector Bool 20) 20) : Option Bool :=
 (upTo a2.N).bind fun nn6 =>
 andThen (rangeM (poset_Cover_1_B0 a0 a1 a3) nn6 0 ()) fun _ =>
 some true
def poset_order_pairs_Cover_1_B2 (a0 : Vector (Vector Bool 20) 20) (a2_c0 : Poset) (a2_c1 : Vector (Vector Bool 20) 20) (i7 : Nat) (i13 : Nat) (z13 : (List Pair)) : Option (List Pair) :=
 (vat a0 (i7 : Int)).bind fun x19 =>
 (vat x19 (i13 : Int)).bind fun x22 =>
 bif x22 then ((poset_Cover_1 (i7 : Int) (i13 : Int) a2_c0 a2_c1).bind fun r26 =>
 bif r26 then ((room z13 ([({ Pair.zero with A := (i7 : Int), B := (i13 : Int) } : Pair)] : List Pair)).bind fun u33 =>
 some (z13 ++ ([({ Pair.zero with A := (i7 : Int), B := (i13 : Int) } : Pair)] : List Pair))) else
 some z13) else
 some z13
def poset_order_pairs_Cover_1_B0 (a0 : Vector (Vector Bool 20) 20) (a1 : Int) (a2_c0 : Poset) (a2_c1 : Vector (Vector Bool 20) 20) (i7 : Nat) (z7 : (List Pair)) : Option (List Pair) :=
 (upTo a1).bind fun nn18 =>
 (rangeF (poset_order_pairs_Cover_1_B2 a0 a2_c0 a2_c1 i7) nn18 0 z7).bind fun l15 =>
 some l15
def poset_order_pairs_Cover_1 (a0 : Vector (Vector Bool 20) 20) (a1 : Int) (a2_c0 : Poset) (a2_c1 : Vector (Vector Bool 20) 20) : Option (List Pair) :=
 (upTo a1).bind fun nn12 =>
 (rangeF (poset_order_pairs_Cover_1_B0 a0 a1 a2_c0 a2_c1) nn12 0 ([] : List Pair)).bind fun l9 =>
 some l9
def poset_Cover (a0 : Poset) : Option ((List Pair) × Int) :=
 (poset_check a0).bind fun r4 =>
 bif r4.2 != (0 : Int) then (some (([] : List Pair), r4.2)) else
 (poset_order_pairs_Cover_1 r4.1 a0.N a0 r4.1).bind fun r12 =>
 some (r12, (0 : Int))
def slices_Index_int_int_B0 (a0 : List Int) (a1 : Int) (i1 : Nat) (z1 : Unit) : Option (Ctl Unit Int) :=
 (lat a0 (i1 : Int)).bind fun x4 =>
 bif a1 == x4 then (some (.ret (i1 : Int))) else
 some (.go ())
def slices_Index_int_int (a0 : List Int) (a1 : Int) : Option Int :=
 andThen (rangeM (slices_Index_int_int_B0 a0 a1) a0.length 0 ()) fun _ =>
 some (-1 : Int)
def slices_Contains_int_int (a0 : List Int) (a1 : Int) : Option Bool :=
 (slices_Index_int_int a0 a1).bind fun r1 =>
 some (decide (r1 ≥ (0 : Int)))
def poset_Order_B4 (r4 : (Vector (Vector Bool 20) 20) × Int) (l21 : List Int) (i19 : Nat) (i30 : Nat) (z30 : Bool) : Option Bool :=
 bif z30 then ((vat r4.1 (i30 : Int)).bind fun x36 =>
 (vat x36 (i19 : Int)).bind fun x39 =>
 (bif !x39 then (some true) else
 (slices_Contains_int_int l21 (i30 : Int)).bind fun r45 =>
 some r45).bind fun y43 =>
 some y43) else
 some false
def poset_Order_B2 (a0 : Poset) (r4 : (Vector (Vector Bool 20) 20) × Int) (i19 : Nat) (z19 : (List Int)) : Option (Ctl (List Int) (Ctl (List Int) ((List Int) × Int))) :=
 (slices_Contains_int_int z19 (i19 : Int)).bind fun r25 =>
 bif r25 then (some (.go z19)) else
 (upTo a0.N).bind fun nn34 =>
 (rangeF (poset_Order_B4 r4 z19 i19) nn34 0 true).bind fun y31 =>
 bif y31 then ((room z19 ([(i19 : Int)] : List Int)).bind fun u54 =>
 some (.brk (z19 ++ ([(i19 : Int)] : List Int)))) else
 some (.go z19)
def poset_Order_B0 (a0 : Poset) (r4 : (Vector (Vector Bool 20) 20) × Int) (z13 : (List Int)) : Option (Ctl (List Int) ((List Int) × Int)) :=
 bif decide ((z13.length : Int) < a0.N) then ((upTo a0.N).bind fun nn24 =>
 andThen (rangeM (poset_Order_B2 a0 r4) nn24 0 z13) fun l21 =>
 some (.go l21)) else
 some (.brk z13)
def poset_Order (fu : Nat) (a0 : Poset) : Option ((List Int) × Int) :=
 (poset_check a0).bind fun r4 =>
 bif r4.2 != (0 : Int) then (some (([] : List Int), r4.2)) else
 andThen (whileM (poset_Order_B0 a0 r4) fu ([] : List Int)) fun l15 =>
 some (l15, (0 : Int))
def poset_Levels_B2 (r15 : (Vector (Vector Bool 20) 20)) (x33 : Int) (i36 : Nat) (z36 : (List Int)) : Option (List Int) :=
 (vat r15 (i36 : Int)).bind fun x41 =>
 (vat x41 x33).bind fun x44 =>
 bif x44 then ((lat z36 x33).bind fun x48 =>
 (lat z36 (i36 : Int)).bind fun x51 =>
 (lat z36 x33).bind fun x54 =>
 Let (z36.set x33.toNat (max x48 (w64 (x51 + (1 : Int))))) fun p57 =>
 some p57) else
 some z36
def poset_Levels_B6 (x67 : Int) (z70 : (List (List Int))) : Option (Ctl (List (List Int)) (List (List Int))) :=
 bif decide ((z70.length : Int) ≤ x67) then ((room z70 ([[]] : List (List Int))).bind fun u102 =>
 some (.go (z70 ++ ([[]] : List (List Int))))) else
 some (.brk z70)
def poset_Levels_B4 (fu : Nat) (l30 : List Int) (i60 : Nat) (z60 : (List (List Int))) : Option (List (List Int)) :=
 (lat l30 (i60 : Int)).bind fun x67 =>
 andThen (whileM (poset_Levels_B6 x67) fu z60) fun l72 =>
 (lat l72 x67).bind fun x79 =>
 (room x79 ([(i60 : Int)] : List Int)).bind fun u87 =>
 (lat l72 x67).bind fun x90 =>
 Let (l72.set x67.toNat (x79 ++ ([(i60 : Int)] : List Int))) fun p95 =>
 some p95
def poset_Levels_B0 (a0 : Poset) (r5 : (List Int) × Int) (r15 : (Vector (Vector Bool 20) 20)) (i29 : Nat) (z29 : (List Int)) : Option (List Int) :=
 (lat r5.1 (i29 : Int)).bind fun x33 =>
 (upTo a0.N).bind fun nn40 =>
 (rangeF (poset_Levels_B2 r15 x33) nn40 0 z29).bind fun l37 =>
 some l37
def poset_Levels (fu : Nat) (a0 : Poset) : Option ((List (List Int)) × Int) :=
 (poset_Order fu a0).bind fun r5 =>
 bif r5.2 != (0 : Int) then (some (([] : List (List Int)), r5.2)) else
 (poset_closed a0).bind fun r15 =>
 (mkLen a0.N).bind fun n21 =>
 (rangeF (poset_Levels_B0 a0 r5 r15) r5.1.length 0 (List.replicate n21 (0 : Int))).bind fun l30 =>
 (rangeF (poset_Levels_B4 fu l30) l30.length 0 ([] : List (List Int))).bind fun l62 =>
 some (l62, (0 : Int))
def poset_Check (a0 : Poset) : Option Int :=
 (poset_check a0).bind fun r3 =>
 some r3.2
def partref_AllPairs_B4 (r4 : (List (List Bool))) (i14 : Nat) (i20 : Nat) (i26 : Nat) (z26 : Bool) : Option Bool :=
 bif z26 then (some true) else
 (lat r4 (i14 : Int)).bind fun x32 =>
 (lat x32 (i26 : Int)).bind fun x37 =>
 (bif x37 then ((lat r4 (i26 : Int)).bind fun x43 =>
 (lat x43 (i20 : Int)).bind fun x48 =>
 some x48) else
 some false).bind fun y41 =>
 some y41
def partref_AllPairs_B2 (a0 : Poset) (a1 : Bool) (r4 : (List (List Bool))) (i14 : Nat) (i20 : Nat) (z20 : (List Pair)) : Option (List Pair) :=
 (upTo a0.N).bind fun nn30 =>
 (rangeF (partref_AllPairs_B4 r4 i14 i20) nn30 0 false).bind fun y27 =>
 (lat r4 (i14 : Int)).bind fun x53 =>
 (lat x53 (i20 : Int)).bind fun x58 =>
 bif x58 then ((bif a1 then (some y27) else
 some false).bind fun y63 =>
 bif !y63 then ((room z20 ([({ Pair.zero with A := (i14 : Int), B := (i20 : Int) } : Pair)] : List Pair)).bind fun u70 =>
 some (z20 ++ ([({ Pair.zero with A := (i14 : Int), B := (i20 : Int) } : Pair)] : List Pair))) else
 some z20) else
 some z20
def partref_AllPairs_B0 (a0 : Poset) (a1 : Bool) (r4 : (List (List Bool))) (i14 : Nat) (z14 : (List Pair)) : Option (List Pair) :=
 (upTo a0.N).bind fun nn25 =>
 (rangeF (partref_AllPairs_B2 a0 a1 r4 i14) nn25 0 z14).bind fun l22 =>
 some l22
def partref_AllPairs (fu : Nat) (a0 : Poset) (a1 : Bool) : Option (List Pair) :=
 (partref_Closure fu a0.N a0.Pairs).bind fun r4 =>
 (upTo a0.N).bind fun nn19 =>
 (rangeF (partref_AllPairs_B0 a0 a1 r4) nn19 0 ([] : List Pair)).bind fun l16 =>
 some l16
def slices_Equal_api_Pair_api_Pair_B0 (a0 : List Pair) (a1 : List Pair) (i2 : Nat) (z2 : Unit) : Option (Ctl Unit Bool) :=
 (lat a0 (i2 : Int)).bind fun x5 =>
 (lat a1 (i2 : Int)).bind fun x8 =>
 bif !(decide (x5 = x8)) then (some (.ret false)) else
 some (.go ())
def slices_Equal_api_Pair_api_Pair (a0 : List Pair) (a1 : List Pair) : Option Bool :=
 bif (a0.length : Int) != (a1.length : Int) then (some false) else
 andThen (rangeM (slices_Equal_api_Pair_api_Pair_B0 a0 a1) a0.length 0 ()) fun _ =>
 some true
def partref_Order_B4 (r4 : (List (List Bool))) (l22 : List Int) (i20 : Nat) (i30 : Nat) (z30 : Bool) : Option Bool :=
 bif z30 then ((lat r4 (i30 : Int)).bind fun x36 =>
 (lat x36 (i20 : Int)).bind fun x41 =>
 (bif !x41 then (some true) else
 (slices_Contains_int_int l22 (i30 : Int)).bind fun r47 =>
 some r47).bind fun y45 =>
 some y45) else
 some false
def partref_Order_B2 (a0 : Poset) (r4 : (List (List Bool))) (i20 : Nat) (z20 : (List Int)) : Option (Ctl (List Int) (Ctl (List Int) (List Int))) :=
 (slices_Contains_int_int z20 (i20 : Int)).bind fun r26 =>
 (upTo a0.N).bind fun nn34 =>
 (rangeF (partref_Order_B4 r4 z20 i20) nn34 0 (!r26)).bind fun y31 =>
 bif y31 then ((room z20 ([(i20 : Int)] : List Int)).bind fun u56 =>
 some (.brk (z20 ++ ([(i20 : Int)] : List Int)))) else
 some (.go z20)
def partref_Order_B0 (a0 : Poset) (r4 : (List (List Bool))) (z14 : (List Int)) : Option (Ctl (List Int) (List Int)) :=
 bif decide ((z14.length : Int) < a0.N) then ((upTo a0.N).bind fun nn25 =>
 andThen (rangeM (partref_Order_B2 a0 r4) nn25 0 z14) fun l22 =>
 some (.go l22)) else
 some (.brk z14)
def partref_Order (fu : Nat) (a0 : Poset) : Option (List Int) :=
 (partref_Closure fu a0.N a0.Pairs).bind fun r4 =>
 andThen (whileM (partref_Order_B0 a0 r4) fu ([] : List Int)) fun l16 =>
 some l16
def slices_Equal_int_int_B0 (a0 : List Int) (a1 : List Int) (i2 : Nat) (z2 : Unit) : Option (Ctl Unit Bool) :=
 (lat a0 (i2 : Int)).bind fun x5 =>
 (lat a1 (i2 : Int)).bind fun x8 =>
 bif x5 != x8 then (some (.ret false)) else
 some (.go ())
def slices_Equal_int_int (a0 : List Int) (a1 : List Int) : Option Bool :=
 bif (a0.length : Int) != (a1.length : Int) then (some false) else
 andThen (rangeM (slices_Equal_int_int_B0 a0 a1) a0.length 0 ()) fun _ =>
 some true
def partref_Levels_B4 (r5 : (List (List Bool))) (i24 : Nat) (i29 : Nat) (z29 : (List Int)) : Option (List Int) :=
 (lat r5 (i24 : Int)).bind fun x34 =>
 (lat x34 (i29 : Int)).bind fun x39 =>
 bif x39 then ((lat z29 (i29 : Int)).bind fun x43 =>
 (lat z29 (i24 : Int)).bind fun x46 =>
 (lat z29 (i29 : Int)).bind fun x49 =>
 Let (z29.set (i29 : Int).toNat (max x43 (w64 (x46 + (1 : Int))))) fun p52 =>
 some p52) else
 some z29
def partref_Levels_B2 (a0 : Poset) (r5 : (List (List Bool))) (i24 : Nat) (z24 : (List Int)) : Option (List Int) :=
 (upTo a0.N).bind fun nn33 =>
 (rangeF (partref_Levels_B4 r5 i24) nn33 0 z24).bind fun l30 =>
 some l30
def partref_Levels_B8 (l20 : List Int) (y59 : Int) (i73 : Nat) (z73 : (List Int)) : Option (List Int) :=
 (lat l20 (i73 : Int)).bind fun x78 =>
 bif x78 == y59 then ((room z73 ([(i73 : Int)] : List Int)).bind fun u84 =>
 some (z73 ++ ([(i73 : Int)] : List Int))) else
 some z73
def partref_Levels_B6 (l20 : List Int) (z58 : Int × (List (List Int))) : Option (Ctl (Int × (List (List Int))) (List (List Int))) :=
 (slices_Contains_int_int l20 z58.1).bind fun r67 =>
 bif r67 then ((rangeF (partref_Levels_B8 l20 z58.1) l20.length 0 ([] : List Int)).bind fun l75 =>
 (room z58.2 ([l75] : List (List Int))).bind fun u95 =>
 some (.go (w64 (z58.1 + (1 : Int)), z58.2 ++ ([l75] : List (List Int))))) else
 some (.brk (z58.1, z58.2))
def partref_Levels_B0 (a0 : Poset) (r5 : (List (List Bool))) (i19 : Nat) (z19 : (List Int)) : Option (List Int) :=
 (upTo a0.N).bind fun nn28 =>
 (rangeF (partref_Levels_B2 a0 r5) nn28 0 z19).bind fun l25 =>
 some l25
def partref_Levels (fu : Nat) (a0 : Poset) : Option (List (List Int)) :=
 (partref_Closure fu a0.N a0.Pairs).bind fun r5 =>
 (mkLen a0.N).bind fun n14 =>
 (upTo a0.N).bind fun nn23 =>
 (rangeF (partref_Levels_B0 a0 r5) nn23 0 (List.replicate n14 (0 : Int))).bind fun l20 =>
 andThen (whileM (partref_Levels_B6 l20) fu ((0 : Int), ([] : List (List Int)))) fun (y59, l61) =>
 some l61
def slices_EqualFunc_int_int_int_int_int_int_B0 (a0 : List (List Int)) (a1 : List (List Int)) (i5 : Nat) (z5 : Unit) : Option (Ctl Unit Bool) :=
 (lat a0 (i5 : Int)).bind fun x8 =>
 (lat a1 (i5 : Int)).bind fun x12 =>
 (slices_Equal_int_int x8 x12).bind fun r16 =>
 bif !r16 then (some (.ret false)) else
 some (.go ())
def slices_EqualFunc_int_int_int_int_int_int (a0 : List (List Int)) (a1 : List (List Int)) : Option Bool :=
 bif (a0.length : Int) != (a1.length : Int) then (some false) else
 andThen (rangeM (slices_EqualFunc_int_int_int_int_int_int_B0 a0 a1) a0.length 0 ()) fun _ =>
 some true
def partlaw_PosetSays (fu : Nat) (a0 : Poset) : Option Bool :=
 (partref_PosetErr fu a0).bind fun r3 =>
 (poset_Close a0).bind fun r7 =>
 (poset_Cover a0).bind fun r13 =>
 (poset_Order fu a0).bind fun r19 =>
 (poset_Levels fu a0).bind fun r25 =>
 (poset_Check a0).bind fun r34 =>
 bif r34 != r3 then (some false) else
 bif r3 != (0 : Int) then ((bif (r7.1.length : Int) == (0 : Int) then (some (r7.2 == r3)) else
 some false).bind fun y41 =>
 (bif y41 then (some ((r13.1.length : Int) == (0 : Int))) else
 some false).bind fun y46 =>
 (bif y46 then (some (r13.2 == r3)) else
 some false).bind fun y51 =>
 (bif y51 then (some ((r19.1.length : Int) == (0 : Int))) else
 some false).bind fun y56 =>
 (bif y56 then (some (r19.2 == r3)) else
 some false).bind fun y61 =>
 (bif y61 then (some ((r25.1.length : Int) == (0 : Int))) else
 some false).bind fun y66 =>
 (bif y66 then (some (r25.2 == r3)) else
 some false).bind fun y72 =>
 some y72) else
 (partref_AllPairs fu a0 false).bind fun r76 =>
 (slices_Equal_api_Pair_api_Pair r7.1 r76).bind fun r82 =>
 (bif r82 then (some (r7.2 == (0 : Int))) else
 some false).bind fun y87 =>
 bif y87 then ((partref_AllPairs fu a0 true).bind fun r92 =>
 (slices_Equal_api_Pair_api_Pair r13.1 r92).bind fun r98 =>
 (bif r98 then (some (r13.2 == (0 : Int))) else
 some false).bind fun y103 =>
 bif y103 then ((partref_Order fu a0).bind fun r108 =>
 (slices_Equal_int_int r19.1 r108).bind fun r114 =>
 (bif r114 then (some (r19.2 == (0 : Int))) else
 some false).bind fun y119 =>
 bif y119 then ((partref_Levels fu a0).bind fun r124 =>
 (slices_EqualFunc_int_int_int_int_int_int r25.1 r124).bind fun r133 =>
 (bif r133 then (some (r25.2 == (0 : Int))) else
 some false).bind fun y138 =>
 some y138) else
 some false) else
 some false) else
 some false
end Go.Proofs.Yticifbmaapnfbaa
