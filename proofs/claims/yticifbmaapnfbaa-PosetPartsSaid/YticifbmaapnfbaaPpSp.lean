/-
  What the functions compute, typed; printed by a program.
-/
import Derived.Test.YticifbmaapnfbaaGoI
import Derived.Test.YticifbmaapnfbaaGoS
namespace Go.Proofs.Yticifbmaapnfbaa
open Go.RowKit Enc
set_option linter.unusedVariables false
set_option linter.unusedSimpArgs false
structure Pair where
  A : Int
  B : Int
instance : DecidableEq Pair := fun a b => decidable_of_iff (a.A = b.A ∧ a.B = b.B) (by cases a; cases b; simp)
def Pair.zero : Pair := ⟨(0 : Int), (0 : Int)⟩
instance : Enc Pair := ⟨fun p => enc p.A ++ (enc p.B), 2, fun p => by simp only [List.length_append, Enc.len]; rfl, fun p => by simp only [List.all_append, Enc.one, Bool.and_self]⟩
theorem Pair.get_A {p : Pair} {k : Nat} {ch : List Value} (h : Get (enc p.A) k ch) : Get (enc p) (0 + k) ch := Get.off (Get.left h) (by omega)
theorem Pair.put_A {p : Pair} {k : Nat} {vs : List Value} {y : Int} (h : Put (enc p.A) k vs (enc y)) : Put (enc p) (0 + k) vs (enc ({ p with A := y } : Pair)) := Put.off (cs' := enc ({ p with A := y } : Pair)) (Put.left h) (by omega)
theorem Pair.get_B {p : Pair} {k : Nat} {ch : List Value} (h : Get (enc p.B) k ch) : Get (enc p) (1 + k) ch := Get.off (Get.right (m := 1) (Enc.len _) h) (by omega)
theorem Pair.put_B {p : Pair} {k : Nat} {vs : List Value} {y : Int} (h : Put (enc p.B) k vs (enc y)) : Put (enc p) (1 + k) vs (enc ({ p with B := y } : Pair)) := Put.off (cs' := enc ({ p with B := y } : Pair)) (Put.right (m := 1) (Enc.len _) h) (by omega)
instance : Rng Pair := ⟨fun p => Rng.ok p.A ∧ Rng.ok p.B⟩
structure Poset where
  N : Int
  Pairs : List Pair
instance : DecidableEq Poset := fun a b => decidable_of_iff (a.N = b.N ∧ a.Pairs = b.Pairs) (by cases a; cases b; simp)
def Poset.zero : Poset := ⟨(0 : Int), []⟩
instance : Rng Poset := ⟨fun p => Rng.ok p.N ∧ Rng.ok p.Pairs⟩
structure Graph where
  may : List (List Bool)
  left : List Int
  seen : List Bool
instance : DecidableEq Graph := fun a b => decidable_of_iff (a.may = b.may ∧ a.left = b.left ∧ a.seen = b.seen) (by cases a; cases b; simp)
def Graph.zero : Graph := ⟨[], [], []⟩
instance : Rng Graph := ⟨fun p => Rng.ok p.may ∧ Rng.ok p.left ∧ Rng.ok p.seen⟩
def partref_PairsErr_B0 (a0 : Int) (a1 : Int) (a2 : List Pair) (i8 : Nat) (z8 : Unit) : Option (Ctl Unit Int) :=
 (lat a2 (i8 : Int)).bind fun x11 =>
 (bif decide (x11.A < (0 : Int)) then (some true) else
 some (decide (x11.B < (0 : Int)))).bind fun y17 =>
 (bif y17 then (some true) else
 some (decide (x11.A ≥ a0))).bind fun y22 =>
 (bif y22 then (some true) else
 some (decide (x11.B ≥ a1))).bind fun y27 =>
 bif y27 then (some (.ret (4 : Int))) else
 some (.go ())
def partref_PairsErr (a0 : Int) (a1 : Int) (a2 : List Pair) : Option Int :=
 (bif decide ((min a0 a1) < (0 : Int)) then (some true) else
 some (decide ((max a0 a1) > (40 : Int)))).bind fun y2 =>
 bif y2 then (some (1 : Int)) else
 bif decide ((a2.length : Int) > (600 : Int)) then (some (2 : Int)) else
 andThen (rangeM (partref_PairsErr_B0 a0 a1 a2) a2.length 0 ()) fun _ =>
 some (0 : Int)
def partref_Closure_B4 (a1 : List Pair) (i11 : Nat) (x42 : Int) (i50 : Nat) (z50 : (List Int) × (List (List Bool))) : Option ((List Int) × (List (List Bool))) :=
 (lat a1 (i50 : Int)).bind fun x58 =>
 (bif x58.A == x42 then ((lat z50.2 (i11 : Int)).bind fun x66 =>
 (lat x66 x58.B).bind fun x71 =>
 some (!x71)) else
 some false).bind fun y64 =>
 bif y64 then ((lat z50.2 (i11 : Int)).bind fun x75 =>
 (lat x75 x58.B).bind fun x80 =>
 Let (z50.2.set (i11 : Int).toNat (x75.set x58.B.toNat true)) fun p83 =>
 (room z50.1 ([x58.B] : List Int)).bind fun u89 =>
 some (z50.1 ++ ([x58.B] : List Int), p83)) else
 some (z50.1, z50.2)
def partref_Closure_B2 (a1 : List Pair) (i11 : Nat) (z33 : (List Int) × (List (List Bool))) : Option (Ctl ((List Int) × (List (List Bool))) (List (List Bool))) :=
 bif decide ((z33.1.length : Int) > (0 : Int)) then ((lat z33.1 (0 : Int)).bind fun x42 =>
 (cutL z33.1 (1 : Int) (z33.1.length : Int)).bind fun m45 =>
 (rangeF (partref_Closure_B4 a1 i11 x42) a1.length 0 (m45, z33.2)).bind fun (l52, l53) =>
 some (.go (l52, l53))) else
 some (.brk (z33.1, z33.2))
def partref_Closure_B0 (fu : Nat) (a0 : Int) (a1 : List Pair) (i11 : Nat) (z11 : (List (List Bool))) : Option (List (List Bool)) :=
 (mkLen a0).bind fun n18 =>
 (lat z11 (i11 : Int)).bind fun x23 =>
 Let (z11.set (i11 : Int).toNat (List.replicate n18 false)) fun p28 =>
 andThen (whileM (partref_Closure_B2 a1 i11) fu (([(i11 : Int)] : List Int), p28)) fun (l35, l36) =>
 some l36
def partref_Closure (fu : Nat) (a0 : Int) (a1 : List Pair) : Option (List (List Bool)) :=
 (mkLen a0).bind fun n3 =>
 (upTo a0).bind fun nn17 =>
 (rangeF (partref_Closure_B0 fu a0 a1) nn17 0 (List.replicate n3 ([] : List Bool))).bind fun l12 =>
 some l12
def partref_PosetErr_B0 (r14 : (List (List Bool))) (i24 : Nat) (z24 : Unit) : Option (Ctl Unit Int) :=
 (lat r14 (i24 : Int)).bind fun x27 =>
 (lat x27 (i24 : Int)).bind fun x32 =>
 bif x32 then (some (.ret (9 : Int))) else
 some (.go ())
def partref_PosetErr (fu : Nat) (a0 : Poset) : Option Int :=
 (bif decide (a0.N < (0 : Int)) then (some true) else
 some (decide (a0.N > (20 : Int)))).bind fun y4 =>
 bif y4 then (some (1 : Int)) else
 (partref_PairsErr a0.N a0.N a0.Pairs).bind fun r9 =>
 bif r9 != (0 : Int) then (some r9) else
 (partref_Closure fu a0.N a0.Pairs).bind fun r14 =>
 andThen (rangeM (partref_PosetErr_B0 r14) r14.length 0 ()) fun _ =>
 some (0 : Int)
def match_in (a0 : Int) (a1 : Int) (a2 : Int) : Option Bool :=
 (bif decide (a0 ≥ a1) then (some (decide (a0 ≤ a2))) else
 some false).bind fun y2 =>
 some y2
def match_Check_1 (a0 : Pair) (a1 : Int) (a2 : Int) : Option Bool :=
 (match_in a0.A (0 : Int) (w64 (a1 - (1 : Int)))).bind fun r5 =>
 (bif !r5 then (some true) else
 (match_in a0.B (0 : Int) (w64 (a2 - (1 : Int)))).bind fun r12 =>
 some (!r12)).bind fun y10 =>
 some y10
def slices_IndexFunc_api_Pair_api_Pair_Check_1_B0 (a0 : List Pair) (a1_c0 : Int) (a1_c1 : Int) (i3 : Nat) (z3 : Unit) : Option (Ctl Unit Int) :=
 (lat a0 (i3 : Int)).bind fun x6 =>
 (match_Check_1 x6 a1_c0 a1_c1).bind fun r9 =>
 bif r9 then (some (.ret (i3 : Int))) else
 some (.go ())
def slices_IndexFunc_api_Pair_api_Pair_Check_1 (a0 : List Pair) (a1_c0 : Int) (a1_c1 : Int) : Option Int :=
 andThen (rangeM (slices_IndexFunc_api_Pair_api_Pair_Check_1_B0 a0 a1_c0 a1_c1) a0.length 0 ()) fun _ =>
 some (-1 : Int)
def slices_ContainsFunc_api_Pair_api_Pair_Check_1 (a0 : List Pair) (a1_c0 : Int) (a1_c1 : Int) : Option Bool :=
 (slices_IndexFunc_api_Pair_api_Pair_Check_1 a0 a1_c0 a1_c1).bind fun r3 =>
 some (decide (r3 ≥ (0 : Int)))
def match_Check (a0 : Int) (a1 : Int) (a2 : List Pair) : Option Int :=
 (match_in a0 (0 : Int) (40 : Int)).bind fun r5 =>
 (bif !r5 then (some true) else
 (match_in a1 (0 : Int) (40 : Int)).bind fun r12 =>
 some (!r12)).bind fun y10 =>
 bif y10 then (some (1 : Int)) else
 bif decide ((a2.length : Int) > (600 : Int)) then (some (2 : Int)) else
 (slices_ContainsFunc_api_Pair_api_Pair_Check_1 a2 a0 a1).bind fun r20 =>
 bif r20 then (some (4 : Int)) else
 some (0 : Int)
def poset_closed_B6 (i24 : Nat) (i29 : Nat) (i34 : Nat) (z34 : (Vector (Vector Bool 20) 20)) : Option (Vector (Vector Bool 20) 20) :=
 (vat z34 (i29 : Int)).bind fun x39 =>
 (vat x39 (i34 : Int)).bind fun x42 =>
 (bif x42 then (some true) else
 (vat z34 (i29 : Int)).bind fun x48 =>
 (vat x48 (i24 : Int)).bind fun x51 =>
 (bif x51 then ((vat z34 (i24 : Int)).bind fun x57 =>
 (vat x57 (i34 : Int)).bind fun x60 =>
 some x60) else
 some false).bind fun y55 =>
 some y55).bind fun y46 =>
 (vat z34 (i29 : Int)).bind fun x63 =>
 (vat x63 (i34 : Int)).bind fun x66 =>
 Let (z34.setIfInBounds (i29 : Int).toNat (x63.setIfInBounds (i34 : Int).toNat y46)) fun p69 =>
 some p69
def poset_closed_B4 (a0 : Poset) (i24 : Nat) (i29 : Nat) (z29 : (Vector (Vector Bool 20) 20)) : Option (Vector (Vector Bool 20) 20) :=
 (upTo a0.N).bind fun nn38 =>
 (rangeF (poset_closed_B6 i24 i29) nn38 0 z29).bind fun y35 =>
 some y35
def poset_closed_B2 (a0 : Poset) (i24 : Nat) (z24 : (Vector (Vector Bool 20) 20)) : Option (Vector (Vector Bool 20) 20) :=
 (upTo a0.N).bind fun nn33 =>
 (rangeF (poset_closed_B4 a0 i24) nn33 0 z24).bind fun y30 =>
 some y30
def poset_closed_B0 (a0 : Poset) (i7 : Nat) (z7 : (Vector (Vector Bool 20) 20)) : Option (Vector (Vector Bool 20) 20) :=
 (lat a0.Pairs (i7 : Int)).bind fun x11 =>
 (vat z7 x11.A).bind fun x16 =>
 (vat x16 x11.B).bind fun x19 =>
 Let (z7.setIfInBounds x11.A.toNat (x16.setIfInBounds x11.B.toNat true)) fun p22 =>
 some p22
def poset_closed (a0 : Poset) : Option (Vector (Vector Bool 20) 20) :=
 (rangeF (poset_closed_B0 a0) a0.Pairs.length 0 (Vector.replicate 20 (Vector.replicate 20 false))).bind fun y8 =>
 (upTo a0.N).bind fun nn28 =>
 (rangeF (poset_closed_B2 a0) nn28 0 y8).bind fun y25 =>
 some y25
def poset_check_B0 (r16 : (Vector (Vector Bool 20) 20)) (i22 : Nat) (z22 : Unit) : Option (Ctl Unit ((Vector (Vector Bool 20) 20) × Int)) :=
 (vat r16 (i22 : Int)).bind fun x26 =>
 (vat x26 (i22 : Int)).bind fun x29 =>
 bif x29 then (some (.ret (((Vector.replicate 20 (Vector.replicate 20 false)) : Vector (Vector Bool 20) 20), (9 : Int)))) else
 some (.go ())
def poset_check (a0 : Poset) : Option ((Vector (Vector Bool 20) 20) × Int) :=
 (bif decide (a0.N < (0 : Int)) then (some true) else
 some (decide (a0.N > (20 : Int)))).bind fun y6 =>
 bif y6 then (some (((Vector.replicate 20 (Vector.replicate 20 false)) : Vector (Vector Bool 20) 20), (1 : Int))) else
 (match_Check a0.N a0.N a0.Pairs).bind fun r11 =>
 bif r11 != (0 : Int) then (some (((Vector.replicate 20 (Vector.replicate 20 false)) : Vector (Vector Bool 20) 20), r11)) else
 (poset_closed a0).bind fun r16 =>
 (upTo a0.N).bind fun nn25 =>
 andThen (rangeM (poset_check_B0 r16) nn25 0 ()) fun _ =>
 some (r16, (0 : Int))
def poset_order_all_1 (a0 : Int) (a1 : Int) : Option Bool :=
 some true
def poset_order_pairs_all_1_B2 (a0 : Vector (Vector Bool 20) 20) (i5 : Nat) (i11 : Nat) (z11 : (List Pair)) : Option (List Pair) :=
 (vat a0 (i5 : Int)).bind fun x17 =>
 (vat x17 (i11 : Int)).bind fun x20 =>
 (bif x20 then ((poset_order_all_1 (i5 : Int) (i11 : Int)).bind fun r26 =>
 some r26) else
 some false).bind fun y24 =>
 bif y24 then ((room z11 ([({ Pair.zero with A := (i5 : Int), B := (i11 : Int) } : Pair)] : List Pair)).bind fun u35 =>
 some (z11 ++ ([({ Pair.zero with A := (i5 : Int), B := (i11 : Int) } : Pair)] : List Pair))) else
 some z11
def poset_order_pairs_all_1_B0 (a0 : Vector (Vector Bool 20) 20) (a1 : Int) (i5 : Nat) (z5 : (List Pair)) : Option (List Pair) :=
 (upTo a1).bind fun nn16 =>
 (rangeF (poset_order_pairs_all_1_B2 a0 i5) nn16 0 z5).bind fun l13 =>
 some l13
def poset_order_pairs_all_1 (a0 : Vector (Vector Bool 20) 20) (a1 : Int) : Option (List Pair) :=
 (upTo a1).bind fun nn10 =>
 (rangeF (poset_order_pairs_all_1_B0 a0 a1) nn10 0 ([] : List Pair)).bind fun l7 =>
 some l7
def poset_order_all (a0 : Vector (Vector Bool 20) 20) (a1 : Int) : Option (List Pair) :=
 (poset_order_pairs_all_1 a0 a1).bind fun r4 =>
 some r4
def math_bits_Mul64 (a0 : BitVec 64) (a1 : BitVec 64) : Option ((BitVec 64) × (BitVec 64)) :=
 some ((((a0 >>> 32) * (a1 >>> 32)) + ((((a0 >>> 32) * (a1 &&& (4294967295 : BitVec 64))) + (((a0 &&& (4294967295 : BitVec 64)) * (a1 &&& (4294967295 : BitVec 64))) >>> 32)) >>> 32)) + ((((((a0 >>> 32) * (a1 &&& (4294967295 : BitVec 64))) + (((a0 &&& (4294967295 : BitVec 64)) * (a1 &&& (4294967295 : BitVec 64))) >>> 32)) &&& (4294967295 : BitVec 64)) + ((a0 &&& (4294967295 : BitVec 64)) * (a1 >>> 32))) >>> 32), a0 * a1)
def math_bits_Mul (a0 : BitVec 64) (a1 : BitVec 64) : Option ((BitVec 64) × (BitVec 64)) :=
 (math_bits_Mul64 a0 a1).bind fun r1 =>
 some (r1.1, r1.2)
def slices_Repeat_int_int_B0 (z20 : Int × (List Int)) : Option (Ctl (Int × (List Int)) (List Int)) :=
 bif decide (z20.1 < (z20.2.length : Int)) then ((cutL z20.2 z20.1 (z20.2.length : Int)).bind fun m26 =>
 (cutL z20.2 0 z20.1).bind fun m30 =>
 Let (copyL z20.2 ((z20.1 : Int).toNat) (((z20.2.length : Int) : Int).toNat) m30) fun p34 =>
 Let p34 fun l37 =>
 some (.go (w64 (z20.1 + (copyN ((z20.1 : Int).toNat) (((z20.2.length : Int) : Int).toNat) m30)), l37))) else
 some (.brk (z20.1, z20.2))
def slices_Repeat_int_int (fu : Nat) (a0 : List Int) (a1 : Int) : Option (List Int) :=
 bif decide (a1 < (0 : Int)) then (none) else
 (math_bits_Mul (BitVec.ofInt 64 (a0.length : Int)) (BitVec.ofInt 64 a1)).bind fun r3 =>
 (bif decide ((r3.1.toNat : Int) > ((0 : BitVec 64).toNat : Int)) then (some true) else
 some (decide ((r3.2.toNat : Int) > ((9223372036854775807 : BitVec 64).toNat : Int)))).bind fun y8 =>
 bif y8 then (none) else
 (mkLen (w64 (r3.2.toNat : Int))).bind fun n13 =>
 Let (copyL (List.replicate n13 (0 : Int)) 0 ((List.replicate n13 (0 : Int)).length) a0) fun p18 =>
 andThen (whileM (slices_Repeat_int_int_B0) fu (copyN 0 ((List.replicate n13 (0 : Int)).length) a0, p18)) fun (y21, l22) =>
 some l22
def match_graph_search_B0 (a0 : Graph) (a1 : Int) (x4 : List Bool) (rc : Graph → Int → Option ((List Int) × (List Bool) × Graph × Bool)) (i8 : Nat) (z8 : Graph × (List Int) × (List Bool)) : Option (Ctl (Graph × (List Int) × (List Bool)) ((List Int) × (List Bool) × Graph × Bool)) :=
 (lat x4 (i8 : Int)).bind fun x14 =>
 (bif !x14 then (some true) else
 (lat z8.2.2 (i8 : Int)).bind fun x20 =>
 some x20).bind fun y18 =>
 bif y18 then (some (.go (({ z8.1 with may := a0.may, left := z8.2.1, seen := z8.2.2 } : Graph), z8.2.1, z8.2.2))) else
 (lat z8.2.2 (i8 : Int)).bind fun x26 =>
 Let (z8.2.2.set (i8 : Int).toNat true) fun p29 =>
 (lat z8.2.1 (i8 : Int)).bind fun x31 =>
 bif decide (x31 < (0 : Int)) then ((lat z8.2.1 (i8 : Int)).bind fun x35 =>
 Let (z8.2.1.set (i8 : Int).toNat a1) fun p38 =>
 some (.ret (p38, p29, ({ z8.1 with may := a0.may, left := p38, seen := p29 } : Graph), true))) else
 (lat z8.2.1 (i8 : Int)).bind fun x40 =>
 (rc ({ z8.1 with may := a0.may, left := z8.2.1, seen := p29 } : Graph) x40).bind fun r43 =>
 bif r43.2.2.2 then ((lat r43.1 (i8 : Int)).bind fun x48 =>
 Let (r43.1.set (i8 : Int).toNat a1) fun p51 =>
 some (.ret (p51, r43.2.1, ({ r43.2.2.1 with may := a0.may, left := p51, seen := r43.2.1 } : Graph), true))) else
 some (.go (({ r43.2.2.1 with may := a0.may, left := r43.1, seen := r43.2.1 } : Graph), r43.1, r43.2.1))
def match_graph_search_R (rc : Graph → Int → Option ((List Int) × (List Bool) × Graph × Bool)) (a0 : Graph) (a1 : Int) : Option ((List Int) × (List Bool) × Graph × Bool) :=
 (lat a0.may a1).bind fun x4 =>
 andThen (rangeM (match_graph_search_B0 a0 a1 x4 rc) x4.length 0 (a0, a0.left, a0.seen)) fun (y9, l10, l11) =>
 some (l10, l11, ({ y9 with may := a0.may, left := l10, seen := l11 } : Graph), false)
def match_graph_search : (fu : Nat) → (a0 : Graph) → (a1 : Int) → Option ((List Int) × (List Bool) × Graph × Bool)
  | 0, _, _ => none
  | fu + 1, a0, a1 => match_graph_search_R (match_graph_search fu) a0 a1
def match_most_B4 (fu : Nat) (a1 : Int) (l72 : List (List Bool)) (i94 : Nat) (z94 : Graph × (List Int)) : Option (Graph × (List Int)) :=
 (mkLen a1).bind fun n102 =>
 (match_graph_search fu ({ z94.1 with may := l72, left := z94.2, seen := (List.replicate n102 false) } : Graph) (i94 : Int)).bind fun r107 =>
 some (({ r107.2.2.1 with may := l72, left := r107.1, seen := r107.2.1 } : Graph), r107.1)
def match_most_B2 (a2 : List Pair) (r3 : (List Int)) (y15 : Graph) (i70 : Nat) (z70 : Graph × (List (List Bool))) : Option (Graph × (List (List Bool))) :=
 (lat a2 (i70 : Int)).bind fun x77 =>
 (lat z70.2 x77.A).bind fun x82 =>
 (lat x82 x77.B).bind fun x87 =>
 Let (z70.2.set x77.A.toNat (x82.set x77.B.toNat true)) fun p90 =>
 some (({ z70.1 with may := p90, left := r3, seen := y15.seen } : Graph), p90)
def match_most_B0 (a1 : Int) (r3 : (List Int)) (i11 : Nat) (z11 : Graph) : Option Graph :=
 (mkLen a1).bind fun n26 =>
 (room z11.may ([(List.replicate n26 false)] : List (List Bool))).bind fun u35 =>
 Let (z11.may ++ ([(List.replicate n26 false)] : List (List Bool)), ({ z11 with left := r3 } : Graph)) fun (l42, y45) =>
 some ({ y45 with may := l42, left := r3, seen := z11.seen } : Graph)
def match_most (fu : Nat) (a0 : Int) (a1 : Int) (a2 : List Pair) : Option Graph :=
 (slices_Repeat_int_int fu ([(-1 : Int)] : List Int) a1).bind fun r3 =>
 (upTo a0).bind fun nn25 =>
 (rangeF (match_most_B0 a1 r3) nn25 0 ({ Graph.zero with may := ([] : List (List Bool)), left := r3 } : Graph)).bind fun y15 =>
 (rangeF (match_most_B2 a2 r3 y15) a2.length 0 (({ y15 with left := r3 } : Graph), y15.may)).bind fun (y71, l72) =>
 (upTo a0).bind fun nn101 =>
 (rangeF (match_most_B4 fu a1 l72) nn101 0 (({ y71 with may := l72, left := r3, seen := y15.seen } : Graph), r3)).bind fun (y95, l98) =>
 some ({ y95 with may := l72, left := l98 } : Graph)
def slices_Index_int_int_B0 (a0 : List Int) (a1 : Int) (i1 : Nat) (z1 : Unit) : Option (Ctl Unit Int) :=
 (lat a0 (i1 : Int)).bind fun x4 =>
 bif a1 == x4 then (some (.ret (i1 : Int))) else
 some (.go ())
def slices_Index_int_int (a0 : List Int) (a1 : Int) : Option Int :=
 andThen (rangeM (slices_Index_int_int_B0 a0 a1) a0.length 0 ()) fun _ =>
 some (-1 : Int)
def match_Most_B0 (r8 : Graph) (i24 : Nat) (z24 : (List Pair)) : Option (List Pair) :=
 (slices_Index_int_int r8.left (i24 : Int)).bind fun r30 =>
 bif decide (r30 ≥ (0 : Int)) then ((room z24 ([({ Pair.zero with A := (i24 : Int), B := r30 } : Pair)] : List Pair)).bind fun u37 =>
 some (z24 ++ ([({ Pair.zero with A := (i24 : Int), B := r30 } : Pair)] : List Pair))) else
 some z24
def match_Most (fu : Nat) (a0 : Int) (a1 : Int) (a2 : List Pair) : Option ((List Pair) × Int) :=
 (match_Check a0 a1 a2).bind fun r2 =>
 bif r2 != (0 : Int) then (some (([] : List Pair), r2)) else
 (match_most fu a0 a1 a2).bind fun r8 =>
 (upTo a0).bind fun nn29 =>
 (rangeF (match_Most_B0 r8) nn29 0 ([] : List Pair)).bind fun l26 =>
 some (l26, (0 : Int))
def slices_Repeat_bool_bool_B0 (z20 : Int × (List Bool)) : Option (Ctl (Int × (List Bool)) (List Bool)) :=
 bif decide (z20.1 < (z20.2.length : Int)) then ((cutL z20.2 z20.1 (z20.2.length : Int)).bind fun m26 =>
 (cutL z20.2 0 z20.1).bind fun m30 =>
 Let (copyL z20.2 ((z20.1 : Int).toNat) (((z20.2.length : Int) : Int).toNat) m30) fun p34 =>
 Let p34 fun l37 =>
 some (.go (w64 (z20.1 + (copyN ((z20.1 : Int).toNat) (((z20.2.length : Int) : Int).toNat) m30)), l37))) else
 some (.brk (z20.1, z20.2))
def slices_Repeat_bool_bool (fu : Nat) (a0 : List Bool) (a1 : Int) : Option (List Bool) :=
 bif decide (a1 < (0 : Int)) then (none) else
 (math_bits_Mul (BitVec.ofInt 64 (a0.length : Int)) (BitVec.ofInt 64 a1)).bind fun r3 =>
 (bif decide ((r3.1.toNat : Int) > ((0 : BitVec 64).toNat : Int)) then (some true) else
 some (decide ((r3.2.toNat : Int) > ((9223372036854775807 : BitVec 64).toNat : Int)))).bind fun y8 =>
 bif y8 then (none) else
 (mkLen (w64 (r3.2.toNat : Int))).bind fun n13 =>
 Let (copyL (List.replicate n13 false) 0 ((List.replicate n13 false).length) a0) fun p18 =>
 andThen (whileM (slices_Repeat_bool_bool_B0) fu (copyN 0 ((List.replicate n13 false).length) a0, p18)) fun (y21, l22) =>
 some l22
def math_bits_Len64 (a0 : BitVec 64) : Option Int :=
 (bif decide ((a0.toNat : Int) ≥ ((4294967296 : BitVec 64).toNat : Int)) then (some (a0 >>> 32, (32 : Int))) else
 some (a0, (0 : Int))).bind fun (y1, y2) =>
 (bif decide ((y1.toNat : Int) ≥ ((65536 : BitVec 64).toNat : Int)) then (some (y1 >>> 16, w64 (y2 + (16 : Int)))) else
 some (y1, y2)).bind fun (y7, y8) =>
 (bif decide ((y7.toNat : Int) ≥ ((256 : BitVec 64).toNat : Int)) then (some (y7 >>> 8, w64 (y8 + (8 : Int)))) else
 some (y7, y8)).bind fun (y13, y14) =>
 (lat ([0, 1, 2, 2, 3, 3, 3, 3, 4, 4, 4, 4, 4, 4, 4, 4, 5, 5, 5, 5, 5, 5, 5, 5, 5, 5, 5, 5, 5, 5, 5, 5, 6, 6, 6, 6, 6, 6, 6, 6, 6, 6, 6, 6, 6, 6, 6, 6, 6, 6, 6, 6, 6, 6, 6, 6, 6, 6, 6, 6, 6, 6, 6, 6, 7, 7, 7, 7, 7, 7, 7, 7, 7, 7, 7, 7, 7, 7, 7, 7, 7, 7, 7, 7, 7, 7, 7, 7, 7, 7, 7, 7, 7, 7, 7, 7, 7, 7, 7, 7, 7, 7, 7, 7, 7, 7, 7, 7, 7, 7, 7, 7, 7, 7, 7, 7, 7, 7, 7, 7, 7, 7, 7, 7, 7, 7, 7, 7, 8, 8, 8, 8, 8, 8, 8, 8, 8, 8, 8, 8, 8, 8, 8, 8, 8, 8, 8, 8, 8, 8, 8, 8, 8, 8, 8, 8, 8, 8, 8, 8, 8, 8, 8, 8, 8, 8, 8, 8, 8, 8, 8, 8, 8, 8, 8, 8, 8, 8, 8, 8, 8, 8, 8, 8, 8, 8, 8, 8, 8, 8, 8, 8, 8, 8, 8, 8, 8, 8, 8, 8, 8, 8, 8, 8, 8, 8, 8, 8, 8, 8, 8, 8, 8, 8, 8, 8, 8, 8, 8, 8, 8, 8, 8, 8, 8, 8, 8, 8, 8, 8, 8, 8, 8, 8, 8, 8, 8, 8, 8, 8, 8, 8, 8, 8, 8, 8, 8, 8, 8, 8, 8, 8, 8, 8, 8, 8] : Str) ((BitVec.ofInt 8 (y13.toNat : Int)).toNat : Int)).bind fun x19 =>
 some (w64 (y14 + (x19.toBitVec.toNat : Int)))
def math_bits_Len (a0 : BitVec 64) : Option Int :=
 (math_bits_Len64 a0).bind fun r1 =>
 some r1
def cmp_isNaN_int (a0 : Int) : Option Bool :=
 some (a0 != a0)
def cmp_Compare_int (a0 : Int) (a1 : Int) : Option Int :=
 (cmp_isNaN_int a0).bind fun r1 =>
 (cmp_isNaN_int a1).bind fun r5 =>
 bif r1 then (bif r5 then (some (0 : Int)) else
 some (-1 : Int)) else
 bif r5 then (some (1 : Int)) else
 bif decide (a0 < a1) then (some (-1 : Int)) else
 bif decide (a0 > a1) then (some (1 : Int)) else
 some (0 : Int)
def poset_Chains_1 (a0 : List Int) (a1 : List Int) : Option Int :=
 (lat a0 (0 : Int)).bind fun x1 =>
 (lat a1 (0 : Int)).bind fun x4 =>
 (cmp_Compare_int x1 x4).bind fun r7 =>
 some r7
def slices_insertionSortCmpFunc_int_Chains_1_B2 (a1 : Int) (z11 : Int × (List (List Int))) : Option (Ctl (Int × (List (List Int))) (Ctl (Int × (List (List Int))) (List (List Int)))) :=
 (bif decide (z11.1 > a1) then ((lat z11.2 z11.1).bind fun x22 =>
 (lat z11.2 (w64 (z11.1 - (1 : Int)))).bind fun x26 =>
 (poset_Chains_1 x22 x26).bind fun r30 =>
 some (decide (r30 < (0 : Int)))) else
 some false).bind fun y20 =>
 bif y20 then ((lat z11.2 (w64 (z11.1 - (1 : Int)))).bind fun x35 =>
 (lat z11.2 z11.1).bind fun x39 =>
 (lat z11.2 z11.1).bind fun x43 =>
 Let (z11.2.set z11.1.toNat x35) fun p47 =>
 Let (x39, p47) fun (l53, l55) =>
 (lat l55 (w64 (z11.1 - (1 : Int)))).bind fun x99 =>
 Let (l55.set (w64 (z11.1 - (1 : Int))).toNat l53) fun p103 =>
 some (.go (w64 (z11.1 - (1 : Int)), p103))) else
 some (.brk (z11.1, z11.2))
def slices_insertionSortCmpFunc_int_Chains_1_B0 (fu : Nat) (a1 : Int) (a2 : Int) (z2 : Int × (List (List Int))) : Option (Ctl (Int × (List (List Int))) (List (List Int))) :=
 bif decide (z2.1 < a2) then (andThen (whileM (slices_insertionSortCmpFunc_int_Chains_1_B2 a1) fu (z2.1, z2.2)) fun (y12, l13) =>
 some (.go (w64 (z2.1 + (1 : Int)), l13))) else
 some (.brk (z2.1, z2.2))
def slices_insertionSortCmpFunc_int_Chains_1 (fu : Nat) (a0 : List (List Int)) (a1 : Int) (a2 : Int) : Option (List (List Int)) :=
 andThen (whileM (slices_insertionSortCmpFunc_int_Chains_1_B0 fu a1 a2) fu (w64 (a1 + (1 : Int)), a0)) fun (y3, l4) =>
 some l4
def slices_siftDownCmpFunc_int_Chains_1_B0 (a2 : Int) (a3 : Int) (z2 : Int × (List (List Int))) : Option (Ctl (Int × (List (List Int))) (List (List Int))) :=
 bif decide ((w64 ((w64 ((2 : Int) * z2.1)) + (1 : Int))) ≥ a2) then (some (.brk (z2.1, z2.2))) else
 ((bif decide ((w64 ((w64 ((w64 ((2 : Int) * z2.1)) + (1 : Int))) + (1 : Int))) < a2) then ((lat z2.2 (w64 (a3 + (w64 ((w64 ((2 : Int) * z2.1)) + (1 : Int)))))).bind fun x16 =>
 (lat z2.2 (w64 ((w64 (a3 + (w64 ((w64 ((2 : Int) * z2.1)) + (1 : Int))))) + (1 : Int)))).bind fun x20 =>
 (poset_Chains_1 x16 x20).bind fun r24 =>
 some (decide (r24 < (0 : Int)))) else
 some false).bind fun y14 =>
 bif y14 then (some (w64 ((w64 ((w64 ((2 : Int) * z2.1)) + (1 : Int))) + (1 : Int)))) else
 some (w64 ((w64 ((2 : Int) * z2.1)) + (1 : Int)))).bind fun y11 =>
 (lat z2.2 (w64 (a3 + z2.1))).bind fun x31 =>
 (lat z2.2 (w64 (a3 + y11))).bind fun x35 =>
 (poset_Chains_1 x31 x35).bind fun r39 =>
 bif !(decide (r39 < (0 : Int))) then (some (.ret z2.2)) else
 (lat z2.2 (w64 (a3 + y11))).bind fun x44 =>
 (lat z2.2 (w64 (a3 + z2.1))).bind fun x48 =>
 (lat z2.2 (w64 (a3 + z2.1))).bind fun x52 =>
 Let (z2.2.set (w64 (a3 + z2.1)).toNat x44) fun p56 =>
 Let (x48, p56) fun (l62, l64) =>
 (lat l64 (w64 (a3 + y11))).bind fun x108 =>
 Let (l64.set (w64 (a3 + y11)).toNat l62) fun p112 =>
 some (.go (y11, p112))
def slices_siftDownCmpFunc_int_Chains_1 (fu : Nat) (a0 : List (List Int)) (a1 : Int) (a2 : Int) (a3 : Int) : Option (List (List Int)) :=
 andThen (whileM (slices_siftDownCmpFunc_int_Chains_1_B0 a2 a3) fu (a1, a0)) fun (y3, l4) =>
 some l4
def slices_heapSortCmpFunc_int_Chains_1_B2 (fu : Nat) (a1 : Int) (z11 : Int × (List (List Int))) : Option (Ctl (Int × (List (List Int))) (List (List Int))) :=
 bif decide (z11.1 ≥ (0 : Int)) then ((lat z11.2 (w64 (a1 + z11.1))).bind fun x20 =>
 (lat z11.2 a1).bind fun x24 =>
 (lat z11.2 a1).bind fun x28 =>
 Let (z11.2.set a1.toNat x20) fun p32 =>
 Let (x24, p32) fun (l38, l40) =>
 (lat l40 (w64 (a1 + z11.1))).bind fun x84 =>
 Let (l40.set (w64 (a1 + z11.1)).toNat l38) fun p88 =>
 (slices_siftDownCmpFunc_int_Chains_1 fu p88 (0 : Int) z11.1 a1).bind fun r92 =>
 some (.go (w64 (z11.1 - (1 : Int)), r92))) else
 some (.brk (z11.1, z11.2))
def slices_heapSortCmpFunc_int_Chains_1_B0 (fu : Nat) (a1 : Int) (a2 : Int) (z2 : Int × (List (List Int))) : Option (Ctl (Int × (List (List Int))) (List (List Int))) :=
 bif decide (z2.1 ≥ (0 : Int)) then ((slices_siftDownCmpFunc_int_Chains_1 fu z2.2 z2.1 (w64 (a2 - a1)) a1).bind fun r99 =>
 some (.go (w64 (z2.1 - (1 : Int)), r99))) else
 some (.brk (z2.1, z2.2))
def slices_heapSortCmpFunc_int_Chains_1 (fu : Nat) (a0 : List (List Int)) (a1 : Int) (a2 : Int) : Option (List (List Int)) :=
 andThen (whileM (slices_heapSortCmpFunc_int_Chains_1_B0 fu a1 a2) fu (w64 ((w64 ((w64 (a2 - a1)) - (1 : Int))).tdiv (2 : Int)), a0)) fun (y3, l4) =>
 andThen (whileM (slices_heapSortCmpFunc_int_Chains_1_B2 fu a1) fu (w64 ((w64 (a2 - a1)) - (1 : Int)), l4)) fun (y12, l13) =>
 some l13
def slices_nextPowerOfTwo (a0 : Int) : Option (BitVec 64) :=
 (math_bits_Len (BitVec.ofInt 64 a0)).bind fun r1 =>
 (cnt r1).bind fun n5 =>
 some ((1 : BitVec 64) <<< n5)
def slices_xorshift_Next (a0 : BitVec 64) : Option ((BitVec 64) × (BitVec 64)) :=
 some (((a0 ^^^ (a0 <<< 13)) ^^^ ((a0 ^^^ (a0 <<< 13)) >>> 7)) ^^^ (((a0 ^^^ (a0 <<< 13)) ^^^ ((a0 ^^^ (a0 <<< 13)) >>> 7)) <<< 17), ((a0 ^^^ (a0 <<< 13)) ^^^ ((a0 ^^^ (a0 <<< 13)) >>> 7)) ^^^ (((a0 ^^^ (a0 <<< 13)) ^^^ ((a0 ^^^ (a0 <<< 13)) >>> 7)) <<< 17))
def slices_breakPatternsCmpFunc_int_Chains_1_B0 (a1 : Int) (a2 : Int) (r5 : (BitVec 64)) (z9 : Int × (BitVec 64) × (List (List Int))) : Option (Ctl (Int × (BitVec 64) × (List (List Int))) (List (List Int))) :=
 bif decide (z9.1 ≤ (w64 ((w64 (a1 + (w64 ((w64 ((w64 (a2 - a1)).tdiv (4 : Int))) * (2 : Int))))) + (1 : Int)))) then ((slices_xorshift_Next z9.2.1).bind fun r19 =>
 (bif decide ((w64 ((r19.2 &&& (r5 - (1 : BitVec 64))).toNat : Int)) ≥ (w64 (a2 - a1))) then (some (w64 ((w64 ((r19.2 &&& (r5 - (1 : BitVec 64))).toNat : Int)) - (w64 (a2 - a1))))) else
 some (w64 ((r19.2 &&& (r5 - (1 : BitVec 64))).toNat : Int))).bind fun y23 =>
 (lat z9.2.2 (w64 (a1 + y23))).bind fun x28 =>
 (lat z9.2.2 z9.1).bind fun x32 =>
 (lat z9.2.2 z9.1).bind fun x36 =>
 Let (z9.2.2.set z9.1.toNat x28) fun p40 =>
 Let (x32, p40) fun (l46, l48) =>
 (lat l48 (w64 (a1 + y23))).bind fun x92 =>
 Let (l48.set (w64 (a1 + y23)).toNat l46) fun p96 =>
 some (.go (w64 (z9.1 + (1 : Int)), r19.1, p96))) else
 some (.brk (z9.1, z9.2.1, z9.2.2))
def slices_breakPatternsCmpFunc_int_Chains_1 (fu : Nat) (a0 : List (List Int)) (a1 : Int) (a2 : Int) : Option (List (List Int)) :=
 bif decide ((w64 (a2 - a1)) ≥ (8 : Int)) then ((slices_nextPowerOfTwo (w64 (a2 - a1))).bind fun r5 =>
 andThen (whileM (slices_breakPatternsCmpFunc_int_Chains_1_B0 a1 a2 r5) fu (w64 ((w64 (a1 + (w64 ((w64 ((w64 (a2 - a1)).tdiv (4 : Int))) * (2 : Int))))) - (1 : Int)), BitVec.ofInt 64 (w64 (a2 - a1)), a0)) fun (y10, y11, l12) =>
 some l12) else
 some a0
def slices_order2CmpFunc_int_Chains_1 (a0 : List (List Int)) (a1 : Int) (a2 : Int) (a3 : Int) : Option (Int × Int × Int) :=
 (lat a0 a2).bind fun x2 =>
 (lat a0 a1).bind fun x6 =>
 (poset_Chains_1 x2 x6).bind fun r10 =>
 bif decide (r10 < (0 : Int)) then (some (w64 (a3 + (1 : Int)), a2, a1)) else
 some (a3, a1, a2)
def slices_medianCmpFunc_int_Chains_1 (a0 : List (List Int)) (a1 : Int) (a2 : Int) (a3 : Int) (a4 : Int) : Option (Int × Int) :=
 (slices_order2CmpFunc_int_Chains_1 a0 a1 a2 a4).bind fun r2 =>
 (slices_order2CmpFunc_int_Chains_1 a0 r2.2.2 a3 r2.1).bind fun r6 =>
 (slices_order2CmpFunc_int_Chains_1 a0 r2.2.1 r6.2.1 r6.1).bind fun r10 =>
 some (r10.1, r10.2.2)
def slices_medianAdjacentCmpFunc_int_Chains_1 (a0 : List (List Int)) (a1 : Int) (a2 : Int) : Option (Int × Int) :=
 (slices_medianCmpFunc_int_Chains_1 a0 (w64 (a1 - (1 : Int))) a1 (w64 (a1 + (1 : Int))) a2).bind fun r2 =>
 some (r2.1, r2.2)
def slices_choosePivotCmpFunc_int_Chains_1 (a0 : List (List Int)) (a1 : Int) (a2 : Int) : Option (Int × Int) :=
 (bif decide ((w64 (a2 - a1)) ≥ (8 : Int)) then ((bif decide ((w64 (a2 - a1)) ≥ (50 : Int)) then ((slices_medianAdjacentCmpFunc_int_Chains_1 a0 (w64 (a1 + (w64 ((w64 ((w64 (a2 - a1)).tdiv (4 : Int))) * (1 : Int))))) (0 : Int)).bind fun r13 =>
 (slices_medianAdjacentCmpFunc_int_Chains_1 a0 (w64 (a1 + (w64 ((w64 ((w64 (a2 - a1)).tdiv (4 : Int))) * (2 : Int))))) r13.1).bind fun r17 =>
 (slices_medianAdjacentCmpFunc_int_Chains_1 a0 (w64 (a1 + (w64 ((w64 ((w64 (a2 - a1)).tdiv (4 : Int))) * (3 : Int))))) r17.1).bind fun r21 =>
 some (r13.2, r17.2, r21.2, r21.1)) else
 some (w64 (a1 + (w64 ((w64 ((w64 (a2 - a1)).tdiv (4 : Int))) * (1 : Int)))), w64 (a1 + (w64 ((w64 ((w64 (a2 - a1)).tdiv (4 : Int))) * (2 : Int)))), w64 (a1 + (w64 ((w64 ((w64 (a2 - a1)).tdiv (4 : Int))) * (3 : Int)))), (0 : Int))).bind fun (y7, y8, y9, y10) =>
 (slices_medianCmpFunc_int_Chains_1 a0 y7 y8 y9 y10).bind fun r27 =>
 some (r27.2, r27.1)) else
 some (w64 (a1 + (w64 ((w64 ((w64 (a2 - a1)).tdiv (4 : Int))) * (2 : Int)))), (0 : Int))).bind fun (y3, y4) =>
 bif y4 == (0 : Int) then (some (y3, (1 : Int))) else
 bif y4 == (12 : Int) then (some (y3, (2 : Int))) else
 some (y3, (0 : Int))
def slices_reverseRangeCmpFunc_int_Chains_1_B0 (z2 : Int × Int × (List (List Int))) : Option (Ctl (Int × Int × (List (List Int))) (List (List Int))) :=
 bif decide (z2.1 < z2.2.1) then ((lat z2.2.2 z2.2.1).bind fun x12 =>
 (lat z2.2.2 z2.1).bind fun x16 =>
 (lat z2.2.2 z2.1).bind fun x20 =>
 Let (z2.2.2.set z2.1.toNat x12) fun p24 =>
 Let (x16, p24) fun (l30, l32) =>
 (lat l32 z2.2.1).bind fun x76 =>
 Let (l32.set z2.2.1.toNat l30) fun p80 =>
 some (.go (w64 (z2.1 + (1 : Int)), w64 (z2.2.1 - (1 : Int)), p80))) else
 some (.brk (z2.1, z2.2.1, z2.2.2))
def slices_reverseRangeCmpFunc_int_Chains_1 (fu : Nat) (a0 : List (List Int)) (a1 : Int) (a2 : Int) : Option (List (List Int)) :=
 andThen (whileM (slices_reverseRangeCmpFunc_int_Chains_1_B0) fu (a1, w64 (a2 - (1 : Int)), a0)) fun (y3, y4, l5) =>
 some l5
def slices_partialInsertionSortCmpFunc_int_Chains_1_B4 (z112 : Int × (List (List Int))) : Option (Ctl (Int × (List (List Int))) (List (List Int))) :=
 bif decide (z112.1 ≥ (1 : Int)) then ((lat z112.2 z112.1).bind fun x121 =>
 (lat z112.2 (w64 (z112.1 - (1 : Int)))).bind fun x125 =>
 (poset_Chains_1 x121 x125).bind fun r129 =>
 bif !(decide (r129 < (0 : Int))) then (some (.brk (z112.1, z112.2))) else
 (lat z112.2 (w64 (z112.1 - (1 : Int)))).bind fun x134 =>
 (lat z112.2 z112.1).bind fun x138 =>
 (lat z112.2 z112.1).bind fun x142 =>
 Let (z112.2.set z112.1.toNat x134) fun p146 =>
 Let (x138, p146) fun (l152, l154) =>
 (lat l154 (w64 (z112.1 - (1 : Int)))).bind fun x198 =>
 Let (l154.set (w64 (z112.1 - (1 : Int))).toNat l152) fun p202 =>
 some (.go (w64 (z112.1 - (1 : Int)), p202))) else
 some (.brk (z112.1, z112.2))
def slices_partialInsertionSortCmpFunc_int_Chains_1_B6 (a2 : Int) (z209 : Int × (List (List Int))) : Option (Ctl (Int × (List (List Int))) (Ctl (Int × Int × (List (List Int))) ((List (List Int)) × Bool))) :=
 bif decide (z209.1 < a2) then ((lat z209.2 z209.1).bind fun x218 =>
 (lat z209.2 (w64 (z209.1 - (1 : Int)))).bind fun x222 =>
 (poset_Chains_1 x218 x222).bind fun r226 =>
 bif !(decide (r226 < (0 : Int))) then (some (.brk (z209.1, z209.2))) else
 (lat z209.2 (w64 (z209.1 - (1 : Int)))).bind fun x231 =>
 (lat z209.2 z209.1).bind fun x235 =>
 (lat z209.2 z209.1).bind fun x239 =>
 Let (z209.2.set z209.1.toNat x231) fun p243 =>
 Let (x235, p243) fun (l249, l251) =>
 (lat l251 (w64 (z209.1 - (1 : Int)))).bind fun x295 =>
 Let (l251.set (w64 (z209.1 - (1 : Int))).toNat l249) fun p299 =>
 some (.go (w64 (z209.1 + (1 : Int)), p299))) else
 some (.brk (z209.1, z209.2))
def slices_partialInsertionSortCmpFunc_int_Chains_1_B2 (a2 : Int) (l5 : List (List Int)) (z12 : Int) : Option (Ctl Int (Ctl (Int × Int × (List (List Int))) ((List (List Int)) × Bool))) :=
 (bif decide (z12 < a2) then ((lat l5 z12).bind fun x19 =>
 (lat l5 (w64 (z12 - (1 : Int)))).bind fun x23 =>
 (poset_Chains_1 x19 x23).bind fun r27 =>
 some (!(decide (r27 < (0 : Int))))) else
 some false).bind fun y17 =>
 bif y17 then (some (.go (w64 (z12 + (1 : Int))))) else
 some (.brk z12)
def slices_partialInsertionSortCmpFunc_int_Chains_1_B0 (fu : Nat) (a1 : Int) (a2 : Int) (z2 : Int × Int × (List (List Int))) : Option (Ctl (Int × Int × (List (List Int))) ((List (List Int)) × Bool)) :=
 bif decide (z2.2.1 < (5 : Int)) then (andThen (whileM (slices_partialInsertionSortCmpFunc_int_Chains_1_B2 a2 z2.2.2) fu z2.1) fun y13 =>
 bif y13 == a2 then (some (.ret (z2.2.2, true))) else
 bif decide ((w64 (a2 - a1)) < (50 : Int)) then (some (.ret (z2.2.2, false))) else
 (lat z2.2.2 (w64 (y13 - (1 : Int)))).bind fun x34 =>
 (lat z2.2.2 y13).bind fun x38 =>
 (lat z2.2.2 y13).bind fun x42 =>
 Let (z2.2.2.set y13.toNat x34) fun p46 =>
 Let (x38, p46) fun (l52, l54) =>
 (lat l54 (w64 (y13 - (1 : Int)))).bind fun x98 =>
 Let (l54.set (w64 (y13 - (1 : Int))).toNat l52) fun p102 =>
 (bif decide ((w64 (y13 - a1)) ≥ (2 : Int)) then (andThen (whileM (slices_partialInsertionSortCmpFunc_int_Chains_1_B4) fu (w64 (y13 - (1 : Int)), p102)) fun (y113, l114) =>
 some l114) else
 some p102).bind fun l106 =>
 bif decide ((w64 (a2 - y13)) ≥ (2 : Int)) then (andThen (whileM (slices_partialInsertionSortCmpFunc_int_Chains_1_B6 a2) fu (w64 (y13 + (1 : Int)), l106)) fun (y210, l211) =>
 some (.go (y13, w64 (z2.2.1 + (1 : Int)), l211))) else
 some (.go (y13, w64 (z2.2.1 + (1 : Int)), l106))) else
 some (.brk (z2.1, z2.2.1, z2.2.2))
def slices_partialInsertionSortCmpFunc_int_Chains_1 (fu : Nat) (a0 : List (List Int)) (a1 : Int) (a2 : Int) : Option ((List (List Int)) × Bool) :=
 andThen (whileM (slices_partialInsertionSortCmpFunc_int_Chains_1_B0 fu a1 a2) fu (w64 (a1 + (1 : Int)), (0 : Int), a0)) fun (y3, y4, l5) =>
 some (l5, false)
def slices_partitionEqualCmpFunc_int_Chains_1_B4 (a1 : Int) (l77 : List (List Int)) (y84 : Int) (z103 : Int) : Option (Ctl Int (Ctl (Int × Int × (List (List Int))) ((List (List Int)) × Int))) :=
 (bif decide (y84 ≤ z103) then ((lat l77 a1).bind fun x110 =>
 (lat l77 z103).bind fun x114 =>
 (poset_Chains_1 x110 x114).bind fun r118 =>
 some (decide (r118 < (0 : Int)))) else
 some false).bind fun y108 =>
 bif y108 then (some (.go (w64 (z103 - (1 : Int))))) else
 some (.brk z103)
def slices_partitionEqualCmpFunc_int_Chains_1_B2 (a1 : Int) (y76 : Int) (l77 : List (List Int)) (z83 : Int) : Option (Ctl Int (Ctl (Int × Int × (List (List Int))) ((List (List Int)) × Int))) :=
 (bif decide (z83 ≤ y76) then ((lat l77 a1).bind fun x90 =>
 (lat l77 z83).bind fun x94 =>
 (poset_Chains_1 x90 x94).bind fun r98 =>
 some (!(decide (r98 < (0 : Int))))) else
 some false).bind fun y88 =>
 bif y88 then (some (.go (w64 (z83 + (1 : Int))))) else
 some (.brk z83)
def slices_partitionEqualCmpFunc_int_Chains_1_B0 (fu : Nat) (a1 : Int) (z74 : Int × Int × (List (List Int))) : Option (Ctl (Int × Int × (List (List Int))) ((List (List Int)) × Int)) :=
 andThen (whileM (slices_partitionEqualCmpFunc_int_Chains_1_B2 a1 z74.2.1 z74.2.2) fu z74.1) fun y84 =>
 andThen (whileM (slices_partitionEqualCmpFunc_int_Chains_1_B4 a1 z74.2.2 y84) fu z74.2.1) fun y104 =>
 bif decide (y84 > y104) then (some (.brk (y84, y104, z74.2.2))) else
 (lat z74.2.2 y104).bind fun x124 =>
 (lat z74.2.2 y84).bind fun x128 =>
 (lat z74.2.2 y84).bind fun x132 =>
 Let (z74.2.2.set y84.toNat x124) fun p136 =>
 Let (x128, p136) fun (l142, l144) =>
 (lat l144 y104).bind fun x188 =>
 Let (l144.set y104.toNat l142) fun p192 =>
 some (.go (w64 (y84 + (1 : Int)), w64 (y104 - (1 : Int)), p192))
def slices_partitionEqualCmpFunc_int_Chains_1 (fu : Nat) (a0 : List (List Int)) (a1 : Int) (a2 : Int) (a3 : Int) : Option ((List (List Int)) × Int) :=
 (lat a0 a3).bind fun x2 =>
 (lat a0 a1).bind fun x6 =>
 (lat a0 a1).bind fun x10 =>
 Let (a0.set a1.toNat x2) fun p14 =>
 Let (x6, p14) fun (l20, l22) =>
 (lat l22 a3).bind fun x66 =>
 Let (l22.set a3.toNat l20) fun p70 =>
 andThen (whileM (slices_partitionEqualCmpFunc_int_Chains_1_B0 fu a1) fu (w64 (a1 + (1 : Int)), w64 (a2 - (1 : Int)), p70)) fun (y75, y76, l77) =>
 some (l77, y75)
def slices_partitionCmpFunc_int_Chains_1_B8 (a1 : Int) (l262 : List (List Int)) (y269 : Int) (z288 : Int) : Option (Ctl Int (Ctl (Int × Int × (List (List Int))) ((List (List Int)) × Int × Bool))) :=
 (bif decide (y269 ≤ z288) then ((lat l262 z288).bind fun x295 =>
 (lat l262 a1).bind fun x299 =>
 (poset_Chains_1 x295 x299).bind fun r303 =>
 some (!(decide (r303 < (0 : Int))))) else
 some false).bind fun y293 =>
 bif y293 then (some (.go (w64 (z288 - (1 : Int))))) else
 some (.brk z288)
def slices_partitionCmpFunc_int_Chains_1_B6 (a1 : Int) (y261 : Int) (l262 : List (List Int)) (z268 : Int) : Option (Ctl Int (Ctl (Int × Int × (List (List Int))) ((List (List Int)) × Int × Bool))) :=
 (bif decide (z268 ≤ y261) then ((lat l262 z268).bind fun x275 =>
 (lat l262 a1).bind fun x279 =>
 (poset_Chains_1 x275 x279).bind fun r283 =>
 some (decide (r283 < (0 : Int)))) else
 some false).bind fun y273 =>
 bif y273 then (some (.go (w64 (z268 + (1 : Int))))) else
 some (.brk z268)
def slices_partitionCmpFunc_int_Chains_1_B4 (fu : Nat) (a1 : Int) (z259 : Int × Int × (List (List Int))) : Option (Ctl (Int × Int × (List (List Int))) ((List (List Int)) × Int × Bool)) :=
 andThen (whileM (slices_partitionCmpFunc_int_Chains_1_B6 a1 z259.2.1 z259.2.2) fu z259.1) fun y269 =>
 andThen (whileM (slices_partitionCmpFunc_int_Chains_1_B8 a1 z259.2.2 y269) fu z259.2.1) fun y289 =>
 bif decide (y269 > y289) then (some (.brk (y269, y289, z259.2.2))) else
 (lat z259.2.2 y289).bind fun x381 =>
 (lat z259.2.2 y269).bind fun x385 =>
 (lat z259.2.2 y269).bind fun x389 =>
 Let (z259.2.2.set y269.toNat x381) fun p393 =>
 Let (x385, p393) fun (l399, l401) =>
 (lat l401 y289).bind fun x445 =>
 Let (l401.set y289.toNat l399) fun p449 =>
 some (.go (w64 (y269 + (1 : Int)), w64 (y289 - (1 : Int)), p449))
def slices_partitionCmpFunc_int_Chains_1_B2 (a1 : Int) (p70 : List (List Int)) (y75 : Int) (z94 : Int) : Option (Ctl Int ((List (List Int)) × Int × Bool)) :=
 (bif decide (y75 ≤ z94) then ((lat p70 z94).bind fun x101 =>
 (lat p70 a1).bind fun x105 =>
 (poset_Chains_1 x101 x105).bind fun r109 =>
 some (!(decide (r109 < (0 : Int))))) else
 some false).bind fun y99 =>
 bif y99 then (some (.go (w64 (z94 - (1 : Int))))) else
 some (.brk z94)
def slices_partitionCmpFunc_int_Chains_1_B0 (a1 : Int) (a2 : Int) (p70 : List (List Int)) (z74 : Int) : Option (Ctl Int ((List (List Int)) × Int × Bool)) :=
 (bif decide (z74 ≤ (w64 (a2 - (1 : Int)))) then ((lat p70 z74).bind fun x81 =>
 (lat p70 a1).bind fun x85 =>
 (poset_Chains_1 x81 x85).bind fun r89 =>
 some (decide (r89 < (0 : Int)))) else
 some false).bind fun y79 =>
 bif y79 then (some (.go (w64 (z74 + (1 : Int))))) else
 some (.brk z74)
def slices_partitionCmpFunc_int_Chains_1 (fu : Nat) (a0 : List (List Int)) (a1 : Int) (a2 : Int) (a3 : Int) : Option ((List (List Int)) × Int × Bool) :=
 (lat a0 a3).bind fun x2 =>
 (lat a0 a1).bind fun x6 =>
 (lat a0 a1).bind fun x10 =>
 Let (a0.set a1.toNat x2) fun p14 =>
 Let (x6, p14) fun (l20, l22) =>
 (lat l22 a3).bind fun x66 =>
 Let (l22.set a3.toNat l20) fun p70 =>
 andThen (whileM (slices_partitionCmpFunc_int_Chains_1_B0 a1 a2 p70) fu (w64 (a1 + (1 : Int)))) fun y75 =>
 andThen (whileM (slices_partitionCmpFunc_int_Chains_1_B2 a1 p70 y75) fu (w64 (a2 - (1 : Int)))) fun y95 =>
 bif decide (y75 > y95) then ((lat p70 a1).bind fun x115 =>
 (lat p70 y95).bind fun x119 =>
 (lat p70 y95).bind fun x123 =>
 Let (p70.set y95.toNat x115) fun p127 =>
 Let (x119, p127) fun (l133, l135) =>
 (lat l135 a1).bind fun x179 =>
 Let (l135.set a1.toNat l133) fun p183 =>
 some (p183, y95, true)) else
 (lat p70 y95).bind fun x187 =>
 (lat p70 y75).bind fun x191 =>
 (lat p70 y75).bind fun x195 =>
 Let (p70.set y75.toNat x187) fun p199 =>
 Let (x191, p199) fun (l205, l207) =>
 (lat l207 y95).bind fun x251 =>
 Let (l207.set y95.toNat l205) fun p255 =>
 andThen (whileM (slices_partitionCmpFunc_int_Chains_1_B4 fu a1) fu (w64 (y75 + (1 : Int)), w64 (y95 - (1 : Int)), p255)) fun (y260, y261, l262) =>
 (lat l262 a1).bind fun x453 =>
 (lat l262 y261).bind fun x457 =>
 (lat l262 y261).bind fun x461 =>
 Let (l262.set y261.toNat x453) fun p465 =>
 Let (x457, p465) fun (l471, l473) =>
 (lat l473 a1).bind fun x517 =>
 Let (l473.set a1.toNat l471) fun p521 =>
 some (p521, y261, false)
def slices_pdqsortCmpFunc_int_Chains_1_B0 (fu : Nat) (rc : (List (List Int)) → Int → Int → Int → Option (List (List Int))) (z2 : Int × Int × Int × Bool × Bool × (List (List Int))) : Option (Ctl (Int × Int × Int × Bool × Bool × (List (List Int))) (List (List Int))) :=
 bif decide ((w64 (z2.2.1 - z2.1)) ≤ (12 : Int)) then ((slices_insertionSortCmpFunc_int_Chains_1 fu z2.2.2.2.2.2 z2.1 z2.2.1).bind fun r15 =>
 some (.ret r15)) else
 bif z2.2.2.1 == (0 : Int) then ((slices_heapSortCmpFunc_int_Chains_1 fu z2.2.2.2.2.2 z2.1 z2.2.1).bind fun r23 =>
 some (.ret r23)) else
 (bif !z2.2.2.2.1 then ((slices_breakPatternsCmpFunc_int_Chains_1 fu z2.2.2.2.2.2 z2.1 z2.2.1).bind fun r37 =>
 some (w64 (z2.2.2.1 - (1 : Int)), r37)) else
 some (z2.2.2.1, z2.2.2.2.2.2)).bind fun (y30, l31) =>
 (slices_choosePivotCmpFunc_int_Chains_1 l31 z2.1 z2.2.1).bind fun r46 =>
 (bif r46.2 == (2 : Int) then ((slices_reverseRangeCmpFunc_int_Chains_1 fu l31 z2.1 z2.2.1).bind fun r58 =>
 some (w64 ((w64 (z2.2.1 - (1 : Int))) - (w64 (r46.1 - z2.1))), (1 : Int), r58)) else
 some (r46.1, r46.2, l31)).bind fun (y50, y51, l52) =>
 andThen ((bif z2.2.2.2.1 then (some z2.2.2.2.2.1) else
 some false).bind fun y73 =>
 (bif y73 then (some (y51 == (1 : Int))) else
 some false).bind fun y78 =>
 bif y78 then ((slices_partialInsertionSortCmpFunc_int_Chains_1 fu l52 z2.1 z2.2.1).bind fun r83 =>
 bif r83.2 then (some (.inr (.ret r83.1))) else
 some (.inl r83.1)) else
 some (.inl l52)) fun l67 =>
 (bif decide (z2.1 > (0 : Int)) then ((lat l67 (w64 (z2.1 - (1 : Int)))).bind fun x96 =>
 (lat l67 y50).bind fun x100 =>
 (poset_Chains_1 x96 x100).bind fun r104 =>
 some (!(decide (r104 < (0 : Int))))) else
 some false).bind fun y94 =>
 bif y94 then ((slices_partitionEqualCmpFunc_int_Chains_1 fu l67 z2.1 z2.2.1 y50).bind fun r109 =>
 some (.go (r109.2, z2.2.1, y30, z2.2.2.2.1, z2.2.2.2.2.1, r109.1))) else
 (slices_partitionCmpFunc_int_Chains_1 fu l67 z2.1 z2.2.1 y50).bind fun r116 =>
 bif decide ((w64 (r116.2.1 - z2.1)) < (w64 (z2.2.1 - r116.2.1))) then ((rc r116.1 z2.1 r116.2.1 y30).bind fun r131 =>
 some (.go (w64 (r116.2.1 + (1 : Int)), z2.2.1, y30, decide ((w64 (r116.2.1 - z2.1)) ≥ (w64 ((w64 (z2.2.1 - z2.1)).tdiv (8 : Int)))), r116.2.2, r131))) else
 (rc r116.1 (w64 (r116.2.1 + (1 : Int))) z2.2.1 y30).bind fun r124 =>
 some (.go (z2.1, r116.2.1, y30, decide ((w64 (z2.2.1 - r116.2.1)) ≥ (w64 ((w64 (z2.2.1 - z2.1)).tdiv (8 : Int)))), r116.2.2, r124))
def slices_pdqsortCmpFunc_int_Chains_1_R (fu : Nat) (rc : (List (List Int)) → Int → Int → Int → Option (List (List Int))) (a0 : List (List Int)) (a1 : Int) (a2 : Int) (a3 : Int) : Option (List (List Int)) :=
 andThen (whileM (slices_pdqsortCmpFunc_int_Chains_1_B0 fu rc) fu (a1, a2, a3, true, true, a0)) fun (y3, y4, y5, y6, y7, l8) =>
 none
def slices_pdqsortCmpFunc_int_Chains_1 : (fu : Nat) → (a0 : List (List Int)) → (a1 : Int) → (a2 : Int) → (a3 : Int) → Option (List (List Int))
  | 0, _, _, _, _ => none
  | fu + 1, a0, a1, a2, a3 => slices_pdqsortCmpFunc_int_Chains_1_R fu (slices_pdqsortCmpFunc_int_Chains_1 fu) a0 a1 a2 a3
def slices_SortFunc_int_int_Chains_1 (fu : Nat) (a0 : List (List Int)) : Option (List (List Int)) :=
 (math_bits_Len (BitVec.ofInt 64 (a0.length : Int))).bind fun r3 =>
 (slices_pdqsortCmpFunc_int_Chains_1 fu a0 (0 : Int) (a0.length : Int) r3).bind fun r7 =>
 some r7
def poset_Chains_B4 (l57 : List Int) (z90 : Int × (List Int)) : Option (Ctl (Int × (List Int)) (List (List Int))) :=
 bif decide (z90.1 ≥ (0 : Int)) then ((room z90.2 ([z90.1] : List Int)).bind fun u112 =>
 (lat l57 z90.1).bind fun x115 =>
 some (.go (x115, z90.2 ++ ([z90.1] : List Int)))) else
 some (.brk (z90.1, z90.2))
def poset_Chains_B2 (fu : Nat) (l56 : List Bool) (l57 : List Int) (i77 : Nat) (z77 : (List (List Int))) : Option (List (List Int)) :=
 (lat l56 (i77 : Int)).bind fun x85 =>
 bif !x85 then (some z77) else
 andThen (whileM (poset_Chains_B4 l57) fu ((i77 : Int), ([] : List Int))) fun (y91, l93) =>
 (room z77 ([l93] : List (List Int))).bind fun u105 =>
 some (z77 ++ ([l93] : List (List Int)))
def poset_Chains_B0 (l28 : List Pair) (i55 : Nat) (z55 : (List Bool) × (List Int)) : Option ((List Bool) × (List Int)) :=
 (lat l28 (i55 : Int)).bind fun x60 =>
 (lat z55.2 x60.A).bind fun x65 =>
 Let (z55.2.set x60.A.toNat x60.B) fun p68 =>
 (lat z55.1 x60.B).bind fun x70 =>
 Let (z55.1.set x60.B.toNat false) fun p73 =>
 some (p73, p68)
def poset_Chains (fu : Nat) (a0 : Poset) : Option ((List (List Int)) × Int) :=
 (poset_check a0).bind fun r5 =>
 bif r5.2 != (0 : Int) then (some (([] : List (List Int)), r5.2)) else
 (poset_order_all r5.1 a0.N).bind fun r14 =>
 (match_Most fu a0.N a0.N r14).bind fun r20 =>
 Let r20.1 fun l28 =>
 (slices_Repeat_int_int fu ([(-1 : Int)] : List Int) a0.N).bind fun r41 =>
 (slices_Repeat_bool_bool fu ([true] : List Bool) a0.N).bind fun r49 =>
 (rangeF (poset_Chains_B0 l28) l28.length 0 (r49, r41)).bind fun (l56, l57) =>
 (rangeF (poset_Chains_B2 fu l56 l57) l56.length 0 ([] : List (List Int))).bind fun l79 =>
 (slices_SortFunc_int_int_Chains_1 fu l79).bind fun r118 =>
 some (r118, (0 : Int))
def slices_Contains_int_int (a0 : List Int) (a1 : Int) : Option Bool :=
 (slices_Index_int_int a0 a1).bind fun r1 =>
 some (decide (r1 ≥ (0 : Int)))
def match_Cover_1_B0 (a2_p : Graph) (x17 : List Bool) (rc : Int → (List Bool) → Graph → (List Bool) → Option ((List Bool) × (List Bool))) (i21 : Nat) (z21 : (List Bool) × (List Bool)) : Option ((List Bool) × (List Bool)) :=
 (lat x17 (i21 : Int)).bind fun x26 =>
 (bif x26 then ((lat z21.2 (i21 : Int)).bind fun x32 =>
 some (!x32)) else
 some false).bind fun y30 =>
 bif y30 then ((lat z21.2 (i21 : Int)).bind fun x38 =>
 Let (z21.2.set (i21 : Int).toNat true) fun p41 =>
 (lat a2_p.left (i21 : Int)).bind fun x43 =>
 bif decide (x43 ≥ (0 : Int)) then ((lat a2_p.left (i21 : Int)).bind fun x47 =>
 (rc x47 z21.1 a2_p p41).bind fun r50 =>
 some (r50.1, r50.2)) else
 some (z21.1, p41)) else
 some (z21.1, z21.2)
def match_Cover_1_R (rc : Int → (List Bool) → Graph → (List Bool) → Option ((List Bool) × (List Bool))) (a0 : Int) (a1 : List Bool) (a2_p : Graph) (a3 : List Bool) : Option ((List Bool) × (List Bool)) :=
 (lat a1 a0).bind fun x8 =>
 bif x8 then (some (a1, a3)) else
 (lat a1 a0).bind fun x12 =>
 Let (a1.set a0.toNat true) fun p15 =>
 (lat a2_p.may a0).bind fun x17 =>
 (rangeF (match_Cover_1_B0 a2_p x17 rc) x17.length 0 (p15, a3)).bind fun (l22, l23) =>
 some (l22, l23)
def match_Cover_1 : (fu : Nat) → (a0 : Int) → (a1 : List Bool) → (a2_p : Graph) → (a3 : List Bool) → Option ((List Bool) × (List Bool))
  | 0, _, _, _, _ => none
  | fu + 1, a0, a1, a2_p, a3 => match_Cover_1_R (match_Cover_1 fu) a0 a1 a2_p a3
def match_Cover_B4 (l167 : List Bool) (i197 : Nat) (z197 : (List Int)) : Option (List Int) :=
 (lat l167 (i197 : Int)).bind fun x202 =>
 bif x202 then ((room z197 ([(i197 : Int)] : List Int)).bind fun u208 =>
 some (z197 ++ ([(i197 : Int)] : List Int))) else
 some z197
def match_Cover_B2 (l168 : List Bool) (i183 : Nat) (z183 : (List Int)) : Option (List Int) :=
 (lat l168 (i183 : Int)).bind fun x188 =>
 bif !x188 then ((room z183 ([(i183 : Int)] : List Int)).bind fun u194 =>
 some (z183 ++ ([(i183 : Int)] : List Int))) else
 some z183
def match_Cover_B0 (fu : Nat) (r10 : Graph) (i166 : Nat) (z166 : (List Bool) × (List Bool)) : Option ((List Bool) × (List Bool)) :=
 (slices_Contains_int_int r10.left (i166 : Int)).bind fun r172 =>
 bif !r172 then ((match_Cover_1 fu (i166 : Int) z166.2 r10 z166.1).bind fun r177 =>
 some (r177.2, r177.1)) else
 some (z166.1, z166.2)
def match_Cover (fu : Nat) (a0 : Int) (a1 : Int) (a2 : List Pair) : Option ((List Int) × (List Int) × Int) :=
 (match_Check a0 a1 a2).bind fun r3 =>
 bif r3 != (0 : Int) then (some (([] : List Int), ([] : List Int), r3)) else
 (match_most fu a0 a1 a2).bind fun r10 =>
 (mkLen a0).bind fun n27 =>
 (mkLen a1).bind fun n32 =>
 Let (([] : List Bool), (List.replicate n32 false), (List.replicate n27 false)) fun (l46, l49, l51) =>
 (upTo a0).bind fun nn171 =>
 (rangeF (match_Cover_B0 fu r10) nn171 0 (l49, l51)).bind fun (l167, l168) =>
 (rangeF (match_Cover_B2 l168) l168.length 0 ([] : List Int)).bind fun l185 =>
 (rangeF (match_Cover_B4 l167) l167.length 0 ([] : List Int)).bind fun l199 =>
 some (l185, l199, (0 : Int))
def poset_Apart_B0 (l28 : List Int) (l30 : List Int) (i43 : Nat) (z43 : (List Int)) : Option (List Int) :=
 (slices_Contains_int_int l28 (i43 : Int)).bind fun r49 =>
 (bif !r49 then ((slices_Contains_int_int l30 (i43 : Int)).bind fun r56 =>
 some (!r56)) else
 some false).bind fun y54 =>
 bif y54 then ((room z43 ([(i43 : Int)] : List Int)).bind fun u65 =>
 some (z43 ++ ([(i43 : Int)] : List Int))) else
 some z43
def poset_Apart (fu : Nat) (a0 : Poset) : Option ((List Int) × Int) :=
 (poset_check a0).bind fun r4 =>
 bif r4.2 != (0 : Int) then (some (([] : List Int), r4.2)) else
 (poset_order_all r4.1 a0.N).bind fun r12 =>
 (match_Cover fu a0.N a0.N r12).bind fun r18 =>
 Let (r18.1, r18.2.1) fun (l28, l30) =>
 (upTo a0.N).bind fun nn48 =>
 (rangeF (poset_Apart_B0 l28 l30) nn48 0 ([] : List Int)).bind fun l45 =>
 some (l45, (0 : Int))
def partref_AllPairs_B4 (r4 : (List (List Bool))) (i14 : Nat) (i20 : Nat) (i26 : Nat) (z26 : Bool) : Option Bool :=
 bif z26 then (some true) else
 (lat r4 (i14 : Int)).bind fun x32 =>
 (lat x32 (i26 : Int)).bind fun x37 =>
 (bif x37 then ((lat r4 (i26 : Int)).bind fun x43 =>
 (lat x43 (i20 : Int)).bind fun x48 =>
 some x48) else
 some false).bind fun y41 =>
 some y41
def partref_AllPairs_B2 (a0 : Poset) (a1 : Bool) (r4 : (List (List Bool))) (i14 : Nat) (i20 : Nat) (z20 : (List Pair)) : Option (List Pair) :=
 (upTo a0.N).bind fun nn30 =>
 (rangeF (partref_AllPairs_B4 r4 i14 i20) nn30 0 false).bind fun y27 =>
 (lat r4 (i14 : Int)).bind fun x53 =>
 (lat x53 (i20 : Int)).bind fun x58 =>
 bif x58 then ((bif a1 then (some y27) else
 some false).bind fun y63 =>
 bif !y63 then ((room z20 ([({ Pair.zero with A := (i14 : Int), B := (i20 : Int) } : Pair)] : List Pair)).bind fun u70 =>
 some (z20 ++ ([({ Pair.zero with A := (i14 : Int), B := (i20 : Int) } : Pair)] : List Pair))) else
 some z20) else
 some z20
def partref_AllPairs_B0 (a0 : Poset) (a1 : Bool) (r4 : (List (List Bool))) (i14 : Nat) (z14 : (List Pair)) : Option (List Pair) :=
 (upTo a0.N).bind fun nn25 =>
 (rangeF (partref_AllPairs_B2 a0 a1 r4 i14) nn25 0 z14).bind fun l22 =>
 some l22
def partref_AllPairs (fu : Nat) (a0 : Poset) (a1 : Bool) : Option (List Pair) :=
 (partref_Closure fu a0.N a0.Pairs).bind fun r4 =>
 (upTo a0.N).bind fun nn19 =>
 (rangeF (partref_AllPairs_B0 a0 a1 r4) nn19 0 ([] : List Pair)).bind fun l16 =>
 some l16
def slices_Index_api_Pair_api_Pair_B0 (a0 : List Pair) (a1 : Pair) (i3 : Nat) (z3 : Unit) : Option (Ctl Unit Int) :=
 (lat a0 (i3 : Int)).bind fun x6 =>
 bif decide (a1 = x6) then (some (.ret (i3 : Int))) else
 some (.go ())
def slices_Index_api_Pair_api_Pair (a0 : List Pair) (a1 : Pair) : Option Int :=
 andThen (rangeM (slices_Index_api_Pair_api_Pair_B0 a0 a1) a0.length 0 ()) fun _ =>
 some (-1 : Int)
def slices_Contains_api_Pair_api_Pair (a0 : List Pair) (a1 : Pair) : Option Bool :=
 (slices_Index_api_Pair_api_Pair a0 a1).bind fun r3 =>
 some (decide (r3 ≥ (0 : Int)))
def partref_Most_1 (a0 : Int) (a1 : Int) (a2 : List Pair) : Option Bool :=
 (slices_Contains_api_Pair_api_Pair a2 ({ Pair.zero with A := a0, B := a1 } : Pair)).bind fun r2 =>
 some r2
def partref_Most_2_B0 (a0 : Int) (a2 : Int) (a3_c0 : List Pair) (rc : Int → (List Bool) → Int → (List Pair) → (List Int) → Option ((List Bool) × (List Int) × Bool)) (i8 : Nat) (z8 : (List Bool) × (List Int)) : Option (Ctl ((List Bool) × (List Int)) ((List Bool) × (List Int) × Bool)) :=
 (partref_Most_1 a0 (i8 : Int) a3_c0).bind fun r14 =>
 (bif !r14 then (some true) else
 (lat z8.1 (i8 : Int)).bind fun x21 =>
 some x21).bind fun y19 =>
 bif y19 then (some (.go (z8.1, z8.2))) else
 (lat z8.1 (i8 : Int)).bind fun x27 =>
 Let (z8.1.set (i8 : Int).toNat true) fun p30 =>
 (slices_Index_int_int z8.2 (i8 : Int)).bind fun r32 =>
 bif decide (r32 ≥ (0 : Int)) then ((rc r32 p30 a2 a3_c0 z8.2).bind fun r45 =>
 bif !r45.2.2 then (some (.go (r45.1, r45.2.1))) else
 ((lat r45.2.1 r32).bind fun x52 =>
 bif x52 == (i8 : Int) then ((lat r45.2.1 r32).bind fun x56 =>
 Let (r45.2.1.set r32.toNat (-1 : Int)) fun p59 =>
 some p59) else
 some r45.2.1).bind fun l50 =>
 (lat l50 a0).bind fun x63 =>
 Let (l50.set a0.toNat (i8 : Int)) fun p66 =>
 some (.ret (r45.1, p66, true))) else
 (some ()).bind fun _ =>
 (lat z8.2 a0).bind fun x40 =>
 Let (z8.2.set a0.toNat (i8 : Int)) fun p43 =>
 some (.ret (p30, p43, true))
def partref_Most_2_R (rc : Int → (List Bool) → Int → (List Pair) → (List Int) → Option ((List Bool) × (List Int) × Bool)) (a0 : Int) (a1 : List Bool) (a2 : Int) (a3_c0 : List Pair) (a4 : List Int) : Option ((List Bool) × (List Int) × Bool) :=
 (upTo a2).bind fun nn13 =>
 andThen (rangeM (partref_Most_2_B0 a0 a2 a3_c0 rc) nn13 0 (a1, a4)) fun (l9, l10) =>
 some (l9, l10, false)
def partref_Most_2 : (fu : Nat) → (a0 : Int) → (a1 : List Bool) → (a2 : Int) → (a3_c0 : List Pair) → (a4 : List Int) → Option ((List Bool) × (List Int) × Bool)
  | 0, _, _, _, _, _ => none
  | fu + 1, a0, a1, a2, a3_c0, a4 => partref_Most_2_R (partref_Most_2 fu) a0 a1 a2 a3_c0 a4
def partref_Most_B0 (fu : Nat) (a1 : Int) (a2 : List Pair) (i21 : Nat) (z21 : (List Int)) : Option (List Int) :=
 (mkLen a1).bind fun n26 =>
 Let (List.replicate n26 false) fun l33 =>
 (partref_Most_2 fu (i21 : Int) l33 a1 a2 z21).bind fun r40 =>
 some r40.2.1
def partref_Most (fu : Nat) (a0 : Int) (a1 : Int) (a2 : List Pair) : Option (List Int) :=
 (slices_Repeat_int_int fu ([(-1 : Int)] : List Int) a0).bind fun r10 =>
 (upTo a0).bind fun nn25 =>
 (rangeF (partref_Most_B0 fu a1 a2) nn25 0 r10).bind fun l22 =>
 some l22
def partref_Chains_B2 (r21 : (List Int)) (z44 : Int × (List Int)) : Option (Ctl (Int × (List Int)) (List (List Int))) :=
 bif decide (z44.1 ≥ (0 : Int)) then ((room z44.2 ([z44.1] : List Int)).bind fun u66 =>
 (lat r21 z44.1).bind fun x69 =>
 some (.go (x69, z44.2 ++ ([z44.1] : List Int)))) else
 some (.brk (z44.1, z44.2))
def partref_Chains_B0 (fu : Nat) (r21 : (List Int)) (i29 : Nat) (z29 : (List (List Int))) : Option (List (List Int)) :=
 (slices_Contains_int_int r21 (i29 : Int)).bind fun r38 =>
 bif r38 then (some z29) else
 andThen (whileM (partref_Chains_B2 r21) fu ((i29 : Int), ([] : List Int))) fun (y45, l47) =>
 (room z29 ([l47] : List (List Int))).bind fun u59 =>
 some (z29 ++ ([l47] : List (List Int)))
def partref_Chains (fu : Nat) (a0 : Poset) : Option (List (List Int)) :=
 (partref_AllPairs fu a0 false).bind fun r5 =>
 Let r5 fun l13 =>
 (partref_Most fu a0.N a0.N l13).bind fun r21 =>
 (upTo a0.N).bind fun nn37 =>
 (rangeF (partref_Chains_B0 fu r21) nn37 0 ([] : List (List Int))).bind fun l31 =>
 some l31
def slices_Equal_int_int_B0 (a0 : List Int) (a1 : List Int) (i2 : Nat) (z2 : Unit) : Option (Ctl Unit Bool) :=
 (lat a0 (i2 : Int)).bind fun x5 =>
 (lat a1 (i2 : Int)).bind fun x8 =>
 bif x5 != x8 then (some (.ret false)) else
 some (.go ())
def slices_Equal_int_int (a0 : List Int) (a1 : List Int) : Option Bool :=
 bif (a0.length : Int) != (a1.length : Int) then (some false) else
 andThen (rangeM (slices_Equal_int_int_B0 a0 a1) a0.length 0 ()) fun _ =>
 some true
def slices_EqualFunc_int_int_int_int_int_int_B0 (a0 : List (List Int)) (a1 : List (List Int)) (i5 : Nat) (z5 : Unit) : Option (Ctl Unit Bool) :=
 (lat a0 (i5 : Int)).bind fun x8 =>
 (lat a1 (i5 : Int)).bind fun x12 =>
 (slices_Equal_int_int x8 x12).bind fun r16 =>
 bif !r16 then (some (.ret false)) else
 some (.go ())
def slices_EqualFunc_int_int_int_int_int_int (a0 : List (List Int)) (a1 : List (List Int)) : Option Bool :=
 bif (a0.length : Int) != (a1.length : Int) then (some false) else
 andThen (rangeM (slices_EqualFunc_int_int_int_int_int_int_B0 a0 a1) a0.length 0 ()) fun _ =>
 some true
def partref_Cover_B6 (r3 : (List Int)) (l56 : List Bool) (i78 : Nat) (z78 : (List Bool)) : Option (List Bool) :=
 (lat r3 (i78 : Int)).bind fun x82 =>
 (lat z78 (i78 : Int)).bind fun x85 =>
 bif x85 then ((lat z78 (i78 : Int)).bind fun x89 =>
 Let (z78.set (i78 : Int).toNat true) fun p92 =>
 some p92) else
 (bif decide (x82 ≥ (0 : Int)) then ((lat l56 x82).bind fun x97 =>
 some x97) else
 some false).bind fun y95 =>
 (lat z78 (i78 : Int)).bind fun x102 =>
 Let (z78.set (i78 : Int).toNat y95) fun p105 =>
 some p105
def partref_Cover_B4 (a2 : List Pair) (l51 : List Bool) (i55 : Nat) (z55 : (List Bool)) : Option (List Bool) :=
 (lat a2 (i55 : Int)).bind fun x59 =>
 (lat z55 x59.B).bind fun x64 =>
 (bif x64 then (some true) else
 (lat l51 x59.A).bind fun x70 =>
 some x70).bind fun y68 =>
 (lat z55 x59.B).bind fun x73 =>
 Let (z55.set x59.B.toNat y68) fun p76 =>
 some p76
def partref_Cover_B10 (l50 : List Bool) (i126 : Nat) (z126 : (List Int)) : Option (List Int) :=
 (lat l50 (i126 : Int)).bind fun x132 =>
 bif x132 then ((room z126 ([(i126 : Int)] : List Int)).bind fun u138 =>
 some (z126 ++ ([(i126 : Int)] : List Int))) else
 some z126
def partref_Cover_B8 (l51 : List Bool) (i111 : Nat) (z111 : (List Int)) : Option (List Int) :=
 (lat l51 (i111 : Int)).bind fun x117 =>
 bif !x117 then ((room z111 ([(i111 : Int)] : List Int)).bind fun u123 =>
 some (z111 ++ ([(i111 : Int)] : List Int))) else
 some z111
def partref_Cover_B2 (a2 : List Pair) (r3 : (List Int)) (i49 : Nat) (z49 : (List Bool) × (List Bool)) : Option ((List Bool) × (List Bool)) :=
 (rangeF (partref_Cover_B4 a2 z49.2) a2.length 0 z49.1).bind fun l56 =>
 (rangeF (partref_Cover_B6 r3 l56) r3.length 0 z49.2).bind fun l79 =>
 some (l56, l79)
def partref_Cover_B0 (r3 : (List Int)) (i36 : Nat) (z36 : (List Bool)) : Option (List Bool) :=
 (lat r3 (i36 : Int)).bind fun x41 =>
 (lat z36 (i36 : Int)).bind fun x44 =>
 Let (z36.set (i36 : Int).toNat (decide (x41 < (0 : Int)))) fun p47 =>
 some p47
def partref_Cover (fu : Nat) (a0 : Int) (a1 : Int) (a2 : List Pair) : Option ((List Int) × (List Int)) :=
 (partref_Most fu a0 a1 a2).bind fun r3 =>
 (mkLen a0).bind fun n9 =>
 (mkLen a1).bind fun n14 =>
 Let ((List.replicate n14 false), (List.replicate n9 false)) fun (l21, l23) =>
 (upTo a0).bind fun nn40 =>
 (rangeF (partref_Cover_B0 r3) nn40 0 l23).bind fun l37 =>
 (upTo (w64 ((w64 (a0 + a1)) + (1 : Int)))).bind fun nn54 =>
 (rangeF (partref_Cover_B2 a2 r3) nn54 0 (l21, l37)).bind fun (l50, l51) =>
 (upTo a0).bind fun nn116 =>
 (rangeF (partref_Cover_B8 l51) nn116 0 ([] : List Int)).bind fun l113 =>
 (upTo a1).bind fun nn131 =>
 (rangeF (partref_Cover_B10 l50) nn131 0 ([] : List Int)).bind fun l128 =>
 some (l113, l128)
def partref_Apart_B0 (l20 : List Int) (l22 : List Int) (i35 : Nat) (z35 : (List Int)) : Option (List Int) :=
 (slices_Contains_int_int l20 (i35 : Int)).bind fun r41 =>
 (bif !r41 then ((slices_Contains_int_int l22 (i35 : Int)).bind fun r48 =>
 some (!r48)) else
 some false).bind fun y46 =>
 bif y46 then ((room z35 ([(i35 : Int)] : List Int)).bind fun u57 =>
 some (z35 ++ ([(i35 : Int)] : List Int))) else
 some z35
def partref_Apart (fu : Nat) (a0 : Poset) : Option (List Int) :=
 (partref_AllPairs fu a0 false).bind fun r4 =>
 (partref_Cover fu a0.N a0.N r4).bind fun r10 =>
 Let (r10.1, r10.2) fun (l20, l22) =>
 (upTo a0.N).bind fun nn40 =>
 (rangeF (partref_Apart_B0 l20 l22) nn40 0 ([] : List Int)).bind fun l37 =>
 some l37
def partlaw_PosetParts (fu : Nat) (a0 : Poset) : Option Bool :=
 (partref_PosetErr fu a0).bind fun r3 =>
 (poset_Chains fu a0).bind fun r7 =>
 (poset_Apart fu a0).bind fun r16 =>
 bif r3 != (0 : Int) then ((bif (r7.1.length : Int) == (0 : Int) then (some (r7.2 == r3)) else
 some false).bind fun y25 =>
 (bif y25 then (some ((r16.1.length : Int) == (0 : Int))) else
 some false).bind fun y30 =>
 (bif y30 then (some (r16.2 == r3)) else
 some false).bind fun y35 =>
 some y35) else
 (partref_Chains fu a0).bind fun r39 =>
 (slices_EqualFunc_int_int_int_int_int_int r7.1 r39).bind fun r48 =>
 (bif r48 then (some (r7.2 == (0 : Int))) else
 some false).bind fun y53 =>
 bif y53 then ((partref_Apart fu a0).bind fun r58 =>
 (slices_Equal_int_int r16.1 r58).bind fun r64 =>
 (bif r64 then (some (r16.2 == (0 : Int))) else
 some false).bind fun y69 =>
 some y69) else
 some false
end Go.Proofs.Yticifbmaapnfbaa
