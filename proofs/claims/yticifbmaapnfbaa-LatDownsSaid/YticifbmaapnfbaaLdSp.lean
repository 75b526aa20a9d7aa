/-
  What the functions compute, typed; printed by a program.
-/
import Derived.Test.YticifbmaapnfbaaGoI
namespace Go.Proofs.Yticifbmaapnfbaa
open Go.RowKit Enc
set_option linter.unusedVariables false
set_option linter.unusedSimpArgs false
structure Pair where
  A : Int
  B : Int
instance : DecidableEq Pair := fun a b => decidable_of_iff (a.A = b.A ∧ a.B = b.B) (by cases a; cases b; simp)
def Pair.zero : Pair := ⟨(0 : Int), (0 : Int)⟩
instance : Enc Pair := ⟨fun p => enc p.A ++ (enc p.B), 2, fun p => by simp only [List.length_append, Enc.len]; rfl, fun p => by simp only [List.all_append, Enc.one, Bool.and_self]⟩
theorem Pair.get_A {p : Pair} {k : Nat} {ch : List Value} (h : Get (enc p.A) k ch) : Get (enc p) (0 + k) ch := Get.off (Get.left h) (by omega)
theorem Pair.put_A {p : Pair} {k : Nat} {vs : List Value} {y : Int} (h : Put (enc p.A) k vs (enc y)) : Put (enc p) (0 + k) vs (enc ({ p with A := y } : Pair)) := Put.off (cs' := enc ({ p with A := y } : Pair)) (Put.left h) (by omega)
theorem Pair.get_B {p : Pair} {k : Nat} {ch : List Value} (h : Get (enc p.B) k ch) : Get (enc p) (1 + k) ch := Get.off (Get.right (m := 1) (Enc.len _) h) (by omega)
theorem Pair.put_B {p : Pair} {k : Nat} {vs : List Value} {y : Int} (h : Put (enc p.B) k vs (enc y)) : Put (enc p) (1 + k) vs (enc ({ p with B := y } : Pair)) := Put.off (cs' := enc ({ p with B := y } : Pair)) (Put.right (m := 1) (Enc.len _) h) (by omega)
instance : Rng Pair := ⟨fun p => Rng.ok p.A ∧ Rng.ok p.B⟩
structure Poset where
  N : Int
  Pairs : List Pair
instance : DecidableEq Poset := fun a b => decidable_of_iff (a.N = b.N ∧ a.Pairs = b.Pairs) (by cases a; cases b; simp)
def Poset.zero : Poset := ⟨(0 : Int), []⟩
instance : Rng Poset := ⟨fun p => Rng.ok p.N ∧ Rng.ok p.Pairs⟩
def partref_PairsErr_L8 (a0 : Int) (a1 : Int) (a2 : List Pair) (i8 : Nat) (z8 : Unit) : Option (Ctl Unit Int) :=
 (lat a2 (i8 : Int)).bind fun x11 =>
 (bif decide (x11.A < (0 : Int)) then (some true) else
 some (decide (x11.B < (0 : Int)))).bind fun y17 =>
 (bif y17 then (some true) else
 some (decide (x11.A ≥ a0))).bind fun y22 =>
 (bif y22 then (some true) else
 some (decide (x11.B ≥ a1))).bind fun y27 =>
 bif y27 then (some (.ret (4 : Int))) else
 some (.go ())
def partref_PairsErr (a0 : Int) (a1 : Int) (a2 : List Pair) : Option Int :=
 (bif decide ((min a0 a1) < (0 : Int)) then (some true) else
 some (decide ((max a0 a1) > (40 : Int)))).bind fun y2 =>
 bif y2 then (some (1 : Int)) else
 bif decide ((a2.length : Int) > (600 : Int)) then (some (2 : Int)) else
 andThen (rangeM (partref_PairsErr_L8 a0 a1 a2) a2.length 0 ()) fun _ =>
 some (0 : Int)
def partref_Closure_L51 (a1 : List Pair) (i11 : Nat) (x43 : Int) (i51 : Nat) (z51 : (List Int) × (List (List Bool))) : Option ((List Int) × (List (List Bool))) :=
 (lat a1 (i51 : Int)).bind fun x60 =>
 (bif x60.A == x43 then ((lat z51.2 (i11 : Int)).bind fun x68 =>
 (lat x68 x60.B).bind fun x72 =>
 some (!x72)) else
 some false).bind fun y66 =>
 bif y66 then ((lat z51.2 (i11 : Int)).bind fun x76 =>
 (lat x76 x60.B).bind fun x80 =>
 Let (z51.2.set (i11 : Int).toNat (x76.set x60.B.toNat true)) fun p83 =>
 (room z51.1 ([x60.B] : List Int)).bind fun u89 =>
 some (z51.1 ++ ([x60.B] : List Int), p83)) else
 some (z51.1, z51.2)
def partref_Closure_L33 (a1 : List Pair) (i11 : Nat) (z33 : (List Int) × (List (List Bool))) : Option (Ctl ((List Int) × (List (List Bool))) (List (List Bool))) :=
 bif decide ((z33.1.length : Int) > (0 : Int)) then ((lat z33.1 (0 : Int)).bind fun x43 =>
 (cutL z33.1 (1 : Int) (z33.1.length : Int)).bind fun m46 =>
 (rangeF (partref_Closure_L51 a1 i11 x43) a1.length 0 (m46, z33.2)).bind fun (l53, l55) =>
 some (.go (l53, l55))) else
 some (.brk (z33.1, z33.2))
def partref_Closure_L11 (fu : Nat) (a0 : Int) (a1 : List Pair) (i11 : Nat) (z11 : (List (List Bool))) : Option (List (List Bool)) :=
 (mkLen a0).bind fun n19 =>
 (lat z11 (i11 : Int)).bind fun x24 =>
 Let (z11.set (i11 : Int).toNat (List.replicate n19 false)) fun p28 =>
 andThen (whileM (partref_Closure_L33 a1 i11) fu (([(i11 : Int)] : List Int), p28)) fun (l35, l37) =>
 some l37
def partref_Closure (fu : Nat) (a0 : Int) (a1 : List Pair) : Option (List (List Bool)) :=
 (mkLen a0).bind fun n3 =>
 (upTo a0).bind fun nn18 =>
 (rangeF (partref_Closure_L11 fu a0 a1) nn18 0 (List.replicate n3 ([] : List Bool))).bind fun l13 =>
 some l13
def partref_PosetErr_L24 (r14 : (List (List Bool))) (i24 : Nat) (z24 : Unit) : Option (Ctl Unit Int) :=
 (lat r14 (i24 : Int)).bind fun x27 =>
 (lat x27 (i24 : Int)).bind fun x31 =>
 bif x31 then (some (.ret (9 : Int))) else
 some (.go ())
def partref_PosetErr (fu : Nat) (a0 : Poset) : Option Int :=
 (bif decide (a0.N < (0 : Int)) then (some true) else
 some (decide (a0.N > (20 : Int)))).bind fun y4 =>
 bif y4 then (some (1 : Int)) else
 (partref_PairsErr a0.N a0.N a0.Pairs).bind fun r9 =>
 bif r9 != (0 : Int) then (some r9) else
 (partref_Closure fu a0.N a0.Pairs).bind fun r14 =>
 andThen (rangeM (partref_PosetErr_L24 r14) r14.length 0 ()) fun _ =>
 some (0 : Int)
def match_in (a0 : Int) (a1 : Int) (a2 : Int) : Option Bool :=
 (bif decide (a0 ≥ a1) then (some (decide (a0 ≤ a2))) else
 some false).bind fun y2 =>
 some y2
def match_Check_1 (a0 : Pair) (a1 : Int) (a2 : Int) : Option Bool :=
 (match_in a0.A (0 : Int) (w64 (a1 - (1 : Int)))).bind fun r5 =>
 (bif !r5 then (some true) else
 (match_in a0.B (0 : Int) (w64 (a2 - (1 : Int)))).bind fun r12 =>
 some (!r12)).bind fun y10 =>
 some y10
def slices_IndexFunc_api_Pair_api_Pair_Check_1_L3 (a0 : List Pair) (a1_c0 : Int) (a1_c1 : Int) (i3 : Nat) (z3 : Unit) : Option (Ctl Unit Int) :=
 (lat a0 (i3 : Int)).bind fun x6 =>
 (match_Check_1 x6 a1_c0 a1_c1).bind fun r9 =>
 bif r9 then (some (.ret (i3 : Int))) else
 some (.go ())
def slices_IndexFunc_api_Pair_api_Pair_Check_1 (a0 : List Pair) (a1_c0 : Int) (a1_c1 : Int) : Option Int :=
 andThen (rangeM (slices_IndexFunc_api_Pair_api_Pair_Check_1_L3 a0 a1_c0 a1_c1) a0.length 0 ()) fun _ =>
 some (-1 : Int)
def slices_ContainsFunc_api_Pair_api_Pair_Check_1 (a0 : List Pair) (a1_c0 : Int) (a1_c1 : Int) : Option Bool :=
 (slices_IndexFunc_api_Pair_api_Pair_Check_1 a0 a1_c0 a1_c1).bind fun r3 =>
 some (decide (r3 ≥ (0 : Int)))
def match_Check (a0 : Int) (a1 : Int) (a2 : List Pair) : Option Int :=
 (match_in a0 (0 : Int) (40 : Int)).bind fun r5 =>
 (bif !r5 then (some true) else
 (match_in a1 (0 : Int) (40 : Int)).bind fun r12 =>
 some (!r12)).bind fun y10 =>
 bif y10 then (some (1 : Int)) else
 bif decide ((a2.length : Int) > (600 : Int)) then (some (2 : Int)) else
 (slices_ContainsFunc_api_Pair_api_Pair_Check_1 a2 a0 a1).bind fun r20 =>
 bif r20 then (some (4 : Int)) else
 some (0 : Int)
def poset_closed_L34 (i24 : Nat) (i29 : Nat) (i34 : Nat) (z34 : (Vector (Vector Bool 20) 20)) : Option (Vector (Vector Bool 20) 20) :=
 (vat z34 (i29 : Int)).bind fun x39 =>
 (vat x39 (i34 : Int)).bind fun x42 =>
 (bif x42 then (some true) else
 (vat z34 (i29 : Int)).bind fun x48 =>
 (vat x48 (i24 : Int)).bind fun x51 =>
 (bif x51 then ((vat z34 (i24 : Int)).bind fun x57 =>
 (vat x57 (i34 : Int)).bind fun x60 =>
 some x60) else
 some false).bind fun y55 =>
 some y55).bind fun y46 =>
 (vat z34 (i29 : Int)).bind fun x63 =>
 (vat x63 (i34 : Int)).bind fun x66 =>
 Let (z34.setIfInBounds (i29 : Int).toNat (x63.setIfInBounds (i34 : Int).toNat y46)) fun p69 =>
 some p69
def poset_closed_L29 (a0 : Poset) (i24 : Nat) (i29 : Nat) (z29 : (Vector (Vector Bool 20) 20)) : Option (Vector (Vector Bool 20) 20) :=
 (upTo a0.N).bind fun nn38 =>
 (rangeF (poset_closed_L34 i24 i29) nn38 0 z29).bind fun y35 =>
 some y35
def poset_closed_L24 (a0 : Poset) (i24 : Nat) (z24 : (Vector (Vector Bool 20) 20)) : Option (Vector (Vector Bool 20) 20) :=
 (upTo a0.N).bind fun nn33 =>
 (rangeF (poset_closed_L29 a0 i24) nn33 0 z24).bind fun y30 =>
 some y30
def poset_closed_L7 (a0 : Poset) (i7 : Nat) (z7 : (Vector (Vector Bool 20) 20)) : Option (Vector (Vector Bool 20) 20) :=
 (lat a0.Pairs (i7 : Int)).bind fun x11 =>
 (vat z7 x11.A).bind fun x16 =>
 (vat x16 x11.B).bind fun x19 =>
 Let (z7.setIfInBounds x11.A.toNat (x16.setIfInBounds x11.B.toNat true)) fun p22 =>
 some p22
def poset_closed (a0 : Poset) : Option (Vector (Vector Bool 20) 20) :=
 (rangeF (poset_closed_L7 a0) a0.Pairs.length 0 (Vector.replicate 20 (Vector.replicate 20 false))).bind fun y8 =>
 (upTo a0.N).bind fun nn28 =>
 (rangeF (poset_closed_L24 a0) nn28 0 y8).bind fun y25 =>
 some y25
def poset_check_L22 (r16 : (Vector (Vector Bool 20) 20)) (i22 : Nat) (z22 : Unit) : Option (Ctl Unit ((Vector (Vector Bool 20) 20) × Int)) :=
 (vat r16 (i22 : Int)).bind fun x26 =>
 (vat x26 (i22 : Int)).bind fun x29 =>
 bif x29 then (some (.ret (((Vector.replicate 20 (Vector.replicate 20 false)) : Vector (Vector Bool 20) 20), (9 : Int)))) else
 some (.go ())
def poset_check (a0 : Poset) : Option ((Vector (Vector Bool 20) 20) × Int) :=
 (bif decide (a0.N < (0 : Int)) then (some true) else
 some (decide (a0.N > (20 : Int)))).bind fun y6 =>
 bif y6 then (some (((Vector.replicate 20 (Vector.replicate 20 false)) : Vector (Vector Bool 20) 20), (1 : Int))) else
 (match_Check a0.N a0.N a0.Pairs).bind fun r11 =>
 bif r11 != (0 : Int) then (some (((Vector.replicate 20 (Vector.replicate 20 false)) : Vector (Vector Bool 20) 20), r11)) else
 (poset_closed a0).bind fun r16 =>
 (upTo a0.N).bind fun nn25 =>
 andThen (rangeM (poset_check_L22 r16) nn25 0 ()) fun _ =>
 some (r16, (0 : Int))
def poset_order_all_1 (a0 : Int) (a1 : Int) : Option Bool :=
 some true
def poset_order_pairs_all_1_L11 (a0 : Vector (Vector Bool 20) 20) (i5 : Nat) (i11 : Nat) (z11 : (List Pair)) : Option (List Pair) :=
 (vat a0 (i5 : Int)).bind fun x17 =>
 (vat x17 (i11 : Int)).bind fun x20 =>
 (bif x20 then ((poset_order_all_1 (i5 : Int) (i11 : Int)).bind fun r26 =>
 some r26) else
 some false).bind fun y24 =>
 bif y24 then ((room z11 ([({ Pair.zero with A := (i5 : Int), B := (i11 : Int) } : Pair)] : List Pair)).bind fun u35 =>
 some (z11 ++ ([({ Pair.zero with A := (i5 : Int), B := (i11 : Int) } : Pair)] : List Pair))) else
 some z11
def poset_order_pairs_all_1_L5 (a0 : Vector (Vector Bool 20) 20) (a1 : Int) (i5 : Nat) (z5 : (List Pair)) : Option (List Pair) :=
 (upTo a1).bind fun nn16 =>
 (rangeF (poset_order_pairs_all_1_L11 a0 i5) nn16 0 z5).bind fun l13 =>
 some l13
def poset_order_pairs_all_1 (a0 : Vector (Vector Bool 20) 20) (a1 : Int) : Option (List Pair) :=
 (upTo a1).bind fun nn10 =>
 (rangeF (poset_order_pairs_all_1_L5 a0 a1) nn10 0 ([] : List Pair)).bind fun l7 =>
 some l7
def poset_order_all (a0 : Vector (Vector Bool 20) 20) (a1 : Int) : Option (List Pair) :=
 (poset_order_pairs_all_1 a0 a1).bind fun r4 =>
 some r4
def poset_Close (a0 : Poset) : Option ((List Pair) × Int) :=
 (poset_check a0).bind fun r4 =>
 bif r4.2 != (0 : Int) then (some (([] : List Pair), r4.2)) else
 (poset_order_all r4.1 a0.N).bind fun r12 =>
 some (r12, (0 : Int))
def lat_Downs_L47 (y17 : Vector (BitVec 16) 12) (y41 : BitVec 16) (i47 : Nat) (z47 : Bool) : Option Bool :=
 bif z47 then ((cnt (i47 : Int)).bind fun n53 =>
 (bif (((y41 >>> n53) &&& (1 : BitVec 16)).toNat : Int) == ((0 : BitVec 16).toNat : Int) then (some true) else
 (vat y17 (i47 : Int)).bind fun x59 =>
 some (((x59 &&& ~~~y41).toNat : Int) == ((0 : BitVec 16).toNat : Int))).bind fun y57 =>
 some y57) else
 some false
def lat_Downs_L40 (a0 : Poset) (y17 : Vector (BitVec 16) 12) (n37 : Nat) (z40 : (BitVec 16) × (List (BitVec 16))) : Option (Ctl ((BitVec 16) × (List (BitVec 16))) ((List (BitVec 16)) × Int)) :=
 bif decide ((z40.1.toNat : Int) < (((1 : BitVec 16) <<< n37).toNat : Int)) then ((upTo a0.N).bind fun nn51 =>
 (rangeF (lat_Downs_L47 y17 z40.1) nn51 0 true).bind fun y48 =>
 bif y48 then ((room z40.2 ([z40.1] : List (BitVec 16))).bind fun u67 =>
 some (.go (z40.1 + (1 : BitVec 16), z40.2 ++ ([z40.1] : List (BitVec 16))))) else
 some (.go (z40.1 + (1 : BitVec 16), z40.2))) else
 some (.brk (z40.1, z40.2))
def lat_Downs_L16 (r4 : (List Pair) × Int) (i16 : Nat) (z16 : (Vector (BitVec 16) 12)) : Option (Vector (BitVec 16) 12) :=
 (lat r4.1 (i16 : Int)).bind fun x20 =>
 (vat z16 x20.B).bind fun x25 =>
 (cnt x20.A).bind fun n28 =>
 (vat z16 x20.B).bind fun x31 =>
 Let (z16.setIfInBounds x20.B.toNat (x25 ||| ((1 : BitVec 16) <<< n28))) fun p34 =>
 some p34
def lat_Downs (fu : Nat) (a0 : Poset) : Option ((List (BitVec 16)) × Int) :=
 (poset_Close a0).bind fun r4 =>
 bif r4.2 != (0 : Int) then (some (([] : List (BitVec 16)), r4.2)) else
 bif decide (a0.N > (12 : Int)) then (some (([] : List (BitVec 16)), (2 : Int))) else
 (rangeF (lat_Downs_L16 r4) r4.1.length 0 (Vector.replicate 12 (0 : BitVec 16))).bind fun y17 =>
 (cnt a0.N).bind fun n37 =>
 andThen (whileM (lat_Downs_L40 a0 y17 n37) fu ((0 : BitVec 16), ([] : List (BitVec 16)))) fun (y41, l43) =>
 some (l43, (0 : Int))
def partref_Downs_L28 (r4 : (List (List Bool))) (i17 : Nat) (i23 : Nat) (i28 : Nat) (z28 : Bool) : Option Bool :=
 bif z28 then ((lat r4 (i23 : Int)).bind fun x34 =>
 (lat x34 (i28 : Int)).bind fun x38 =>
 (bif x38 then ((cnt (i28 : Int)).bind fun n44 =>
 some ((((i17 : Int).fdiv (2 ^ (min n44 64)) : Int).tmod (2 : Int) : Int) == (1 : Int))) else
 some false).bind fun y42 =>
 (bif y42 then ((cnt (i23 : Int)).bind fun n52 =>
 some ((((i17 : Int).fdiv (2 ^ (min n52 64)) : Int).tmod (2 : Int) : Int) == (0 : Int))) else
 some false).bind fun y50 =>
 some (!y50)) else
 some false
def partref_Downs_L23 (a0 : Poset) (r4 : (List (List Bool))) (i17 : Nat) (i23 : Nat) (z23 : Bool) : Option Bool :=
 (upTo a0.N).bind fun nn32 =>
 (rangeF (partref_Downs_L28 r4 i17 i23) nn32 0 z23).bind fun y29 =>
 some y29
def partref_Downs_L17 (a0 : Poset) (r4 : (List (List Bool))) (i17 : Nat) (z17 : (List (BitVec 16))) : Option (List (BitVec 16)) :=
 (upTo a0.N).bind fun nn27 =>
 (rangeF (partref_Downs_L23 a0 r4 i17) nn27 0 true).bind fun y24 =>
 bif y24 then ((room z17 ([BitVec.ofInt 16 (i17 : Int)] : List (BitVec 16))).bind fun u61 =>
 some (z17 ++ ([BitVec.ofInt 16 (i17 : Int)] : List (BitVec 16)))) else
 some z17
def partref_Downs (fu : Nat) (a0 : Poset) : Option (List (BitVec 16)) :=
 (partref_Closure fu a0.N a0.Pairs).bind fun r4 =>
 (cnt a0.N).bind fun n14 =>
 (upTo (w64 ((1 : Int) * 2 ^ (min n14 64)))).bind fun nn22 =>
 (rangeF (partref_Downs_L17 a0 r4) nn22 0 ([] : List (BitVec 16))).bind fun l19 =>
 some l19
def slices_Equal_uint16_uint16_L2 (a0 : List (BitVec 16)) (a1 : List (BitVec 16)) (i2 : Nat) (z2 : Unit) : Option (Ctl Unit Bool) :=
 (lat a0 (i2 : Int)).bind fun x5 =>
 (lat a1 (i2 : Int)).bind fun x8 =>
 bif (x5.toNat : Int) != (x8.toNat : Int) then (some (.ret false)) else
 some (.go ())
def slices_Equal_uint16_uint16 (a0 : List (BitVec 16)) (a1 : List (BitVec 16)) : Option Bool :=
 bif (a0.length : Int) != (a1.length : Int) then (some false) else
 andThen (rangeM (slices_Equal_uint16_uint16_L2 a0 a1) a0.length 0 ()) fun _ =>
 some true
def partlaw_LatDowns (fu : Nat) (a0 : Poset) : Option Bool :=
 (partref_PosetErr fu a0).bind fun r3 =>
 (lat_Downs fu a0).bind fun r7 =>
 ((bif r3 == (0 : Int) then (some (decide (a0.N > (12 : Int)))) else
 some false).bind fun y16 =>
 bif y16 then (some (2 : Int)) else
 some r3).bind fun y13 =>
 bif y13 != (0 : Int) then ((bif (r7.1.length : Int) == (0 : Int) then (some (r7.2 == y13)) else
 some false).bind fun y25 =>
 some y25) else
 (partref_Downs fu a0).bind fun r29 =>
 (slices_Equal_uint16_uint16 r7.1 r29).bind fun r35 =>
 (bif r35 then (some (r7.2 == (0 : Int))) else
 some false).bind fun y40 =>
 some y40
end Go.Proofs.Yticifbmaapnfbaa
