/-
  What the functions compute, typed; printed by a program.
-/
import Derived.Test.YticifbmaapnfbaaGoI
import Derived.Test.YticifbmaapnfbaaGoM
namespace Go.Proofs.Yticifbmaapnfbaa
open Go.RowKit Enc
set_option linter.unusedVariables false
set_option linter.unusedSimpArgs false
structure Pair where
  A : Int
  B : Int
instance : DecidableEq Pair := fun a b => decidable_of_iff (a.A = b.A ∧ a.B = b.B) (by cases a; cases b; simp)
def Pair.zero : Pair := ⟨(0 : Int), (0 : Int)⟩
instance : Enc Pair := ⟨fun p => enc p.A ++ (enc p.B), 2, fun p => by simp only [List.length_append, Enc.len]; rfl, fun p => by simp only [List.all_append, Enc.one, Bool.and_self]⟩
theorem Pair.get_A {p : Pair} {k : Nat} {ch : List Value} (h : Get (enc p.A) k ch) : Get (enc p) (0 + k) ch := Get.off (Get.left h) (by omega)
theorem Pair.put_A {p : Pair} {k : Nat} {vs : List Value} {y : Int} (h : Put (enc p.A) k vs (enc y)) : Put (enc p) (0 + k) vs (enc ({ p with A := y } : Pair)) := Put.off (cs' := enc ({ p with A := y } : Pair)) (Put.left h) (by omega)
theorem Pair.get_B {p : Pair} {k : Nat} {ch : List Value} (h : Get (enc p.B) k ch) : Get (enc p) (1 + k) ch := Get.off (Get.right (m := 1) (Enc.len _) h) (by omega)
theorem Pair.put_B {p : Pair} {k : Nat} {vs : List Value} {y : Int} (h : Put (enc p.B) k vs (enc y)) : Put (enc p) (1 + k) vs (enc ({ p with B := y } : Pair)) := Put.off (cs' := enc ({ p with B := y } : Pair)) (Put.right (m := 1) (Enc.len _) h) (by omega)
instance : Rng Pair := ⟨fun p => Rng.ok p.A ∧ Rng.ok p.B⟩
structure Poset where
  N : Int
  Pairs : List Pair
instance : DecidableEq Poset := fun a b => decidable_of_iff (a.N = b.N ∧ a.Pairs = b.Pairs) (by cases a; cases b; simp)
def Poset.zero : Poset := ⟨(0 : Int), []⟩
instance : Rng Poset := ⟨fun p => Rng.ok p.N ∧ Rng.ok p.Pairs⟩
def cmp_isNaN_uint16 (a0 : BitVec 16) : Option Bool :=
 some ((a0.toNat : Int) != (a0.toNat : Int))
def cmp_Less_uint16 (a0 : BitVec 16) (a1 : BitVec 16) : Option Bool :=
 (cmp_isNaN_uint16 a0).bind fun r1 =>
 (bif r1 then ((cmp_isNaN_uint16 a1).bind fun r8 =>
 some (!r8)) else
 some false).bind fun y6 =>
 (bif y6 then (some true) else
 some (decide ((a0.toNat : Int) < (a1.toNat : Int)))).bind fun y15 =>
 some y15
def slices_isNaN_uint16 (a0 : BitVec 16) : Option Bool :=
 some ((a0.toNat : Int) != (a0.toNat : Int))
def slices_BinarySearch_uint16_uint16_B0 (a0 : List (BitVec 16)) (a1 : BitVec 16) (z1 : Int × Int) : Option (Ctl (Int × Int) (Int × Bool)) :=
 bif decide (z1.1 < z1.2) then ((lat a0 (w64 (((BitVec.ofInt 64 (w64 (z1.1 + z1.2))) >>> 1).toNat : Int))).bind fun x28 =>
 (cmp_Less_uint16 x28 a1).bind fun r31 =>
 bif r31 then (some (.go (w64 ((w64 (((BitVec.ofInt 64 (w64 (z1.1 + z1.2))) >>> 1).toNat : Int)) + (1 : Int)), z1.2))) else
 some (.go (z1.1, w64 (((BitVec.ofInt 64 (w64 (z1.1 + z1.2))) >>> 1).toNat : Int)))) else
 some (.brk (z1.1, z1.2))
def slices_BinarySearch_uint16_uint16 (fu : Nat) (a0 : List (BitVec 16)) (a1 : BitVec 16) : Option (Int × Bool) :=
 andThen (whileM (slices_BinarySearch_uint16_uint16_B0 a0 a1) fu ((0 : Int), (a0.length : Int))) fun (y2, y3) =>
 bif decide (y2 < (a0.length : Int)) then ((lat a0 y2).bind fun x8 =>
 bif (x8.toNat : Int) == (a1.toNat : Int) then (some (y2, true)) else
 (lat a0 y2).bind fun x12 =>
 (slices_isNaN_uint16 x12).bind fun r15 =>
 (bif r15 then ((slices_isNaN_uint16 a1).bind fun r22 =>
 some r22) else
 some false).bind fun y20 =>
 some (y2, y20)) else
 some (y2, false)
def partref_SetsErr_B4 (fu : Nat) (a0 : List (BitVec 16)) (x31 : BitVec 16) (i34 : Nat) (z34 : Unit) : Option (Ctl Unit (Ctl Unit Int)) :=
 (lat a0 (i34 : Int)).bind fun x37 =>
 (slices_BinarySearch_uint16_uint16 fu a0 (x31 ||| x37)).bind fun r40 =>
 bif !r40.2 then (some (.ret (.ret (4 : Int)))) else
 (slices_BinarySearch_uint16_uint16 fu a0 (x31 &&& x37)).bind fun r45 =>
 bif !r45.2 then (some (.ret (.ret (4 : Int)))) else
 some (.go ())
def partref_SetsErr_B2 (fu : Nat) (a0 : List (BitVec 16)) (i28 : Nat) (z28 : Unit) : Option (Ctl Unit Int) :=
 (lat a0 (i28 : Int)).bind fun x31 =>
 andThen (rangeM (partref_SetsErr_B4 fu a0 x31) a0.length 0 ()) fun _ =>
 some (.go ())
def partref_SetsErr_B0 (a0 : List (BitVec 16)) (i11 : Nat) (z11 : Unit) : Option (Ctl Unit Int) :=
 (lat a0 (i11 : Int)).bind fun x14 =>
 bif decide ((x14.toNat : Int) > ((4095 : BitVec 16).toNat : Int)) then (some (.ret (1 : Int))) else
 (bif decide ((i11 : Int) > (0 : Int)) then ((lat a0 (w64 ((i11 : Int) - (1 : Int)))).bind fun x21 =>
 some (decide ((x21.toNat : Int) ≥ (x14.toNat : Int)))) else
 some false).bind fun y19 =>
 bif y19 then (some (.ret (4 : Int))) else
 some (.go ())
def partref_SetsErr (fu : Nat) (a0 : List (BitVec 16)) : Option Int :=
 (bif (a0.length : Int) == (0 : Int) then (some true) else
 some (decide ((a0.length : Int) > (4096 : Int)))).bind fun y2 =>
 bif y2 then (some (2 : Int)) else
 (lat a0 (0 : Int)).bind fun x7 =>
 bif decide ((x7.toNat : Int) > ((0 : BitVec 16).toNat : Int)) then (some (4 : Int)) else
 andThen (rangeM (partref_SetsErr_B0 a0) a0.length 0 ()) fun _ =>
 bif decide ((a0.length : Int) > (300 : Int)) then (some (2 : Int)) else
 andThen (rangeM (partref_SetsErr_B2 fu a0) a0.length 0 ()) fun _ =>
 some (0 : Int)
def lat_indices_B0 (a0 : List (BitVec 16)) (i3 : Nat) (z3 : (List ((BitVec 16) × Int))) : Option (List ((BitVec 16) × Int)) :=
 (lat a0 (i3 : Int)).bind fun x7 =>
 Let (mset z3 x7 (i3 : Int)) fun m10 =>
 some m10
def lat_indices (a0 : List (BitVec 16)) : Option (List ((BitVec 16) × Int)) :=
 (rangeF (lat_indices_B0 a0) a0.length 0 ([] : List ((BitVec 16) × Int))).bind fun l4 =>
 some l4
def lat_Check_B5 (a0 : List (BitVec 16)) (r28 : (List ((BitVec 16) × Int))) (x37 : BitVec 16) (i40 : Nat) (z40 : Unit) : Option (Ctl Unit (Ctl Unit Int)) :=
 (lat a0 (i40 : Int)).bind fun x43 =>
 (bif !((mget r28 (x37 ||| x43)).isSome) then (some true) else
 some (!((mget r28 (x37 &&& x43)).isSome))).bind fun y47 =>
 bif y47 then (some (.ret (.ret (4 : Int)))) else
 some (.go ())
def lat_Check_B3 (a0 : List (BitVec 16)) (r28 : (List ((BitVec 16) × Int))) (i34 : Nat) (z34 : Unit) : Option (Ctl Unit Int) :=
 (lat a0 (i34 : Int)).bind fun x37 =>
 andThen (rangeM (lat_Check_B5 a0 r28 x37) a0.length 0 ()) fun _ =>
 some (.go ())
def lat_Check_B0 (a0 : List (BitVec 16)) (i11 : Nat) (z11 : Unit) : Option (Ctl Unit Int) :=
 (lat a0 (i11 : Int)).bind fun x14 =>
 bif ((x14 >>> 12).toNat : Int) != ((0 : BitVec 16).toNat : Int) then (some (.ret (1 : Int))) else
 (bif decide ((i11 : Int) > (0 : Int)) then ((lat a0 (w64 ((i11 : Int) - (1 : Int)))).bind fun x21 =>
 some (decide ((x14.toNat : Int) ≤ (x21.toNat : Int)))) else
 some false).bind fun y19 =>
 bif y19 then (some (.ret (4 : Int))) else
 some (.go ())
def lat_Check (a0 : List (BitVec 16)) : Option Int :=
 (bif decide ((a0.length : Int) < (1 : Int)) then (some true) else
 some (decide ((a0.length : Int) > (4096 : Int)))).bind fun y2 =>
 bif y2 then (some (2 : Int)) else
 (lat a0 (0 : Int)).bind fun x7 =>
 bif (x7.toNat : Int) != ((0 : BitVec 16).toNat : Int) then (some (4 : Int)) else
 andThen (rangeM (lat_Check_B0 a0) a0.length 0 ()) fun _ =>
 bif decide ((a0.length : Int) > (300 : Int)) then (some (2 : Int)) else
 (lat_indices a0).bind fun r28 =>
 andThen (rangeM (lat_Check_B3 a0 r28) a0.length 0 ()) fun _ =>
 some (0 : Int)
def lat_within (a0 : BitVec 16) (a1 : BitVec 16) : Option Bool :=
 some (((a0 &&& ~~~a1).toNat : Int) == ((0 : BitVec 16).toNat : Int))
def lat_Firm_B2 (a0 : List (BitVec 16)) (x14 : BitVec 16) (i17 : Nat) (z17 : (BitVec 16)) : Option (BitVec 16) :=
 (lat a0 (i17 : Int)).bind fun x21 =>
 (bif (x21.toNat : Int) != (x14.toNat : Int) then ((lat_within x21 x14).bind fun r27 =>
 some r27) else
 some false).bind fun y25 =>
 bif y25 then (some (z17 ||| x21)) else
 some z17
def lat_Firm_B0 (a0 : List (BitVec 16)) (i9 : Nat) (z9 : (List (BitVec 16))) : Option (List (BitVec 16)) :=
 (lat a0 (i9 : Int)).bind fun x14 =>
 (rangeF (lat_Firm_B2 a0 x14) a0.length 0 (0 : BitVec 16)).bind fun y18 =>
 bif (y18.toNat : Int) != (x14.toNat : Int) then ((room z9 ([x14] : List (BitVec 16))).bind fun u37 =>
 some (z9 ++ ([x14] : List (BitVec 16)))) else
 some z9
def lat_Firm (a0 : List (BitVec 16)) : Option ((List (BitVec 16)) × Int) :=
 (lat_Check a0).bind fun r2 =>
 bif r2 != (0 : Int) then (some (([] : List (BitVec 16)), r2)) else
 (rangeF (lat_Firm_B0 a0) a0.length 0 ([] : List (BitVec 16))).bind fun l11 =>
 some (l11, (0 : Int))
def lat_Back_B2 (r4 : (List (BitVec 16)) × Int) (i15 : Nat) (x22 : BitVec 16) (i25 : Nat) (z25 : Poset × (List Pair)) : Option (Poset × (List Pair)) :=
 (lat r4.1 (i25 : Int)).bind fun x31 =>
 (bif (i15 : Int) != (i25 : Int) then ((lat_within x22 x31).bind fun r37 =>
 some r37) else
 some false).bind fun y35 =>
 bif y35 then ((room z25.2 ([({ Pair.zero with A := (i15 : Int), B := (i25 : Int) } : Pair)] : List Pair)).bind fun u46 =>
 some (({ z25.1 with Pairs := z25.2 ++ ([({ Pair.zero with A := (i15 : Int), B := (i25 : Int) } : Pair)] : List Pair) } : Poset), z25.2 ++ ([({ Pair.zero with A := (i15 : Int), B := (i25 : Int) } : Pair)] : List Pair))) else
 some (({ z25.1 with Pairs := z25.2 } : Poset), z25.2)
def lat_Back_B0 (r4 : (List (BitVec 16)) × Int) (i15 : Nat) (z15 : Poset) : Option Poset :=
 (lat r4.1 (i15 : Int)).bind fun x22 =>
 (rangeF (lat_Back_B2 r4 i15 x22) r4.1.length 0 (z15, z15.Pairs)).bind fun (y26, l28) =>
 some ({ y26 with Pairs := l28 } : Poset)
def lat_Back (a0 : List (BitVec 16)) : Option (Poset × Int) :=
 (lat_Firm a0).bind fun r4 =>
 bif r4.2 != (0 : Int) then (some (({ Poset.zero with Pairs := ([] : List Pair) } : Poset), r4.2)) else
 (rangeF (lat_Back_B0 r4) r4.1.length 0 ({ Poset.zero with N := (r4.1.length : Int), Pairs := ([] : List Pair) } : Poset)).bind fun y17 =>
 some (y17, (0 : Int))
def lat_Both (a0 : List (BitVec 16)) (a1 : Int) (a2 : Int) : Option ((BitVec 16) × (BitVec 16) × Int) :=
 (lat_Check a0).bind fun r1 =>
 bif r1 != (0 : Int) then (some ((0 : BitVec 16), (0 : BitVec 16), r1)) else
 (bif decide (a1 < (0 : Int)) then (some true) else
 some (decide (a1 ≥ (a0.length : Int)))).bind fun y7 =>
 (bif y7 then (some true) else
 some (decide (a2 < (0 : Int)))).bind fun y12 =>
 (bif y12 then (some true) else
 some (decide (a2 ≥ (a0.length : Int)))).bind fun y17 =>
 bif y17 then (some ((0 : BitVec 16), (0 : BitVec 16), (1 : Int))) else
 (lat a0 a1).bind fun x22 =>
 (lat a0 a2).bind fun x25 =>
 (lat a0 a1).bind fun x28 =>
 (lat a0 a2).bind fun x31 =>
 some (x22 ||| x25, x28 &&& x31, (0 : Int))
def partref_Firm_B2 (a0 : List (BitVec 16)) (x8 : BitVec 16) (i11 : Nat) (z11 : (BitVec 16)) : Option (BitVec 16) :=
 (lat a0 (i11 : Int)).bind fun x15 =>
 (bif ((x15 ||| x8).toNat : Int) == (x8.toNat : Int) then (some (decide ((x15.toNat : Int) < (x8.toNat : Int)))) else
 some false).bind fun y19 =>
 bif y19 then (some (z11 ||| x15)) else
 some z11
def partref_Firm_B0 (a0 : List (BitVec 16)) (i3 : Nat) (z3 : (List (BitVec 16))) : Option (List (BitVec 16)) :=
 (lat a0 (i3 : Int)).bind fun x8 =>
 (rangeF (partref_Firm_B2 a0 x8) a0.length 0 (0 : BitVec 16)).bind fun y12 =>
 bif decide ((y12.toNat : Int) < (x8.toNat : Int)) then ((room z3 ([x8] : List (BitVec 16))).bind fun u27 =>
 some (z3 ++ ([x8] : List (BitVec 16)))) else
 some z3
def partref_Firm (a0 : List (BitVec 16)) : Option (List (BitVec 16)) :=
 (rangeF (partref_Firm_B0 a0) a0.length 0 ([] : List (BitVec 16))).bind fun l5 =>
 some l5
def slices_Equal_uint16_uint16_B0 (a0 : List (BitVec 16)) (a1 : List (BitVec 16)) (i2 : Nat) (z2 : Unit) : Option (Ctl Unit Bool) :=
 (lat a0 (i2 : Int)).bind fun x5 =>
 (lat a1 (i2 : Int)).bind fun x8 =>
 bif (x5.toNat : Int) != (x8.toNat : Int) then (some (.ret false)) else
 some (.go ())
def slices_Equal_uint16_uint16 (a0 : List (BitVec 16)) (a1 : List (BitVec 16)) : Option Bool :=
 bif (a0.length : Int) != (a1.length : Int) then (some false) else
 andThen (rangeM (slices_Equal_uint16_uint16_B0 a0 a1) a0.length 0 ()) fun _ =>
 some true
def slices_Equal_api_Pair_api_Pair_B0 (a0 : List Pair) (a1 : List Pair) (i2 : Nat) (z2 : Unit) : Option (Ctl Unit Bool) :=
 (lat a0 (i2 : Int)).bind fun x5 =>
 (lat a1 (i2 : Int)).bind fun x8 =>
 bif !(decide (x5 = x8)) then (some (.ret false)) else
 some (.go ())
def slices_Equal_api_Pair_api_Pair (a0 : List Pair) (a1 : List Pair) : Option Bool :=
 bif (a0.length : Int) != (a1.length : Int) then (some false) else
 andThen (rangeM (slices_Equal_api_Pair_api_Pair_B0 a0 a1) a0.length 0 ()) fun _ =>
 some true
def partlaw_LatSays_B2 (r65 : (List (BitVec 16))) (i72 : Nat) (x77 : BitVec 16) (i80 : Nat) (z80 : (List Pair)) : Option (List Pair) :=
 (lat r65 (i80 : Int)).bind fun x85 =>
 (bif ((x77 ||| x85).toNat : Int) == (x85.toNat : Int) then (some ((x77.toNat : Int) != (x85.toNat : Int))) else
 some false).bind fun y89 =>
 bif y89 then ((room z80 ([({ Pair.zero with A := (i72 : Int), B := (i80 : Int) } : Pair)] : List Pair)).bind fun u96 =>
 some (z80 ++ ([({ Pair.zero with A := (i72 : Int), B := (i80 : Int) } : Pair)] : List Pair))) else
 some z80
def partlaw_LatSays_B0 (r65 : (List (BitVec 16))) (i72 : Nat) (z72 : (List Pair)) : Option (List Pair) :=
 (lat r65 (i72 : Int)).bind fun x77 =>
 (rangeF (partlaw_LatSays_B2 r65 i72 x77) r65.length 0 z72).bind fun l82 =>
 some l82
def partlaw_LatSays (fu : Nat) (a0 : List (BitVec 16)) (a1 : Int) (a2 : Int) : Option Bool :=
 (partref_SetsErr fu a0).bind fun r1 =>
 (lat_Firm a0).bind fun r5 =>
 (lat_Back a0).bind fun r11 =>
 (lat_Both a0 a1 a2).bind fun r20 =>
 (lat_Check a0).bind fun r24 =>
 bif r24 != r1 then (some false) else
 bif r1 != (0 : Int) then ((bif (r5.1.length : Int) == (0 : Int) then (some (r5.2 == r1)) else
 some false).bind fun y31 =>
 (bif y31 then (some (r11.1.N == (0 : Int))) else
 some false).bind fun y36 =>
 (bif y36 then (some ((r11.1.Pairs.length : Int) == (0 : Int))) else
 some false).bind fun y41 =>
 (bif y41 then (some (r11.2 == r1)) else
 some false).bind fun y46 =>
 (bif y46 then (some ((r20.1.toNat : Int) == ((0 : BitVec 16).toNat : Int))) else
 some false).bind fun y51 =>
 (bif y51 then (some ((r20.2.1.toNat : Int) == ((0 : BitVec 16).toNat : Int))) else
 some false).bind fun y56 =>
 (bif y56 then (some (r20.2.2 == r1)) else
 some false).bind fun y61 =>
 some y61) else
 (partref_Firm a0).bind fun r65 =>
 (rangeF (partlaw_LatSays_B0 r65) r65.length 0 ([] : List Pair)).bind fun l74 =>
 (slices_Equal_uint16_uint16 r5.1 r65).bind fun r100 =>
 (bif !r100 then (some true) else
 some (r5.2 != (0 : Int))).bind fun y105 =>
 (bif y105 then (some true) else
 some (r11.1.N != (r65.length : Int))).bind fun y110 =>
 (bif y110 then (some true) else
 (slices_Equal_api_Pair_api_Pair r11.1.Pairs l74).bind fun r117 =>
 some (!r117)).bind fun y115 =>
 (bif y115 then (some true) else
 some (r11.2 != (0 : Int))).bind fun y124 =>
 bif y124 then (some false) else
 (bif decide ((min a1 a2) < (0 : Int)) then (some true) else
 some (decide ((max a1 a2) ≥ (a0.length : Int)))).bind fun y130 =>
 bif y130 then ((bif (r20.1.toNat : Int) == ((0 : BitVec 16).toNat : Int) then (some ((r20.2.1.toNat : Int) == ((0 : BitVec 16).toNat : Int))) else
 some false).bind fun y136 =>
 (bif y136 then (some (r20.2.2 == (1 : Int))) else
 some false).bind fun y141 =>
 some y141) else
 (lat a0 a1).bind fun x145 =>
 (lat a0 a2).bind fun x148 =>
 (bif (r20.1.toNat : Int) == ((x145 ||| x148).toNat : Int) then ((lat a0 a1).bind fun x154 =>
 (lat a0 a2).bind fun x157 =>
 some ((r20.2.1.toNat : Int) == ((x154 &&& x157).toNat : Int))) else
 some false).bind fun y152 =>
 (bif y152 then (some (r20.2.2 == (0 : Int))) else
 some false).bind fun y161 =>
 some y161
end Go.Proofs.Yticifbmaapnfbaa
