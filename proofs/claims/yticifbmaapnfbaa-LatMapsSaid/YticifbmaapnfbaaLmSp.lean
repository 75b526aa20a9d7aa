/-
  What the functions compute, typed; printed by a program.
-/
import Derived.Test.YticifbmaapnfbaaGoI
import Derived.Test.YticifbmaapnfbaaGoM
namespace Go.Proofs.Yticifbmaapnfbaa
open Go.RowKit Enc
set_option linter.unusedVariables false
set_option linter.unusedSimpArgs false
def cmp_isNaN_uint16 (a0 : BitVec 16) : Option Bool :=
 some ((a0.toNat : Int) != (a0.toNat : Int))
def cmp_Less_uint16 (a0 : BitVec 16) (a1 : BitVec 16) : Option Bool :=
 (cmp_isNaN_uint16 a0).bind fun r1 =>
 (bif r1 then ((cmp_isNaN_uint16 a1).bind fun r8 =>
 some (!r8)) else
 some false).bind fun y6 =>
 (bif y6 then (some true) else
 some (decide ((a0.toNat : Int) < (a1.toNat : Int)))).bind fun y15 =>
 some y15
def slices_isNaN_uint16 (a0 : BitVec 16) : Option Bool :=
 some ((a0.toNat : Int) != (a0.toNat : Int))
def slices_BinarySearch_uint16_uint16_B0 (a0 : List (BitVec 16)) (a1 : BitVec 16) (z1 : Int × Int) : Option (Ctl (Int × Int) (Int × Bool)) :=
 bif decide (z1.1 < z1.2) then ((lat a0 (w64 (((BitVec.ofInt 64 (w64 (z1.1 + z1.2))) >>> 1).toNat : Int))).bind fun x28 =>
 (cmp_Less_uint16 x28 a1).bind fun r31 =>
 bif r31 then (some (.go (w64 ((w64 (((BitVec.ofInt 64 (w64 (z1.1 + z1.2))) >>> 1).toNat : Int)) + (1 : Int)), z1.2))) else
 some (.go (z1.1, w64 (((BitVec.ofInt 64 (w64 (z1.1 + z1.2))) >>> 1).toNat : Int)))) else
 some (.brk (z1.1, z1.2))
def slices_BinarySearch_uint16_uint16 (fu : Nat) (a0 : List (BitVec 16)) (a1 : BitVec 16) : Option (Int × Bool) :=
 andThen (whileM (slices_BinarySearch_uint16_uint16_B0 a0 a1) fu ((0 : Int), (a0.length : Int))) fun (y2, y3) =>
 bif decide (y2 < (a0.length : Int)) then ((lat a0 y2).bind fun x8 =>
 bif (x8.toNat : Int) == (a1.toNat : Int) then (some (y2, true)) else
 (lat a0 y2).bind fun x12 =>
 (slices_isNaN_uint16 x12).bind fun r15 =>
 (bif r15 then ((slices_isNaN_uint16 a1).bind fun r22 =>
 some r22) else
 some false).bind fun y20 =>
 some (y2, y20)) else
 some (y2, false)
def partref_SetsErr_B4 (fu : Nat) (a0 : List (BitVec 16)) (x31 : BitVec 16) (i34 : Nat) (z34 : Unit) : Option (Ctl Unit (Ctl Unit Int)) :=
 (lat a0 (i34 : Int)).bind fun x37 =>
 (slices_BinarySearch_uint16_uint16 fu a0 (x31 ||| x37)).bind fun r40 =>
 bif !r40.2 then (some (.ret (.ret (4 : Int)))) else
 (slices_BinarySearch_uint16_uint16 fu a0 (x31 &&& x37)).bind fun r45 =>
 bif !r45.2 then (some (.ret (.ret (4 : Int)))) else
 some (.go ())
def partref_SetsErr_B2 (fu : Nat) (a0 : List (BitVec 16)) (i28 : Nat) (z28 : Unit) : Option (Ctl Unit Int) :=
 (lat a0 (i28 : Int)).bind fun x31 =>
 andThen (rangeM (partref_SetsErr_B4 fu a0 x31) a0.length 0 ()) fun _ =>
 some (.go ())
def partref_SetsErr_B0 (a0 : List (BitVec 16)) (i11 : Nat) (z11 : Unit) : Option (Ctl Unit Int) :=
 (lat a0 (i11 : Int)).bind fun x14 =>
 bif decide ((x14.toNat : Int) > ((4095 : BitVec 16).toNat : Int)) then (some (.ret (1 : Int))) else
 (bif decide ((i11 : Int) > (0 : Int)) then ((lat a0 (w64 ((i11 : Int) - (1 : Int)))).bind fun x21 =>
 some (decide ((x21.toNat : Int) ≥ (x14.toNat : Int)))) else
 some false).bind fun y19 =>
 bif y19 then (some (.ret (4 : Int))) else
 some (.go ())
def partref_SetsErr (fu : Nat) (a0 : List (BitVec 16)) : Option Int :=
 (bif (a0.length : Int) == (0 : Int) then (some true) else
 some (decide ((a0.length : Int) > (4096 : Int)))).bind fun y2 =>
 bif y2 then (some (2 : Int)) else
 (lat a0 (0 : Int)).bind fun x7 =>
 bif decide ((x7.toNat : Int) > ((0 : BitVec 16).toNat : Int)) then (some (4 : Int)) else
 andThen (rangeM (partref_SetsErr_B0 a0) a0.length 0 ()) fun _ =>
 bif decide ((a0.length : Int) > (300 : Int)) then (some (2 : Int)) else
 andThen (rangeM (partref_SetsErr_B2 fu a0) a0.length 0 ()) fun _ =>
 some (0 : Int)
def partref_MapErr_B4 (a0 : List (BitVec 16)) (a1 : List Int) (i19 : Nat) (x22 : BitVec 16) (i25 : Nat) (z25 : Unit) : Option (Ctl Unit (Ctl Unit Int)) :=
 (lat a0 (i25 : Int)).bind fun x28 =>
 (bif ((x22 ||| x28).toNat : Int) == (x28.toNat : Int) then ((lat a1 (i19 : Int)).bind fun x34 =>
 (lat a0 x34).bind fun x37 =>
 (lat a1 (i25 : Int)).bind fun x40 =>
 (lat a0 x40).bind fun x43 =>
 (lat a1 (i25 : Int)).bind fun x46 =>
 (lat a0 x46).bind fun x49 =>
 some (((x37 ||| x43).toNat : Int) != (x49.toNat : Int))) else
 some false).bind fun y32 =>
 bif y32 then (some (.ret (.ret (11 : Int)))) else
 some (.go ())
def partref_MapErr_B2 (a0 : List (BitVec 16)) (a1 : List Int) (i19 : Nat) (z19 : Unit) : Option (Ctl Unit Int) :=
 (lat a0 (i19 : Int)).bind fun x22 =>
 andThen (rangeM (partref_MapErr_B4 a0 a1 i19 x22) a0.length 0 ()) fun _ =>
 some (.go ())
def partref_MapErr_B0 (a0 : List (BitVec 16)) (a1 : List Int) (i7 : Nat) (z7 : Unit) : Option (Ctl Unit Int) :=
 (lat a1 (i7 : Int)).bind fun x10 =>
 (bif decide (x10 < (0 : Int)) then (some true) else
 some (decide (x10 ≥ (a0.length : Int)))).bind fun y14 =>
 bif y14 then (some (.ret (1 : Int))) else
 some (.go ())
def partref_MapErr (fu : Nat) (a0 : List (BitVec 16)) (a1 : List Int) : Option Int :=
 (partref_SetsErr fu a0).bind fun r1 =>
 bif r1 != (0 : Int) then (some r1) else
 bif (a1.length : Int) != (a0.length : Int) then (some (4 : Int)) else
 andThen (rangeM (partref_MapErr_B0 a0 a1) a1.length 0 ()) fun _ =>
 andThen (rangeM (partref_MapErr_B2 a0 a1) a0.length 0 ()) fun _ =>
 some (0 : Int)
def lat_indices_B0 (a0 : List (BitVec 16)) (i3 : Nat) (z3 : (List ((BitVec 16) × Int))) : Option (List ((BitVec 16) × Int)) :=
 (lat a0 (i3 : Int)).bind fun x7 =>
 Let (mset z3 x7 (i3 : Int)) fun m10 =>
 some m10
def lat_indices (a0 : List (BitVec 16)) : Option (List ((BitVec 16) × Int)) :=
 (rangeF (lat_indices_B0 a0) a0.length 0 ([] : List ((BitVec 16) × Int))).bind fun l4 =>
 some l4
def lat_Check_B5 (a0 : List (BitVec 16)) (r28 : (List ((BitVec 16) × Int))) (x37 : BitVec 16) (i40 : Nat) (z40 : Unit) : Option (Ctl Unit (Ctl Unit Int)) :=
 (lat a0 (i40 : Int)).bind fun x43 =>
 (bif !((mget r28 (x37 ||| x43)).isSome) then (some true) else
 some (!((mget r28 (x37 &&& x43)).isSome))).bind fun y47 =>
 bif y47 then (some (.ret (.ret (4 : Int)))) else
 some (.go ())
def lat_Check_B3 (a0 : List (BitVec 16)) (r28 : (List ((BitVec 16) × Int))) (i34 : Nat) (z34 : Unit) : Option (Ctl Unit Int) :=
 (lat a0 (i34 : Int)).bind fun x37 =>
 andThen (rangeM (lat_Check_B5 a0 r28 x37) a0.length 0 ()) fun _ =>
 some (.go ())
def lat_Check_B0 (a0 : List (BitVec 16)) (i11 : Nat) (z11 : Unit) : Option (Ctl Unit Int) :=
 (lat a0 (i11 : Int)).bind fun x14 =>
 bif ((x14 >>> 12).toNat : Int) != ((0 : BitVec 16).toNat : Int) then (some (.ret (1 : Int))) else
 (bif decide ((i11 : Int) > (0 : Int)) then ((lat a0 (w64 ((i11 : Int) - (1 : Int)))).bind fun x21 =>
 some (decide ((x14.toNat : Int) ≤ (x21.toNat : Int)))) else
 some false).bind fun y19 =>
 bif y19 then (some (.ret (4 : Int))) else
 some (.go ())
def lat_Check (a0 : List (BitVec 16)) : Option Int :=
 (bif decide ((a0.length : Int) < (1 : Int)) then (some true) else
 some (decide ((a0.length : Int) > (4096 : Int)))).bind fun y2 =>
 bif y2 then (some (2 : Int)) else
 (lat a0 (0 : Int)).bind fun x7 =>
 bif (x7.toNat : Int) != ((0 : BitVec 16).toNat : Int) then (some (4 : Int)) else
 andThen (rangeM (lat_Check_B0 a0) a0.length 0 ()) fun _ =>
 bif decide ((a0.length : Int) > (300 : Int)) then (some (2 : Int)) else
 (lat_indices a0).bind fun r28 =>
 andThen (rangeM (lat_Check_B3 a0 r28) a0.length 0 ()) fun _ =>
 some (0 : Int)
def lat_Rises_1 (a0 : Int) (a1 : List (BitVec 16)) : Option Bool :=
 (bif decide (a0 < (0 : Int)) then (some true) else
 some (decide (a0 ≥ (a1.length : Int)))).bind fun y3 =>
 some y3
def slices_IndexFunc_int_int_Rises_1_B0 (a0 : List Int) (a1_c0 : List (BitVec 16)) (i2 : Nat) (z2 : Unit) : Option (Ctl Unit Int) :=
 (lat a0 (i2 : Int)).bind fun x5 =>
 (lat_Rises_1 x5 a1_c0).bind fun r8 =>
 bif r8 then (some (.ret (i2 : Int))) else
 some (.go ())
def slices_IndexFunc_int_int_Rises_1 (a0 : List Int) (a1_c0 : List (BitVec 16)) : Option Int :=
 andThen (rangeM (slices_IndexFunc_int_int_Rises_1_B0 a0 a1_c0) a0.length 0 ()) fun _ =>
 some (-1 : Int)
def slices_ContainsFunc_int_int_Rises_1 (a0 : List Int) (a1_c0 : List (BitVec 16)) : Option Bool :=
 (slices_IndexFunc_int_int_Rises_1 a0 a1_c0).bind fun r2 =>
 some (decide (r2 ≥ (0 : Int)))
def lat_within (a0 : BitVec 16) (a1 : BitVec 16) : Option Bool :=
 some (((a0 &&& ~~~a1).toNat : Int) == ((0 : BitVec 16).toNat : Int))
def lat_Rises_B3 (a0 : List (BitVec 16)) (a1 : List Int) (i14 : Nat) (x17 : BitVec 16) (i20 : Nat) (z20 : Unit) : Option (Ctl Unit (Ctl Unit Int)) :=
 (lat a0 (i20 : Int)).bind fun x23 =>
 (lat_within x17 x23).bind fun r26 =>
 (bif r26 then ((lat a1 (i14 : Int)).bind fun x33 =>
 (lat a0 x33).bind fun x36 =>
 (lat a1 (i20 : Int)).bind fun x39 =>
 (lat a0 x39).bind fun x42 =>
 (lat_within x36 x42).bind fun r45 =>
 some (!r45)) else
 some false).bind fun y31 =>
 bif y31 then (some (.ret (.ret (11 : Int)))) else
 some (.go ())
def lat_Rises_B1 (a0 : List (BitVec 16)) (a1 : List Int) (i14 : Nat) (z14 : Unit) : Option (Ctl Unit Int) :=
 (lat a0 (i14 : Int)).bind fun x17 =>
 andThen (rangeM (lat_Rises_B3 a0 a1 i14 x17) a0.length 0 ()) fun _ =>
 some (.go ())
def lat_Rises (a0 : List (BitVec 16)) (a1 : List Int) : Option Int :=
 (lat_Check a0).bind fun r3 =>
 bif r3 != (0 : Int) then (some r3) else
 bif (a1.length : Int) != (a0.length : Int) then (some (4 : Int)) else
 (slices_ContainsFunc_int_int_Rises_1 a1 a0).bind fun r9 =>
 bif r9 then (some (1 : Int)) else
 andThen (rangeM (lat_Rises_B1 a0 a1) a0.length 0 ()) fun _ =>
 some (0 : Int)
def lat_Still_1_B0 (a1 : List Int) (z2 : Int) : Option (Ctl Int Int) :=
 (lat a1 z2).bind fun x6 =>
 bif x6 != z2 then ((lat a1 z2).bind fun x10 =>
 some (.go x10)) else
 some (.brk z2)
def lat_Still_1 (fu : Nat) (a0 : Int) (a1 : List Int) : Option Int :=
 andThen (whileM (lat_Still_1_B0 a1) fu a0) fun y3 =>
 some y3
def lat_Still (fu : Nat) (a0 : List (BitVec 16)) (a1 : List Int) : Option (Int × Int × Int) :=
 (lat_Rises a0 a1).bind fun r3 =>
 bif r3 != (0 : Int) then (some ((0 : Int), (0 : Int), r3)) else
 (lat_Still_1 fu (0 : Int) a1).bind fun r8 =>
 (lat_Still_1 fu (w64 ((a0.length : Int) - (1 : Int))) a1).bind fun r12 =>
 some (r8, r12, (0 : Int))
def slices_Index_uint16_uint16_B0 (a0 : List (BitVec 16)) (a1 : BitVec 16) (i1 : Nat) (z1 : Unit) : Option (Ctl Unit Int) :=
 (lat a0 (i1 : Int)).bind fun x4 =>
 bif (a1.toNat : Int) == (x4.toNat : Int) then (some (.ret (i1 : Int))) else
 some (.go ())
def slices_Index_uint16_uint16 (a0 : List (BitVec 16)) (a1 : BitVec 16) : Option Int :=
 andThen (rangeM (slices_Index_uint16_uint16_B0 a0 a1) a0.length 0 ()) fun _ =>
 some (-1 : Int)
def partref_Still_B0 (a0 : List (BitVec 16)) (a1 : List Int) (i7 : Nat) (z7 : (BitVec 16) × (BitVec 16)) : Option ((BitVec 16) × (BitVec 16)) :=
 (lat a0 (i7 : Int)).bind fun x12 =>
 ((lat a1 (i7 : Int)).bind fun x17 =>
 (lat a0 x17).bind fun x20 =>
 bif ((x20 ||| x12).toNat : Int) == (x12.toNat : Int) then (some (z7.1 &&& x12)) else
 some z7.1).bind fun y15 =>
 (lat a1 (i7 : Int)).bind fun x26 =>
 (lat a0 x26).bind fun x29 =>
 (lat a1 (i7 : Int)).bind fun x32 =>
 (lat a0 x32).bind fun x35 =>
 bif ((x29 ||| x12).toNat : Int) == (x35.toNat : Int) then (some (y15, z7.2 ||| x12)) else
 some (y15, z7.2)
def partref_Still (a0 : List (BitVec 16)) (a1 : List Int) : Option (Int × Int) :=
 (lat a0 (w64 ((a0.length : Int) - (1 : Int)))).bind fun x1 =>
 (lat a0 (0 : Int)).bind fun x4 =>
 (rangeF (partref_Still_B0 a0 a1) a0.length 0 (x1, x4)).bind fun (y8, y9) =>
 (slices_Index_uint16_uint16 a0 y8).bind fun r39 =>
 (slices_Index_uint16_uint16 a0 y9).bind fun r43 =>
 some (r39, r43)
def partlaw_LatMaps (fu : Nat) (a0 : List (BitVec 16)) (a1 : List Int) : Option Bool :=
 (partref_MapErr fu a0 a1).bind fun r1 =>
 (lat_Still fu a0 a1).bind fun r5 =>
 (lat_Rises a0 a1).bind fun r9 =>
 bif r9 != r1 then (some false) else
 bif r1 != (0 : Int) then ((bif r5.1 == (0 : Int) then (some (r5.2.1 == (0 : Int))) else
 some false).bind fun y16 =>
 (bif y16 then (some (r5.2.2 == r1)) else
 some false).bind fun y21 =>
 some y21) else
 (partref_Still a0 a1).bind fun r25 =>
 (bif r5.1 == r25.1 then (some (r5.2.1 == r25.2)) else
 some false).bind fun y30 =>
 (bif y30 then (some (r5.2.2 == (0 : Int))) else
 some false).bind fun y35 =>
 some y35
end Go.Proofs.Yticifbmaapnfbaa
