/-
  What the functions compute, typed; printed by a program.
-/
import Derived.Test.YtnljiedichjagaaGoI
import Derived.Test.YtnljiedichjagaaGoM
import Derived.Test.YtnljiedichjagaaGoS
namespace Go.Proofs.Ytnljiedichjagaa
open Go.RowKit Enc
set_option linter.unusedVariables false
set_option linter.unusedSimpArgs false
def partref_size_B0 (z1 : (BitVec 16) × Int) : Option (Ctl ((BitVec 16) × Int) Int) :=
 bif decide ((z1.1.toNat : Int) > ((0 : BitVec 16).toNat : Int)) then (some (.go (z1.1 / (2 : BitVec 16), w64 (z1.2 + ((z1.1 % (2 : BitVec 16)).toNat : Int))))) else
 some (.brk (z1.1, z1.2))
def partref_size (fu : Nat) (a0 : BitVec 16) : Option Int :=
 andThen (whileM (partref_size_B0) fu (a0, (0 : Int))) fun (y2, y3) =>
 some y3
def partref_QuorumErr_1 (a0 : BitVec 16) (a1 : BitVec 16) : Option Bool :=
 some (((a1 ||| a0).toNat : Int) == (a1.toNat : Int))
def slices_IndexFunc_uint16_uint16_QuorumErr_1_B0 (a0 : List (BitVec 16)) (a1_c0 : BitVec 16) (i2 : Nat) (z2 : Unit) : Option (Ctl Unit Int) :=
 (lat a0 (i2 : Int)).bind fun x5 =>
 (partref_QuorumErr_1 x5 a1_c0).bind fun r8 =>
 bif r8 then (some (.ret (i2 : Int))) else
 some (.go ())
def slices_IndexFunc_uint16_uint16_QuorumErr_1 (a0 : List (BitVec 16)) (a1_c0 : BitVec 16) : Option Int :=
 andThen (rangeM (slices_IndexFunc_uint16_uint16_QuorumErr_1_B0 a0 a1_c0) a0.length 0 ()) fun _ =>
 some (-1 : Int)
def slices_ContainsFunc_uint16_uint16_QuorumErr_1 (a0 : List (BitVec 16)) (a1_c0 : BitVec 16) : Option Bool :=
 (slices_IndexFunc_uint16_uint16_QuorumErr_1 a0 a1_c0).bind fun r2 =>
 some (decide (r2 ≥ (0 : Int)))
def partref_QuorumErr_B0 (fu : Nat) (a0 : Int) (a1 : List (BitVec 16)) (i8 : Nat) (z8 : Unit) : Option (Ctl Unit Int) :=
 (lat a1 (i8 : Int)).bind fun x11 =>
 (cnt a0).bind fun n16 =>
 bif decide ((x11.toNat : Int) ≥ (w64 ((1 : Int) * 2 ^ (min n16 64)))) then (some (.ret (1 : Int))) else
 (bif decide ((i8 : Int) > (0 : Int)) then ((partref_size fu x11).bind fun r23 =>
 (lat a1 (w64 ((i8 : Int) - (1 : Int)))).bind fun x27 =>
 (partref_size fu x27).bind fun r30 =>
 (bif decide (r23 < r30) then (some true) else
 (partref_size fu x11).bind fun r37 =>
 (lat a1 (w64 ((i8 : Int) - (1 : Int)))).bind fun x41 =>
 (partref_size fu x41).bind fun r44 =>
 (bif r37 == r44 then ((lat a1 (w64 ((i8 : Int) - (1 : Int)))).bind fun x51 =>
 some (decide ((x11.toNat : Int) ≤ (x51.toNat : Int)))) else
 some false).bind fun y49 =>
 some y49).bind fun y35 =>
 some y35) else
 some false).bind fun y21 =>
 (bif y21 then (some true) else
 (cutL a1 0 (i8 : Int)).bind fun m57 =>
 (slices_ContainsFunc_uint16_uint16_QuorumErr_1 m57 x11).bind fun r62 =>
 some r62).bind fun y55 =>
 bif y55 then (some (.ret (4 : Int))) else
 some (.go ())
def partref_QuorumErr (fu : Nat) (a0 : Int) (a1 : List (BitVec 16)) : Option Int :=
 (bif decide (a0 < (1 : Int)) then (some true) else
 some (decide (a0 > (10 : Int)))).bind fun y2 =>
 bif y2 then (some (1 : Int)) else
 bif decide ((a1.length : Int) > (300 : Int)) then (some (2 : Int)) else
 andThen (rangeM (partref_QuorumErr_B0 fu a0 a1) a1.length 0 ()) fun _ =>
 some (0 : Int)
def quorum_in (a0 : Int) (a1 : Int) (a2 : Int) : Option Bool :=
 (bif decide (a0 ≥ a1) then (some (decide (a0 ≤ a2))) else
 some false).bind fun y2 =>
 some y2
def math_bits_OnesCount16 (a0 : BitVec 16) : Option Int :=
 (lat ([0, 1, 1, 2, 1, 2, 2, 3, 1, 2, 2, 3, 2, 3, 3, 4, 1, 2, 2, 3, 2, 3, 3, 4, 2, 3, 3, 4, 3, 4, 4, 5, 1, 2, 2, 3, 2, 3, 3, 4, 2, 3, 3, 4, 3, 4, 4, 5, 2, 3, 3, 4, 3, 4, 4, 5, 3, 4, 4, 5, 4, 5, 5, 6, 1, 2, 2, 3, 2, 3, 3, 4, 2, 3, 3, 4, 3, 4, 4, 5, 2, 3, 3, 4, 3, 4, 4, 5, 3, 4, 4, 5, 4, 5, 5, 6, 2, 3, 3, 4, 3, 4, 4, 5, 3, 4, 4, 5, 4, 5, 5, 6, 3, 4, 4, 5, 4, 5, 5, 6, 4, 5, 5, 6, 5, 6, 6, 7, 1, 2, 2, 3, 2, 3, 3, 4, 2, 3, 3, 4, 3, 4, 4, 5, 2, 3, 3, 4, 3, 4, 4, 5, 3, 4, 4, 5, 4, 5, 5, 6, 2, 3, 3, 4, 3, 4, 4, 5, 3, 4, 4, 5, 4, 5, 5, 6, 3, 4, 4, 5, 4, 5, 5, 6, 4, 5, 5, 6, 5, 6, 6, 7, 2, 3, 3, 4, 3, 4, 4, 5, 3, 4, 4, 5, 4, 5, 5, 6, 3, 4, 4, 5, 4, 5, 5, 6, 4, 5, 5, 6, 5, 6, 6, 7, 3, 4, 4, 5, 4, 5, 5, 6, 4, 5, 5, 6, 5, 6, 6, 7, 4, 5, 5, 6, 5, 6, 6, 7, 5, 6, 6, 7, 6, 7, 7, 8] : Str) ((a0 >>> 8).toNat : Int)).bind fun x1 =>
 (lat ([0, 1, 1, 2, 1, 2, 2, 3, 1, 2, 2, 3, 2, 3, 3, 4, 1, 2, 2, 3, 2, 3, 3, 4, 2, 3, 3, 4, 3, 4, 4, 5, 1, 2, 2, 3, 2, 3, 3, 4, 2, 3, 3, 4, 3, 4, 4, 5, 2, 3, 3, 4, 3, 4, 4, 5, 3, 4, 4, 5, 4, 5, 5, 6, 1, 2, 2, 3, 2, 3, 3, 4, 2, 3, 3, 4, 3, 4, 4, 5, 2, 3, 3, 4, 3, 4, 4, 5, 3, 4, 4, 5, 4, 5, 5, 6, 2, 3, 3, 4, 3, 4, 4, 5, 3, 4, 4, 5, 4, 5, 5, 6, 3, 4, 4, 5, 4, 5, 5, 6, 4, 5, 5, 6, 5, 6, 6, 7, 1, 2, 2, 3, 2, 3, 3, 4, 2, 3, 3, 4, 3, 4, 4, 5, 2, 3, 3, 4, 3, 4, 4, 5, 3, 4, 4, 5, 4, 5, 5, 6, 2, 3, 3, 4, 3, 4, 4, 5, 3, 4, 4, 5, 4, 5, 5, 6, 3, 4, 4, 5, 4, 5, 5, 6, 4, 5, 5, 6, 5, 6, 6, 7, 2, 3, 3, 4, 3, 4, 4, 5, 3, 4, 4, 5, 4, 5, 5, 6, 3, 4, 4, 5, 4, 5, 5, 6, 4, 5, 5, 6, 5, 6, 6, 7, 3, 4, 4, 5, 4, 5, 5, 6, 4, 5, 5, 6, 5, 6, 6, 7, 4, 5, 5, 6, 5, 6, 6, 7, 5, 6, 6, 7, 6, 7, 7, 8] : Str) ((a0 &&& (255 : BitVec 16)).toNat : Int)).bind fun x3 =>
 some ((x1.toBitVec + x3.toBitVec).toNat : Int)
def cmp_isNaN_int (a0 : Int) : Option Bool :=
 some (a0 != a0)
def cmp_Compare_int (a0 : Int) (a1 : Int) : Option Int :=
 (cmp_isNaN_int a0).bind fun r1 =>
 (cmp_isNaN_int a1).bind fun r5 =>
 bif r1 then (bif r5 then (some (0 : Int)) else
 some (-1 : Int)) else
 bif r5 then (some (1 : Int)) else
 bif decide (a0 < a1) then (some (-1 : Int)) else
 bif decide (a0 > a1) then (some (1 : Int)) else
 some (0 : Int)
def cmp_isNaN_uint16 (a0 : BitVec 16) : Option Bool :=
 some ((a0.toNat : Int) != (a0.toNat : Int))
def cmp_Compare_uint16 (a0 : BitVec 16) (a1 : BitVec 16) : Option Int :=
 (cmp_isNaN_uint16 a0).bind fun r1 =>
 (cmp_isNaN_uint16 a1).bind fun r5 =>
 bif r1 then (bif r5 then (some (0 : Int)) else
 some (-1 : Int)) else
 bif r5 then (some (1 : Int)) else
 bif decide ((a0.toNat : Int) < (a1.toNat : Int)) then (some (-1 : Int)) else
 bif decide ((a0.toNat : Int) > (a1.toNat : Int)) then (some (1 : Int)) else
 some (0 : Int)
def cmp_Or_int_B0 (a0 : List Int) (i1 : Nat) (z1 : Unit) : Option (Ctl Unit Int) :=
 (lat a0 (i1 : Int)).bind fun x4 =>
 bif x4 != (0 : Int) then (some (.ret x4)) else
 some (.go ())
def cmp_Or_int (a0 : List Int) : Option Int :=
 andThen (rangeM (cmp_Or_int_B0 a0) a0.length 0 ()) fun _ =>
 some (0 : Int)
def quorum_compare (a0 : BitVec 16) (a1 : BitVec 16) : Option Int :=
 (math_bits_OnesCount16 a0).bind fun r1 =>
 (math_bits_OnesCount16 a1).bind fun r5 =>
 (cmp_Compare_int r1 r5).bind fun r9 =>
 (cmp_Compare_uint16 a0 a1).bind fun r13 =>
 (cmp_Or_int ([r9, r13] : List Int)).bind fun r19 =>
 some r19
def quorum_within (a0 : BitVec 16) (a1 : BitVec 16) : Option Bool :=
 some (((a0 &&& ~~~a1).toNat : Int) == ((0 : BitVec 16).toNat : Int))
def quorum_contains_1 (a0 : BitVec 16) (a1 : BitVec 16) : Option Bool :=
 (quorum_within a0 a1).bind fun r2 =>
 some r2
def slices_IndexFunc_uint16_uint16_contains_1_B0 (a0 : List (BitVec 16)) (a1_c0 : BitVec 16) (i2 : Nat) (z2 : Unit) : Option (Ctl Unit Int) :=
 (lat a0 (i2 : Int)).bind fun x5 =>
 (quorum_contains_1 x5 a1_c0).bind fun r8 =>
 bif r8 then (some (.ret (i2 : Int))) else
 some (.go ())
def slices_IndexFunc_uint16_uint16_contains_1 (a0 : List (BitVec 16)) (a1_c0 : BitVec 16) : Option Int :=
 andThen (rangeM (slices_IndexFunc_uint16_uint16_contains_1_B0 a0 a1_c0) a0.length 0 ()) fun _ =>
 some (-1 : Int)
def slices_ContainsFunc_uint16_uint16_contains_1 (a0 : List (BitVec 16)) (a1_c0 : BitVec 16) : Option Bool :=
 (slices_IndexFunc_uint16_uint16_contains_1 a0 a1_c0).bind fun r2 =>
 some (decide (r2 ≥ (0 : Int)))
def quorum_contains (a0 : BitVec 16) (a1 : List (BitVec 16)) : Option Bool :=
 (slices_ContainsFunc_uint16_uint16_contains_1 a1 a0).bind fun r3 =>
 some r3
def quorum_Check_B1 (a0 : Int) (a1 : List (BitVec 16)) (i7 : Nat) (z7 : Unit) : Option (Ctl Unit Int) :=
 (lat a1 (i7 : Int)).bind fun x10 =>
 (cnt a0).bind fun n13 =>
 bif ((x10 >>> n13).toNat : Int) != ((0 : BitVec 16).toNat : Int) then (some (.ret (1 : Int))) else
 (bif decide ((i7 : Int) > (0 : Int)) then ((lat a1 (w64 ((i7 : Int) - (1 : Int)))).bind fun x20 =>
 (quorum_compare x20 x10).bind fun r23 =>
 some (decide (r23 ≥ (0 : Int)))) else
 some false).bind fun y18 =>
 (bif y18 then (some true) else
 (cutL a1 0 (i7 : Int)).bind fun m32 =>
 (quorum_contains x10 m32).bind fun r37 =>
 some r37).bind fun y30 =>
 bif y30 then (some (.ret (4 : Int))) else
 some (.go ())
def quorum_Check (a0 : Int) (a1 : List (BitVec 16)) : Option Int :=
 (quorum_in a0 (1 : Int) (10 : Int)).bind fun r1 =>
 bif !r1 then (some (1 : Int)) else
 bif decide ((a1.length : Int) > (300 : Int)) then (some (2 : Int)) else
 andThen (rangeM (quorum_Check_B1 a0 a1) a1.length 0 ()) fun _ =>
 some (0 : Int)
def quorum_meets_1 (a0 : BitVec 16) (a1 : BitVec 16) : Option Bool :=
 some (((a1 &&& a0).toNat : Int) == ((0 : BitVec 16).toNat : Int))
def slices_IndexFunc_uint16_uint16_meets_1_B0 (a0 : List (BitVec 16)) (a1_c0 : BitVec 16) (i2 : Nat) (z2 : Unit) : Option (Ctl Unit Int) :=
 (lat a0 (i2 : Int)).bind fun x5 =>
 (quorum_meets_1 x5 a1_c0).bind fun r8 =>
 bif r8 then (some (.ret (i2 : Int))) else
 some (.go ())
def slices_IndexFunc_uint16_uint16_meets_1 (a0 : List (BitVec 16)) (a1_c0 : BitVec 16) : Option Int :=
 andThen (rangeM (slices_IndexFunc_uint16_uint16_meets_1_B0 a0 a1_c0) a0.length 0 ()) fun _ =>
 some (-1 : Int)
def slices_ContainsFunc_uint16_uint16_meets_1 (a0 : List (BitVec 16)) (a1_c0 : BitVec 16) : Option Bool :=
 (slices_IndexFunc_uint16_uint16_meets_1 a0 a1_c0).bind fun r2 =>
 some (decide (r2 ≥ (0 : Int)))
def quorum_meets (a0 : BitVec 16) (a1 : List (BitVec 16)) : Option Bool :=
 (slices_ContainsFunc_uint16_uint16_meets_1 a1 a0).bind fun r3 =>
 some (!r3)
def quorum_Meets_1 (a0 : BitVec 16) (a1 : List (BitVec 16)) : Option Bool :=
 (quorum_meets a0 a1).bind fun r2 =>
 some (!r2)
def slices_IndexFunc_uint16_uint16_Meets_1_B0 (a0 : List (BitVec 16)) (a1_c0 : List (BitVec 16)) (i2 : Nat) (z2 : Unit) : Option (Ctl Unit Int) :=
 (lat a0 (i2 : Int)).bind fun x5 =>
 (quorum_Meets_1 x5 a1_c0).bind fun r8 =>
 bif r8 then (some (.ret (i2 : Int))) else
 some (.go ())
def slices_IndexFunc_uint16_uint16_Meets_1 (a0 : List (BitVec 16)) (a1_c0 : List (BitVec 16)) : Option Int :=
 andThen (rangeM (slices_IndexFunc_uint16_uint16_Meets_1_B0 a0 a1_c0) a0.length 0 ()) fun _ =>
 some (-1 : Int)
def slices_ContainsFunc_uint16_uint16_Meets_1 (a0 : List (BitVec 16)) (a1_c0 : List (BitVec 16)) : Option Bool :=
 (slices_IndexFunc_uint16_uint16_Meets_1 a0 a1_c0).bind fun r2 =>
 some (decide (r2 ≥ (0 : Int)))
def quorum_Meets (a0 : Int) (a1 : List (BitVec 16)) : Option (Bool × Int) :=
 (quorum_Check a0 a1).bind fun r3 =>
 bif r3 != (0 : Int) then (some (false, r3)) else
 (slices_ContainsFunc_uint16_uint16_Meets_1 a1 a1).bind fun r8 =>
 some (!r8, (0 : Int))
def quorum_Dual_1 (a0 : BitVec 16) (a1 : List (BitVec 16)) : Option Bool :=
 (quorum_meets a0 a1).bind fun r2 =>
 some r2
def math_bits_Len64 (a0 : BitVec 64) : Option Int :=
 (bif decide ((a0.toNat : Int) ≥ ((4294967296 : BitVec 64).toNat : Int)) then (some (a0 >>> 32, (32 : Int))) else
 some (a0, (0 : Int))).bind fun (y1, y2) =>
 (bif decide ((y1.toNat : Int) ≥ ((65536 : BitVec 64).toNat : Int)) then (some (y1 >>> 16, w64 (y2 + (16 : Int)))) else
 some (y1, y2)).bind fun (y7, y8) =>
 (bif decide ((y7.toNat : Int) ≥ ((256 : BitVec 64).toNat : Int)) then (some (y7 >>> 8, w64 (y8 + (8 : Int)))) else
 some (y7, y8)).bind fun (y13, y14) =>
 (lat ([0, 1, 2, 2, 3, 3, 3, 3, 4, 4, 4, 4, 4, 4, 4, 4, 5, 5, 5, 5, 5, 5, 5, 5, 5, 5, 5, 5, 5, 5, 5, 5, 6, 6, 6, 6, 6, 6, 6, 6, 6, 6, 6, 6, 6, 6, 6, 6, 6, 6, 6, 6, 6, 6, 6, 6, 6, 6, 6, 6, 6, 6, 6, 6, 7, 7, 7, 7, 7, 7, 7, 7, 7, 7, 7, 7, 7, 7, 7, 7, 7, 7, 7, 7, 7, 7, 7, 7, 7, 7, 7, 7, 7, 7, 7, 7, 7, 7, 7, 7, 7, 7, 7, 7, 7, 7, 7, 7, 7, 7, 7, 7, 7, 7, 7, 7, 7, 7, 7, 7, 7, 7, 7, 7, 7, 7, 7, 7, 8, 8, 8, 8, 8, 8, 8, 8, 8, 8, 8, 8, 8, 8, 8, 8, 8, 8, 8, 8, 8, 8, 8, 8, 8, 8, 8, 8, 8, 8, 8, 8, 8, 8, 8, 8, 8, 8, 8, 8, 8, 8, 8, 8, 8, 8, 8, 8, 8, 8, 8, 8, 8, 8, 8, 8, 8, 8, 8, 8, 8, 8, 8, 8, 8, 8, 8, 8, 8, 8, 8, 8, 8, 8, 8, 8, 8, 8, 8, 8, 8, 8, 8, 8, 8, 8, 8, 8, 8, 8, 8, 8, 8, 8, 8, 8, 8, 8, 8, 8, 8, 8, 8, 8, 8, 8, 8, 8, 8, 8, 8, 8, 8, 8, 8, 8, 8, 8, 8, 8, 8, 8, 8, 8, 8, 8, 8, 8] : Str) ((BitVec.ofInt 8 (y13.toNat : Int)).toNat : Int)).bind fun x19 =>
 some (w64 (y14 + (x19.toBitVec.toNat : Int)))
def math_bits_Len (a0 : BitVec 64) : Option Int :=
 (math_bits_Len64 a0).bind fun r1 =>
 some r1
def slices_insertionSortCmpFunc_uint16_quorum_compare_B2 (a1 : Int) (z8 : Int × (List (BitVec 16))) : Option (Ctl (Int × (List (BitVec 16))) (Ctl (Int × (List (BitVec 16))) (List (BitVec 16)))) :=
 (bif decide (z8.1 > a1) then ((lat z8.2 z8.1).bind fun x16 =>
 (lat z8.2 (w64 (z8.1 - (1 : Int)))).bind fun x19 =>
 (quorum_compare x16 x19).bind fun r22 =>
 some (decide (r22 < (0 : Int)))) else
 some false).bind fun y14 =>
 bif y14 then ((lat z8.2 (w64 (z8.1 - (1 : Int)))).bind fun x27 =>
 (lat z8.2 z8.1).bind fun x30 =>
 (lat z8.2 z8.1).bind fun x33 =>
 Let (z8.2.set z8.1.toNat x27) fun p36 =>
 Let p36 fun l39 =>
 (lat l39 (w64 (z8.1 - (1 : Int)))).bind fun x56 =>
 Let (l39.set (w64 (z8.1 - (1 : Int))).toNat x30) fun p59 =>
 some (.go (w64 (z8.1 - (1 : Int)), p59))) else
 some (.brk (z8.1, z8.2))
def slices_insertionSortCmpFunc_uint16_quorum_compare_B0 (fu : Nat) (a1 : Int) (a2 : Int) (z2 : Int × (List (BitVec 16))) : Option (Ctl (Int × (List (BitVec 16))) (List (BitVec 16))) :=
 bif decide (z2.1 < a2) then (andThen (whileM (slices_insertionSortCmpFunc_uint16_quorum_compare_B2 a1) fu (z2.1, z2.2)) fun (y9, l10) =>
 some (.go (w64 (z2.1 + (1 : Int)), l10))) else
 some (.brk (z2.1, z2.2))
def slices_insertionSortCmpFunc_uint16_quorum_compare (fu : Nat) (a0 : List (BitVec 16)) (a1 : Int) (a2 : Int) : Option (List (BitVec 16)) :=
 andThen (whileM (slices_insertionSortCmpFunc_uint16_quorum_compare_B0 fu a1 a2) fu (w64 (a1 + (1 : Int)), a0)) fun (y3, l4) =>
 some l4
def slices_siftDownCmpFunc_uint16_quorum_compare_B0 (a2 : Int) (a3 : Int) (z2 : Int × (List (BitVec 16))) : Option (Ctl (Int × (List (BitVec 16))) (List (BitVec 16))) :=
 bif decide ((w64 ((w64 ((2 : Int) * z2.1)) + (1 : Int))) ≥ a2) then (some (.brk (z2.1, z2.2))) else
 ((bif decide ((w64 ((w64 ((w64 ((2 : Int) * z2.1)) + (1 : Int))) + (1 : Int))) < a2) then ((lat z2.2 (w64 (a3 + (w64 ((w64 ((2 : Int) * z2.1)) + (1 : Int)))))).bind fun x13 =>
 (lat z2.2 (w64 ((w64 (a3 + (w64 ((w64 ((2 : Int) * z2.1)) + (1 : Int))))) + (1 : Int)))).bind fun x16 =>
 (quorum_compare x13 x16).bind fun r19 =>
 some (decide (r19 < (0 : Int)))) else
 some false).bind fun y11 =>
 bif y11 then (some (w64 ((w64 ((w64 ((2 : Int) * z2.1)) + (1 : Int))) + (1 : Int)))) else
 some (w64 ((w64 ((2 : Int) * z2.1)) + (1 : Int)))).bind fun y8 =>
 (lat z2.2 (w64 (a3 + z2.1))).bind fun x26 =>
 (lat z2.2 (w64 (a3 + y8))).bind fun x29 =>
 (quorum_compare x26 x29).bind fun r32 =>
 bif !(decide (r32 < (0 : Int))) then (some (.ret z2.2)) else
 (lat z2.2 (w64 (a3 + y8))).bind fun x37 =>
 (lat z2.2 (w64 (a3 + z2.1))).bind fun x40 =>
 (lat z2.2 (w64 (a3 + z2.1))).bind fun x43 =>
 Let (z2.2.set (w64 (a3 + z2.1)).toNat x37) fun p46 =>
 Let p46 fun l49 =>
 (lat l49 (w64 (a3 + y8))).bind fun x66 =>
 Let (l49.set (w64 (a3 + y8)).toNat x40) fun p69 =>
 some (.go (y8, p69))
def slices_siftDownCmpFunc_uint16_quorum_compare (fu : Nat) (a0 : List (BitVec 16)) (a1 : Int) (a2 : Int) (a3 : Int) : Option (List (BitVec 16)) :=
 andThen (whileM (slices_siftDownCmpFunc_uint16_quorum_compare_B0 a2 a3) fu (a1, a0)) fun (y3, l4) =>
 some l4
def slices_heapSortCmpFunc_uint16_quorum_compare_B2 (fu : Nat) (a1 : Int) (z8 : Int × (List (BitVec 16))) : Option (Ctl (Int × (List (BitVec 16))) (List (BitVec 16))) :=
 bif decide (z8.1 ≥ (0 : Int)) then ((lat z8.2 (w64 (a1 + z8.1))).bind fun x14 =>
 (lat z8.2 a1).bind fun x17 =>
 (lat z8.2 a1).bind fun x20 =>
 Let (z8.2.set a1.toNat x14) fun p23 =>
 Let p23 fun l26 =>
 (lat l26 (w64 (a1 + z8.1))).bind fun x43 =>
 Let (l26.set (w64 (a1 + z8.1)).toNat x17) fun p46 =>
 (slices_siftDownCmpFunc_uint16_quorum_compare fu p46 (0 : Int) z8.1 a1).bind fun r48 =>
 some (.go (w64 (z8.1 - (1 : Int)), r48))) else
 some (.brk (z8.1, z8.2))
def slices_heapSortCmpFunc_uint16_quorum_compare_B0 (fu : Nat) (a1 : Int) (a2 : Int) (z2 : Int × (List (BitVec 16))) : Option (Ctl (Int × (List (BitVec 16))) (List (BitVec 16))) :=
 bif decide (z2.1 ≥ (0 : Int)) then ((slices_siftDownCmpFunc_uint16_quorum_compare fu z2.2 z2.1 (w64 (a2 - a1)) a1).bind fun r52 =>
 some (.go (w64 (z2.1 - (1 : Int)), r52))) else
 some (.brk (z2.1, z2.2))
def slices_heapSortCmpFunc_uint16_quorum_compare (fu : Nat) (a0 : List (BitVec 16)) (a1 : Int) (a2 : Int) : Option (List (BitVec 16)) :=
 andThen (whileM (slices_heapSortCmpFunc_uint16_quorum_compare_B0 fu a1 a2) fu (w64 ((w64 ((w64 (a2 - a1)) - (1 : Int))).tdiv (2 : Int)), a0)) fun (y3, l4) =>
 andThen (whileM (slices_heapSortCmpFunc_uint16_quorum_compare_B2 fu a1) fu (w64 ((w64 (a2 - a1)) - (1 : Int)), l4)) fun (y9, l10) =>
 some l10
def slices_nextPowerOfTwo (a0 : Int) : Option (BitVec 64) :=
 (math_bits_Len (BitVec.ofInt 64 a0)).bind fun r1 =>
 (cnt r1).bind fun n5 =>
 some ((1 : BitVec 64) <<< n5)
def slices_xorshift_Next (a0 : BitVec 64) : Option ((BitVec 64) × (BitVec 64)) :=
 some (((a0 ^^^ (a0 <<< 13)) ^^^ ((a0 ^^^ (a0 <<< 13)) >>> 7)) ^^^ (((a0 ^^^ (a0 <<< 13)) ^^^ ((a0 ^^^ (a0 <<< 13)) >>> 7)) <<< 17), ((a0 ^^^ (a0 <<< 13)) ^^^ ((a0 ^^^ (a0 <<< 13)) >>> 7)) ^^^ (((a0 ^^^ (a0 <<< 13)) ^^^ ((a0 ^^^ (a0 <<< 13)) >>> 7)) <<< 17))
def slices_breakPatternsCmpFunc_uint16_quorum_compare_B0 (a1 : Int) (a2 : Int) (r5 : (BitVec 64)) (z9 : Int × (BitVec 64) × (List (BitVec 16))) : Option (Ctl (Int × (BitVec 64) × (List (BitVec 16))) (List (BitVec 16))) :=
 bif decide (z9.1 ≤ (w64 ((w64 (a1 + (w64 ((w64 ((w64 (a2 - a1)).tdiv (4 : Int))) * (2 : Int))))) + (1 : Int)))) then ((slices_xorshift_Next z9.2.1).bind fun r16 =>
 (bif decide ((w64 ((r16.2 &&& (r5 - (1 : BitVec 64))).toNat : Int)) ≥ (w64 (a2 - a1))) then (some (w64 ((w64 ((r16.2 &&& (r5 - (1 : BitVec 64))).toNat : Int)) - (w64 (a2 - a1))))) else
 some (w64 ((r16.2 &&& (r5 - (1 : BitVec 64))).toNat : Int))).bind fun y20 =>
 (lat z9.2.2 (w64 (a1 + y20))).bind fun x25 =>
 (lat z9.2.2 z9.1).bind fun x28 =>
 (lat z9.2.2 z9.1).bind fun x31 =>
 Let (z9.2.2.set z9.1.toNat x25) fun p34 =>
 Let p34 fun l37 =>
 (lat l37 (w64 (a1 + y20))).bind fun x54 =>
 Let (l37.set (w64 (a1 + y20)).toNat x28) fun p57 =>
 some (.go (w64 (z9.1 + (1 : Int)), r16.1, p57))) else
 some (.brk (z9.1, z9.2.1, z9.2.2))
def slices_breakPatternsCmpFunc_uint16_quorum_compare (fu : Nat) (a0 : List (BitVec 16)) (a1 : Int) (a2 : Int) : Option (List (BitVec 16)) :=
 bif decide ((w64 (a2 - a1)) ≥ (8 : Int)) then ((slices_nextPowerOfTwo (w64 (a2 - a1))).bind fun r5 =>
 andThen (whileM (slices_breakPatternsCmpFunc_uint16_quorum_compare_B0 a1 a2 r5) fu (w64 ((w64 (a1 + (w64 ((w64 ((w64 (a2 - a1)).tdiv (4 : Int))) * (2 : Int))))) - (1 : Int)), BitVec.ofInt 64 (w64 (a2 - a1)), a0)) fun (y10, y11, l12) =>
 some l12) else
 some a0
def slices_order2CmpFunc_uint16_quorum_compare (a0 : List (BitVec 16)) (a1 : Int) (a2 : Int) (a3 : Int) : Option (Int × Int × Int) :=
 (lat a0 a2).bind fun x2 =>
 (lat a0 a1).bind fun x5 =>
 (quorum_compare x2 x5).bind fun r8 =>
 bif decide (r8 < (0 : Int)) then (some (w64 (a3 + (1 : Int)), a2, a1)) else
 some (a3, a1, a2)
def slices_medianCmpFunc_uint16_quorum_compare (a0 : List (BitVec 16)) (a1 : Int) (a2 : Int) (a3 : Int) (a4 : Int) : Option (Int × Int) :=
 (slices_order2CmpFunc_uint16_quorum_compare a0 a1 a2 a4).bind fun r2 =>
 (slices_order2CmpFunc_uint16_quorum_compare a0 r2.2.2 a3 r2.1).bind fun r6 =>
 (slices_order2CmpFunc_uint16_quorum_compare a0 r2.2.1 r6.2.1 r6.1).bind fun r10 =>
 some (r10.1, r10.2.2)
def slices_medianAdjacentCmpFunc_uint16_quorum_compare (a0 : List (BitVec 16)) (a1 : Int) (a2 : Int) : Option (Int × Int) :=
 (slices_medianCmpFunc_uint16_quorum_compare a0 (w64 (a1 - (1 : Int))) a1 (w64 (a1 + (1 : Int))) a2).bind fun r2 =>
 some (r2.1, r2.2)
def slices_choosePivotCmpFunc_uint16_quorum_compare (a0 : List (BitVec 16)) (a1 : Int) (a2 : Int) : Option (Int × Int) :=
 (bif decide ((w64 (a2 - a1)) ≥ (8 : Int)) then ((bif decide ((w64 (a2 - a1)) ≥ (50 : Int)) then ((slices_medianAdjacentCmpFunc_uint16_quorum_compare a0 (w64 (a1 + (w64 ((w64 ((w64 (a2 - a1)).tdiv (4 : Int))) * (1 : Int))))) (0 : Int)).bind fun r13 =>
 (slices_medianAdjacentCmpFunc_uint16_quorum_compare a0 (w64 (a1 + (w64 ((w64 ((w64 (a2 - a1)).tdiv (4 : Int))) * (2 : Int))))) r13.1).bind fun r17 =>
 (slices_medianAdjacentCmpFunc_uint16_quorum_compare a0 (w64 (a1 + (w64 ((w64 ((w64 (a2 - a1)).tdiv (4 : Int))) * (3 : Int))))) r17.1).bind fun r21 =>
 some (r13.2, r17.2, r21.2, r21.1)) else
 some (w64 (a1 + (w64 ((w64 ((w64 (a2 - a1)).tdiv (4 : Int))) * (1 : Int)))), w64 (a1 + (w64 ((w64 ((w64 (a2 - a1)).tdiv (4 : Int))) * (2 : Int)))), w64 (a1 + (w64 ((w64 ((w64 (a2 - a1)).tdiv (4 : Int))) * (3 : Int)))), (0 : Int))).bind fun (y7, y8, y9, y10) =>
 (slices_medianCmpFunc_uint16_quorum_compare a0 y7 y8 y9 y10).bind fun r27 =>
 some (r27.2, r27.1)) else
 some (w64 (a1 + (w64 ((w64 ((w64 (a2 - a1)).tdiv (4 : Int))) * (2 : Int)))), (0 : Int))).bind fun (y3, y4) =>
 bif y4 == (0 : Int) then (some (y3, (1 : Int))) else
 bif y4 == (12 : Int) then (some (y3, (2 : Int))) else
 some (y3, (0 : Int))
def slices_reverseRangeCmpFunc_uint16_quorum_compare_B0 (z2 : Int × Int × (List (BitVec 16))) : Option (Ctl (Int × Int × (List (BitVec 16))) (List (BitVec 16))) :=
 bif decide (z2.1 < z2.2.1) then ((lat z2.2.2 z2.2.1).bind fun x9 =>
 (lat z2.2.2 z2.1).bind fun x12 =>
 (lat z2.2.2 z2.1).bind fun x15 =>
 Let (z2.2.2.set z2.1.toNat x9) fun p18 =>
 Let p18 fun l21 =>
 (lat l21 z2.2.1).bind fun x38 =>
 Let (l21.set z2.2.1.toNat x12) fun p41 =>
 some (.go (w64 (z2.1 + (1 : Int)), w64 (z2.2.1 - (1 : Int)), p41))) else
 some (.brk (z2.1, z2.2.1, z2.2.2))
def slices_reverseRangeCmpFunc_uint16_quorum_compare (fu : Nat) (a0 : List (BitVec 16)) (a1 : Int) (a2 : Int) : Option (List (BitVec 16)) :=
 andThen (whileM (slices_reverseRangeCmpFunc_uint16_quorum_compare_B0) fu (a1, w64 (a2 - (1 : Int)), a0)) fun (y3, y4, l5) =>
 some l5
def slices_partialInsertionSortCmpFunc_uint16_quorum_compare_B4 (z66 : Int × (List (BitVec 16))) : Option (Ctl (Int × (List (BitVec 16))) (List (BitVec 16))) :=
 bif decide (z66.1 ≥ (1 : Int)) then ((lat z66.2 z66.1).bind fun x72 =>
 (lat z66.2 (w64 (z66.1 - (1 : Int)))).bind fun x75 =>
 (quorum_compare x72 x75).bind fun r78 =>
 bif !(decide (r78 < (0 : Int))) then (some (.brk (z66.1, z66.2))) else
 (lat z66.2 (w64 (z66.1 - (1 : Int)))).bind fun x83 =>
 (lat z66.2 z66.1).bind fun x86 =>
 (lat z66.2 z66.1).bind fun x89 =>
 Let (z66.2.set z66.1.toNat x83) fun p92 =>
 Let p92 fun l95 =>
 (lat l95 (w64 (z66.1 - (1 : Int)))).bind fun x112 =>
 Let (l95.set (w64 (z66.1 - (1 : Int))).toNat x86) fun p115 =>
 some (.go (w64 (z66.1 - (1 : Int)), p115))) else
 some (.brk (z66.1, z66.2))
def slices_partialInsertionSortCmpFunc_uint16_quorum_compare_B6 (a2 : Int) (z120 : Int × (List (BitVec 16))) : Option (Ctl (Int × (List (BitVec 16))) (Ctl (Int × Int × (List (BitVec 16))) ((List (BitVec 16)) × Bool))) :=
 bif decide (z120.1 < a2) then ((lat z120.2 z120.1).bind fun x126 =>
 (lat z120.2 (w64 (z120.1 - (1 : Int)))).bind fun x129 =>
 (quorum_compare x126 x129).bind fun r132 =>
 bif !(decide (r132 < (0 : Int))) then (some (.brk (z120.1, z120.2))) else
 (lat z120.2 (w64 (z120.1 - (1 : Int)))).bind fun x137 =>
 (lat z120.2 z120.1).bind fun x140 =>
 (lat z120.2 z120.1).bind fun x143 =>
 Let (z120.2.set z120.1.toNat x137) fun p146 =>
 Let p146 fun l149 =>
 (lat l149 (w64 (z120.1 - (1 : Int)))).bind fun x166 =>
 Let (l149.set (w64 (z120.1 - (1 : Int))).toNat x140) fun p169 =>
 some (.go (w64 (z120.1 + (1 : Int)), p169))) else
 some (.brk (z120.1, z120.2))
def slices_partialInsertionSortCmpFunc_uint16_quorum_compare_B2 (a2 : Int) (l5 : List (BitVec 16)) (z9 : Int) : Option (Ctl Int (Ctl (Int × Int × (List (BitVec 16))) ((List (BitVec 16)) × Bool))) :=
 (bif decide (z9 < a2) then ((lat l5 z9).bind fun x16 =>
 (lat l5 (w64 (z9 - (1 : Int)))).bind fun x19 =>
 (quorum_compare x16 x19).bind fun r22 =>
 some (!(decide (r22 < (0 : Int))))) else
 some false).bind fun y14 =>
 bif y14 then (some (.go (w64 (z9 + (1 : Int))))) else
 some (.brk z9)
def slices_partialInsertionSortCmpFunc_uint16_quorum_compare_B0 (fu : Nat) (a1 : Int) (a2 : Int) (z2 : Int × Int × (List (BitVec 16))) : Option (Ctl (Int × Int × (List (BitVec 16))) ((List (BitVec 16)) × Bool)) :=
 bif decide (z2.2.1 < (5 : Int)) then (andThen (whileM (slices_partialInsertionSortCmpFunc_uint16_quorum_compare_B2 a2 z2.2.2) fu z2.1) fun y10 =>
 bif y10 == a2 then (some (.ret (z2.2.2, true))) else
 bif decide ((w64 (a2 - a1)) < (50 : Int)) then (some (.ret (z2.2.2, false))) else
 (lat z2.2.2 (w64 (y10 - (1 : Int)))).bind fun x29 =>
 (lat z2.2.2 y10).bind fun x32 =>
 (lat z2.2.2 y10).bind fun x35 =>
 Let (z2.2.2.set y10.toNat x29) fun p38 =>
 Let p38 fun l41 =>
 (lat l41 (w64 (y10 - (1 : Int)))).bind fun x58 =>
 Let (l41.set (w64 (y10 - (1 : Int))).toNat x32) fun p61 =>
 (bif decide ((w64 (y10 - a1)) ≥ (2 : Int)) then (andThen (whileM (slices_partialInsertionSortCmpFunc_uint16_quorum_compare_B4) fu (w64 (y10 - (1 : Int)), p61)) fun (y67, l68) =>
 some l68) else
 some p61).bind fun l63 =>
 bif decide ((w64 (a2 - y10)) ≥ (2 : Int)) then (andThen (whileM (slices_partialInsertionSortCmpFunc_uint16_quorum_compare_B6 a2) fu (w64 (y10 + (1 : Int)), l63)) fun (y121, l122) =>
 some (.go (y10, w64 (z2.2.1 + (1 : Int)), l122))) else
 some (.go (y10, w64 (z2.2.1 + (1 : Int)), l63))) else
 some (.brk (z2.1, z2.2.1, z2.2.2))
def slices_partialInsertionSortCmpFunc_uint16_quorum_compare (fu : Nat) (a0 : List (BitVec 16)) (a1 : Int) (a2 : Int) : Option ((List (BitVec 16)) × Bool) :=
 andThen (whileM (slices_partialInsertionSortCmpFunc_uint16_quorum_compare_B0 fu a1 a2) fu (w64 (a1 + (1 : Int)), (0 : Int), a0)) fun (y3, y4, l5) =>
 some (l5, false)
def slices_partitionEqualCmpFunc_uint16_quorum_compare_B4 (a1 : Int) (l39 : List (BitVec 16)) (y43 : Int) (z60 : Int) : Option (Ctl Int (Ctl (Int × Int × (List (BitVec 16))) ((List (BitVec 16)) × Int))) :=
 (bif decide (y43 ≤ z60) then ((lat l39 a1).bind fun x67 =>
 (lat l39 z60).bind fun x70 =>
 (quorum_compare x67 x70).bind fun r73 =>
 some (decide (r73 < (0 : Int)))) else
 some false).bind fun y65 =>
 bif y65 then (some (.go (w64 (z60 - (1 : Int))))) else
 some (.brk z60)
def slices_partitionEqualCmpFunc_uint16_quorum_compare_B2 (a1 : Int) (y38 : Int) (l39 : List (BitVec 16)) (z42 : Int) : Option (Ctl Int (Ctl (Int × Int × (List (BitVec 16))) ((List (BitVec 16)) × Int))) :=
 (bif decide (z42 ≤ y38) then ((lat l39 a1).bind fun x49 =>
 (lat l39 z42).bind fun x52 =>
 (quorum_compare x49 x52).bind fun r55 =>
 some (!(decide (r55 < (0 : Int))))) else
 some false).bind fun y47 =>
 bif y47 then (some (.go (w64 (z42 + (1 : Int))))) else
 some (.brk z42)
def slices_partitionEqualCmpFunc_uint16_quorum_compare_B0 (fu : Nat) (a1 : Int) (z36 : Int × Int × (List (BitVec 16))) : Option (Ctl (Int × Int × (List (BitVec 16))) ((List (BitVec 16)) × Int)) :=
 andThen (whileM (slices_partitionEqualCmpFunc_uint16_quorum_compare_B2 a1 z36.2.1 z36.2.2) fu z36.1) fun y43 =>
 andThen (whileM (slices_partitionEqualCmpFunc_uint16_quorum_compare_B4 a1 z36.2.2 y43) fu z36.2.1) fun y61 =>
 bif decide (y43 > y61) then (some (.brk (y43, y61, z36.2.2))) else
 (lat z36.2.2 y61).bind fun x79 =>
 (lat z36.2.2 y43).bind fun x82 =>
 (lat z36.2.2 y43).bind fun x85 =>
 Let (z36.2.2.set y43.toNat x79) fun p88 =>
 Let p88 fun l91 =>
 (lat l91 y61).bind fun x108 =>
 Let (l91.set y61.toNat x82) fun p111 =>
 some (.go (w64 (y43 + (1 : Int)), w64 (y61 - (1 : Int)), p111))
def slices_partitionEqualCmpFunc_uint16_quorum_compare (fu : Nat) (a0 : List (BitVec 16)) (a1 : Int) (a2 : Int) (a3 : Int) : Option ((List (BitVec 16)) × Int) :=
 (lat a0 a3).bind fun x2 =>
 (lat a0 a1).bind fun x5 =>
 (lat a0 a1).bind fun x8 =>
 Let (a0.set a1.toNat x2) fun p11 =>
 Let p11 fun l14 =>
 (lat l14 a3).bind fun x31 =>
 Let (l14.set a3.toNat x5) fun p34 =>
 andThen (whileM (slices_partitionEqualCmpFunc_uint16_quorum_compare_B0 fu a1) fu (w64 (a1 + (1 : Int)), w64 (a2 - (1 : Int)), p34)) fun (y37, y38, l39) =>
 some (l39, y37)
def slices_partitionCmpFunc_uint16_quorum_compare_B8 (a1 : Int) (l144 : List (BitVec 16)) (y148 : Int) (z165 : Int) : Option (Ctl Int (Ctl (Int × Int × (List (BitVec 16))) ((List (BitVec 16)) × Int × Bool))) :=
 (bif decide (y148 ≤ z165) then ((lat l144 z165).bind fun x172 =>
 (lat l144 a1).bind fun x175 =>
 (quorum_compare x172 x175).bind fun r178 =>
 some (!(decide (r178 < (0 : Int))))) else
 some false).bind fun y170 =>
 bif y170 then (some (.go (w64 (z165 - (1 : Int))))) else
 some (.brk z165)
def slices_partitionCmpFunc_uint16_quorum_compare_B6 (a1 : Int) (y143 : Int) (l144 : List (BitVec 16)) (z147 : Int) : Option (Ctl Int (Ctl (Int × Int × (List (BitVec 16))) ((List (BitVec 16)) × Int × Bool))) :=
 (bif decide (z147 ≤ y143) then ((lat l144 z147).bind fun x154 =>
 (lat l144 a1).bind fun x157 =>
 (quorum_compare x154 x157).bind fun r160 =>
 some (decide (r160 < (0 : Int)))) else
 some false).bind fun y152 =>
 bif y152 then (some (.go (w64 (z147 + (1 : Int))))) else
 some (.brk z147)
def slices_partitionCmpFunc_uint16_quorum_compare_B4 (fu : Nat) (a1 : Int) (z141 : Int × Int × (List (BitVec 16))) : Option (Ctl (Int × Int × (List (BitVec 16))) ((List (BitVec 16)) × Int × Bool)) :=
 andThen (whileM (slices_partitionCmpFunc_uint16_quorum_compare_B6 a1 z141.2.1 z141.2.2) fu z141.1) fun y148 =>
 andThen (whileM (slices_partitionCmpFunc_uint16_quorum_compare_B8 a1 z141.2.2 y148) fu z141.2.1) fun y166 =>
 bif decide (y148 > y166) then (some (.brk (y148, y166, z141.2.2))) else
 (lat z141.2.2 y166).bind fun x218 =>
 (lat z141.2.2 y148).bind fun x221 =>
 (lat z141.2.2 y148).bind fun x224 =>
 Let (z141.2.2.set y148.toNat x218) fun p227 =>
 Let p227 fun l230 =>
 (lat l230 y166).bind fun x247 =>
 Let (l230.set y166.toNat x221) fun p250 =>
 some (.go (w64 (y148 + (1 : Int)), w64 (y166 - (1 : Int)), p250))
def slices_partitionCmpFunc_uint16_quorum_compare_B2 (a1 : Int) (p34 : List (BitVec 16)) (y37 : Int) (z54 : Int) : Option (Ctl Int ((List (BitVec 16)) × Int × Bool)) :=
 (bif decide (y37 ≤ z54) then ((lat p34 z54).bind fun x61 =>
 (lat p34 a1).bind fun x64 =>
 (quorum_compare x61 x64).bind fun r67 =>
 some (!(decide (r67 < (0 : Int))))) else
 some false).bind fun y59 =>
 bif y59 then (some (.go (w64 (z54 - (1 : Int))))) else
 some (.brk z54)
def slices_partitionCmpFunc_uint16_quorum_compare_B0 (a1 : Int) (a2 : Int) (p34 : List (BitVec 16)) (z36 : Int) : Option (Ctl Int ((List (BitVec 16)) × Int × Bool)) :=
 (bif decide (z36 ≤ (w64 (a2 - (1 : Int)))) then ((lat p34 z36).bind fun x43 =>
 (lat p34 a1).bind fun x46 =>
 (quorum_compare x43 x46).bind fun r49 =>
 some (decide (r49 < (0 : Int)))) else
 some false).bind fun y41 =>
 bif y41 then (some (.go (w64 (z36 + (1 : Int))))) else
 some (.brk z36)
def slices_partitionCmpFunc_uint16_quorum_compare (fu : Nat) (a0 : List (BitVec 16)) (a1 : Int) (a2 : Int) (a3 : Int) : Option ((List (BitVec 16)) × Int × Bool) :=
 (lat a0 a3).bind fun x2 =>
 (lat a0 a1).bind fun x5 =>
 (lat a0 a1).bind fun x8 =>
 Let (a0.set a1.toNat x2) fun p11 =>
 Let p11 fun l14 =>
 (lat l14 a3).bind fun x31 =>
 Let (l14.set a3.toNat x5) fun p34 =>
 andThen (whileM (slices_partitionCmpFunc_uint16_quorum_compare_B0 a1 a2 p34) fu (w64 (a1 + (1 : Int)))) fun y37 =>
 andThen (whileM (slices_partitionCmpFunc_uint16_quorum_compare_B2 a1 p34 y37) fu (w64 (a2 - (1 : Int)))) fun y55 =>
 bif decide (y37 > y55) then ((lat p34 a1).bind fun x73 =>
 (lat p34 y55).bind fun x76 =>
 (lat p34 y55).bind fun x79 =>
 Let (p34.set y55.toNat x73) fun p82 =>
 Let p82 fun l85 =>
 (lat l85 a1).bind fun x102 =>
 Let (l85.set a1.toNat x76) fun p105 =>
 some (p105, y55, true)) else
 (lat p34 y55).bind fun x107 =>
 (lat p34 y37).bind fun x110 =>
 (lat p34 y37).bind fun x113 =>
 Let (p34.set y37.toNat x107) fun p116 =>
 Let p116 fun l119 =>
 (lat l119 y55).bind fun x136 =>
 Let (l119.set y55.toNat x110) fun p139 =>
 andThen (whileM (slices_partitionCmpFunc_uint16_quorum_compare_B4 fu a1) fu (w64 (y37 + (1 : Int)), w64 (y55 - (1 : Int)), p139)) fun (y142, y143, l144) =>
 (lat l144 a1).bind fun x252 =>
 (lat l144 y143).bind fun x255 =>
 (lat l144 y143).bind fun x258 =>
 Let (l144.set y143.toNat x252) fun p261 =>
 Let p261 fun l264 =>
 (lat l264 a1).bind fun x281 =>
 Let (l264.set a1.toNat x255) fun p284 =>
 some (p284, y143, false)
def slices_pdqsortCmpFunc_uint16_quorum_compare_B0 (fu : Nat) (rc : (List (BitVec 16)) → Int → Int → Int → Option (List (BitVec 16))) (z2 : Int × Int × Int × Bool × Bool × (List (BitVec 16))) : Option (Ctl (Int × Int × Int × Bool × Bool × (List (BitVec 16))) (List (BitVec 16))) :=
 bif decide ((w64 (z2.2.1 - z2.1)) ≤ (12 : Int)) then ((slices_insertionSortCmpFunc_uint16_quorum_compare fu z2.2.2.2.2.2 z2.1 z2.2.1).bind fun r12 =>
 some (.ret r12)) else
 bif z2.2.2.1 == (0 : Int) then ((slices_heapSortCmpFunc_uint16_quorum_compare fu z2.2.2.2.2.2 z2.1 z2.2.1).bind fun r17 =>
 some (.ret r17)) else
 (bif !z2.2.2.2.1 then ((slices_breakPatternsCmpFunc_uint16_quorum_compare fu z2.2.2.2.2.2 z2.1 z2.2.1).bind fun r25 =>
 some (w64 (z2.2.2.1 - (1 : Int)), r25)) else
 some (z2.2.2.1, z2.2.2.2.2.2)).bind fun (y21, l22) =>
 (slices_choosePivotCmpFunc_uint16_quorum_compare l22 z2.1 z2.2.1).bind fun r31 =>
 (bif r31.2 == (2 : Int) then ((slices_reverseRangeCmpFunc_uint16_quorum_compare fu l22 z2.1 z2.2.1).bind fun r40 =>
 some (w64 ((w64 (z2.2.1 - (1 : Int))) - (w64 (r31.1 - z2.1))), (1 : Int), r40)) else
 some (r31.1, r31.2, l22)).bind fun (y35, y36, l37) =>
 andThen ((bif z2.2.2.2.1 then (some z2.2.2.2.2.1) else
 some false).bind fun y49 =>
 (bif y49 then (some (y36 == (1 : Int))) else
 some false).bind fun y54 =>
 bif y54 then ((slices_partialInsertionSortCmpFunc_uint16_quorum_compare fu l37 z2.1 z2.2.1).bind fun r59 =>
 bif r59.2 then (some (.inr (.ret r59.1))) else
 some (.inl r59.1)) else
 some (.inl l37)) fun l46 =>
 (bif decide (z2.1 > (0 : Int)) then ((lat l46 (w64 (z2.1 - (1 : Int)))).bind fun x69 =>
 (lat l46 y35).bind fun x72 =>
 (quorum_compare x69 x72).bind fun r75 =>
 some (!(decide (r75 < (0 : Int))))) else
 some false).bind fun y67 =>
 bif y67 then ((slices_partitionEqualCmpFunc_uint16_quorum_compare fu l46 z2.1 z2.2.1 y35).bind fun r80 =>
 some (.go (r80.2, z2.2.1, y21, z2.2.2.2.1, z2.2.2.2.2.1, r80.1))) else
 (slices_partitionCmpFunc_uint16_quorum_compare fu l46 z2.1 z2.2.1 y35).bind fun r84 =>
 bif decide ((w64 (r84.2.1 - z2.1)) < (w64 (z2.2.1 - r84.2.1))) then ((rc r84.1 z2.1 r84.2.1 y21).bind fun r93 =>
 some (.go (w64 (r84.2.1 + (1 : Int)), z2.2.1, y21, decide ((w64 (r84.2.1 - z2.1)) ≥ (w64 ((w64 (z2.2.1 - z2.1)).tdiv (8 : Int)))), r84.2.2, r93))) else
 (rc r84.1 (w64 (r84.2.1 + (1 : Int))) z2.2.1 y21).bind fun r89 =>
 some (.go (z2.1, r84.2.1, y21, decide ((w64 (z2.2.1 - r84.2.1)) ≥ (w64 ((w64 (z2.2.1 - z2.1)).tdiv (8 : Int)))), r84.2.2, r89))
def slices_pdqsortCmpFunc_uint16_quorum_compare_R (fu : Nat) (rc : (List (BitVec 16)) → Int → Int → Int → Option (List (BitVec 16))) (a0 : List (BitVec 16)) (a1 : Int) (a2 : Int) (a3 : Int) : Option (List (BitVec 16)) :=
 andThen (whileM (slices_pdqsortCmpFunc_uint16_quorum_compare_B0 fu rc) fu (a1, a2, a3, true, true, a0)) fun (y3, y4, y5, y6, y7, l8) =>
 none
def slices_pdqsortCmpFunc_uint16_quorum_compare : (fu : Nat) → (a0 : List (BitVec 16)) → (a1 : Int) → (a2 : Int) → (a3 : Int) → Option (List (BitVec 16))
  | 0, _, _, _, _ => none
  | fu + 1, a0, a1, a2, a3 => slices_pdqsortCmpFunc_uint16_quorum_compare_R fu (slices_pdqsortCmpFunc_uint16_quorum_compare fu) a0 a1 a2 a3
def slices_SortFunc_uint16_uint16_quorum_compare (fu : Nat) (a0 : List (BitVec 16)) : Option (List (BitVec 16)) :=
 (math_bits_Len (BitVec.ofInt 64 (a0.length : Int))).bind fun r2 =>
 (slices_pdqsortCmpFunc_uint16_quorum_compare fu a0 (0 : Int) (a0.length : Int) r2).bind fun r6 =>
 some r6
def quorum_minimal_Dual_1_B2 (r14 : (List (BitVec 16))) (i19 : Nat) (z19 : (List (BitVec 16))) : Option (List (BitVec 16)) :=
 (lat r14 (i19 : Int)).bind fun x24 =>
 (quorum_contains x24 z19).bind fun r27 =>
 bif !r27 then ((room z19 ([x24] : List (BitVec 16))).bind fun u34 =>
 some (z19 ++ ([x24] : List (BitVec 16)))) else
 some z19
def quorum_minimal_Dual_1_B0 (a1_c0 : List (BitVec 16)) (n4 : Nat) (z7 : (BitVec 16) × (List (BitVec 16))) : Option (Ctl ((BitVec 16) × (List (BitVec 16))) (List (BitVec 16))) :=
 bif decide ((z7.1.toNat : Int) < (((1 : BitVec 16) <<< n4).toNat : Int)) then ((quorum_Dual_1 z7.1 a1_c0).bind fun r38 =>
 bif r38 then ((room z7.2 ([z7.1] : List (BitVec 16))).bind fun u45 =>
 some (.go (z7.1 + (1 : BitVec 16), z7.2 ++ ([z7.1] : List (BitVec 16))))) else
 some (.go (z7.1 + (1 : BitVec 16), z7.2))) else
 some (.brk (z7.1, z7.2))
def quorum_minimal_Dual_1 (fu : Nat) (a0 : Int) (a1_c0 : List (BitVec 16)) : Option (List (BitVec 16)) :=
 (cnt a0).bind fun n4 =>
 andThen (whileM (quorum_minimal_Dual_1_B0 a1_c0 n4) fu ((0 : BitVec 16), ([] : List (BitVec 16)))) fun (y8, l10) =>
 (slices_SortFunc_uint16_uint16_quorum_compare fu l10).bind fun r14 =>
 (rangeF (quorum_minimal_Dual_1_B2 r14) r14.length 0 ([] : List (BitVec 16))).bind fun l21 =>
 some l21
def quorum_Dual (fu : Nat) (a0 : Int) (a1 : List (BitVec 16)) : Option ((List (BitVec 16)) × Int) :=
 (quorum_Check a0 a1).bind fun r4 =>
 bif r4 != (0 : Int) then (some (([] : List (BitVec 16)), r4)) else
 (quorum_minimal_Dual_1 fu a0 a1).bind fun r10 =>
 some (r10, (0 : Int))
def quorum_Has (a0 : Int) (a1 : List (BitVec 16)) (a2 : BitVec 16) : Option (Bool × Int) :=
 (quorum_Check a0 a1).bind fun r1 =>
 bif r1 != (0 : Int) then (some (false, r1)) else
 (quorum_contains a2 a1).bind fun r6 =>
 some (r6, (0 : Int))
def partlaw_QuorumSays_1_1 (a0 : BitVec 16) (a1 : BitVec 16) : Option Bool :=
 some (((a1 &&& a0).toNat : Int) == ((0 : BitVec 16).toNat : Int))
def slices_IndexFunc_uint16_uint16_1_1_B0 (a0 : List (BitVec 16)) (a1_c0 : BitVec 16) (i2 : Nat) (z2 : Unit) : Option (Ctl Unit Int) :=
 (lat a0 (i2 : Int)).bind fun x5 =>
 (partlaw_QuorumSays_1_1 x5 a1_c0).bind fun r8 =>
 bif r8 then (some (.ret (i2 : Int))) else
 some (.go ())
def slices_IndexFunc_uint16_uint16_1_1 (a0 : List (BitVec 16)) (a1_c0 : BitVec 16) : Option Int :=
 andThen (rangeM (slices_IndexFunc_uint16_uint16_1_1_B0 a0 a1_c0) a0.length 0 ()) fun _ =>
 some (-1 : Int)
def slices_ContainsFunc_uint16_uint16_1_1 (a0 : List (BitVec 16)) (a1_c0 : BitVec 16) : Option Bool :=
 (slices_IndexFunc_uint16_uint16_1_1 a0 a1_c0).bind fun r2 =>
 some (decide (r2 ≥ (0 : Int)))
def partlaw_QuorumSays_1 (a0 : BitVec 16) (a1 : List (BitVec 16)) : Option Bool :=
 (slices_ContainsFunc_uint16_uint16_1_1 a1 a0).bind fun r4 =>
 some (!r4)
def partref_LeastSets_1 (a0 : BitVec 16) (a1 : BitVec 16) : Option Bool :=
 some (((a1 ||| a0).toNat : Int) == (a1.toNat : Int))
def slices_IndexFunc_uint16_uint16_LeastSets_1_B0 (a0 : List (BitVec 16)) (a1_c0 : BitVec 16) (i2 : Nat) (z2 : Unit) : Option (Ctl Unit Int) :=
 (lat a0 (i2 : Int)).bind fun x5 =>
 (partref_LeastSets_1 x5 a1_c0).bind fun r8 =>
 bif r8 then (some (.ret (i2 : Int))) else
 some (.go ())
def slices_IndexFunc_uint16_uint16_LeastSets_1 (a0 : List (BitVec 16)) (a1_c0 : BitVec 16) : Option Int :=
 andThen (rangeM (slices_IndexFunc_uint16_uint16_LeastSets_1_B0 a0 a1_c0) a0.length 0 ()) fun _ =>
 some (-1 : Int)
def slices_ContainsFunc_uint16_uint16_LeastSets_1 (a0 : List (BitVec 16)) (a1_c0 : BitVec 16) : Option Bool :=
 (slices_IndexFunc_uint16_uint16_LeastSets_1 a0 a1_c0).bind fun r2 =>
 some (decide (r2 ≥ (0 : Int)))
def partref_LeastSets_QuorumSays_1_B2 (fu : Nat) (a1_c0 : List (BitVec 16)) (i4 : Nat) (n10 : Nat) (z13 : (BitVec 16) × (List (BitVec 16))) : Option (Ctl ((BitVec 16) × (List (BitVec 16))) (List (BitVec 16))) :=
 bif decide ((z13.1.toNat : Int) < (((1 : BitVec 16) <<< n10).toNat : Int)) then ((partref_size fu z13.1).bind fun r22 =>
 bif r22 == (i4 : Int) then ((partlaw_QuorumSays_1 z13.1 a1_c0).bind fun r27 =>
 bif r27 then ((slices_ContainsFunc_uint16_uint16_LeastSets_1 z13.2 z13.1).bind fun r32 =>
 bif !r32 then ((room z13.2 ([z13.1] : List (BitVec 16))).bind fun u39 =>
 some (.go (z13.1 + (1 : BitVec 16), z13.2 ++ ([z13.1] : List (BitVec 16))))) else
 some (.go (z13.1 + (1 : BitVec 16), z13.2))) else
 some (.go (z13.1 + (1 : BitVec 16), z13.2))) else
 some (.go (z13.1 + (1 : BitVec 16), z13.2))) else
 some (.brk (z13.1, z13.2))
def partref_LeastSets_QuorumSays_1_B0 (fu : Nat) (a0 : Int) (a1_c0 : List (BitVec 16)) (i4 : Nat) (z4 : (List (BitVec 16))) : Option (List (BitVec 16)) :=
 (cnt a0).bind fun n10 =>
 andThen (whileM (partref_LeastSets_QuorumSays_1_B2 fu a1_c0 i4 n10) fu ((0 : BitVec 16), z4)) fun (y14, l16) =>
 some l16
def partref_LeastSets_QuorumSays_1 (fu : Nat) (a0 : Int) (a1_c0 : List (BitVec 16)) : Option (List (BitVec 16)) :=
 (upTo (w64 (a0 + (1 : Int)))).bind fun nn9 =>
 (rangeF (partref_LeastSets_QuorumSays_1_B0 fu a0 a1_c0) nn9 0 ([] : List (BitVec 16))).bind fun l6 =>
 some l6
def slices_Equal_uint16_uint16_B0 (a0 : List (BitVec 16)) (a1 : List (BitVec 16)) (i2 : Nat) (z2 : Unit) : Option (Ctl Unit Bool) :=
 (lat a0 (i2 : Int)).bind fun x5 =>
 (lat a1 (i2 : Int)).bind fun x8 =>
 bif (x5.toNat : Int) != (x8.toNat : Int) then (some (.ret false)) else
 some (.go ())
def slices_Equal_uint16_uint16 (a0 : List (BitVec 16)) (a1 : List (BitVec 16)) : Option Bool :=
 bif (a0.length : Int) != (a1.length : Int) then (some false) else
 andThen (rangeM (slices_Equal_uint16_uint16_B0 a0 a1) a0.length 0 ()) fun _ =>
 some true
def partlaw_QuorumSays_B2 (a1 : List (BitVec 16)) (x57 : BitVec 16) (i65 : Nat) (z65 : Bool) : Option Bool :=
 (lat a1 (i65 : Int)).bind fun x69 =>
 (bif z65 then (some (decide (((x57 &&& x69).toNat : Int) > ((0 : BitVec 16).toNat : Int)))) else
 some false).bind fun y73 =>
 some y73
def partlaw_QuorumSays_B0 (a1 : List (BitVec 16)) (a2 : BitVec 16) (i52 : Nat) (z52 : Bool × Bool) : Option (Bool × Bool) :=
 (lat a1 (i52 : Int)).bind fun x57 =>
 (bif z52.2 then (some true) else
 some (((x57 ||| a2).toNat : Int) == (a2.toNat : Int))).bind fun y61 =>
 (rangeF (partlaw_QuorumSays_B2 a1 x57) a1.length 0 z52.1).bind fun y66 =>
 some (y66, y61)
def partlaw_QuorumSays (fu : Nat) (a0 : Int) (a1 : List (BitVec 16)) (a2 : BitVec 16) : Option Bool :=
 (partref_QuorumErr fu a0 a1).bind fun r3 =>
 (quorum_Meets a0 a1).bind fun r7 =>
 (quorum_Dual fu a0 a1).bind fun r11 =>
 (quorum_Has a0 a1 a2).bind fun r17 =>
 (quorum_Check a0 a1).bind fun r21 =>
 bif r21 != r3 then (some false) else
 bif r3 != (0 : Int) then ((bif !r7.1 then (some (r7.2 == r3)) else
 some false).bind fun y28 =>
 (bif y28 then (some ((r11.1.length : Int) == (0 : Int))) else
 some false).bind fun y33 =>
 (bif y33 then (some (r11.2 == r3)) else
 some false).bind fun y38 =>
 (bif y38 then (some (!r17.1)) else
 some false).bind fun y43 =>
 (bif y43 then (some (r17.2 == r3)) else
 some false).bind fun y48 =>
 some y48) else
 (rangeF (partlaw_QuorumSays_B0 a1 a2) a1.length 0 (true, false)).bind fun (y53, y54) =>
 (partref_LeastSets_QuorumSays_1 fu a0 a1).bind fun r78 =>
 (bif r7.1 == y53 then (some (r7.2 == (0 : Int))) else
 some false).bind fun y85 =>
 (bif y85 then ((slices_Equal_uint16_uint16 r11.1 r78).bind fun r92 =>
 some r92) else
 some false).bind fun y90 =>
 (bif y90 then (some (r11.2 == (0 : Int))) else
 some false).bind fun y99 =>
 (bif y99 then (some (r17.1 == y54)) else
 some false).bind fun y104 =>
 (bif y104 then (some (r17.2 == (0 : Int))) else
 some false).bind fun y109 =>
 some y109
end Go.Proofs.Ytnljiedichjagaa
