/-
  What the functions compute, typed; printed by a program.
-/
import Derived.Test.YtnljiedichjagaaGoI
import Derived.Test.YtnljiedichjagaaGoM
import Derived.Test.YtnljiedichjagaaGoS
namespace Go.Proofs.Ytnljiedichjagaa
open Go.RowKit Enc
set_option linter.unusedVariables false
set_option linter.unusedSimpArgs false
def quorum_in (a0 : Int) (a1 : Int) (a2 : Int) : Option Bool :=
 (bif decide (a0 ≥ a1) then (some (decide (a0 ≤ a2))) else
 some false).bind fun y2 =>
 some y2
def quorum_Votes_1 (a0 : Int) : Option Bool :=
 (quorum_in a0 (0 : Int) (16777215 : Int)).bind fun r1 =>
 some (!r1)
def slices_IndexFunc_int_int_Votes_1_B0 (a0 : List Int) (i1 : Nat) (z1 : Unit) : Option (Ctl Unit Int) :=
 (lat a0 (i1 : Int)).bind fun x4 =>
 (quorum_Votes_1 x4).bind fun r7 =>
 bif r7 then (some (.ret (i1 : Int))) else
 some (.go ())
def slices_IndexFunc_int_int_Votes_1 (a0 : List Int) : Option Int :=
 andThen (rangeM (slices_IndexFunc_int_int_Votes_1_B0 a0) a0.length 0 ()) fun _ =>
 some (-1 : Int)
def slices_ContainsFunc_int_int_Votes_1 (a0 : List Int) : Option Bool :=
 (slices_IndexFunc_int_int_Votes_1 a0).bind fun r1 =>
 some (decide (r1 ≥ (0 : Int)))
def quorum_Votes_2_B0 (a0 : BitVec 16) (a1 : List Int) (i3 : Nat) (z3 : Int) : Option Int :=
 (lat a1 (i3 : Int)).bind fun x7 =>
 (cnt (i3 : Int)).bind fun n10 =>
 some (w64 (z3 + (w64 (x7 * (((a0 >>> n10) &&& (1 : BitVec 16)).toNat : Int)))))
def quorum_Votes_2 (a0 : BitVec 16) (a1 : List Int) (a2 : Int) : Option Bool :=
 (rangeF (quorum_Votes_2_B0 a0 a1) a1.length 0 (0 : Int)).bind fun y4 =>
 some (decide (y4 ≥ a2))
def math_bits_Len64 (a0 : BitVec 64) : Option Int :=
 (bif decide ((a0.toNat : Int) ≥ ((4294967296 : BitVec 64).toNat : Int)) then (some (a0 >>> 32, (32 : Int))) else
 some (a0, (0 : Int))).bind fun (y1, y2) =>
 (bif decide ((y1.toNat : Int) ≥ ((65536 : BitVec 64).toNat : Int)) then (some (y1 >>> 16, w64 (y2 + (16 : Int)))) else
 some (y1, y2)).bind fun (y7, y8) =>
 (bif decide ((y7.toNat : Int) ≥ ((256 : BitVec 64).toNat : Int)) then (some (y7 >>> 8, w64 (y8 + (8 : Int)))) else
 some (y7, y8)).bind fun (y13, y14) =>
 (lat ([0, 1, 2, 2, 3, 3, 3, 3, 4, 4, 4, 4, 4, 4, 4, 4, 5, 5, 5, 5, 5, 5, 5, 5, 5, 5, 5, 5, 5, 5, 5, 5, 6, 6, 6, 6, 6, 6, 6, 6, 6, 6, 6, 6, 6, 6, 6, 6, 6, 6, 6, 6, 6, 6, 6, 6, 6, 6, 6, 6, 6, 6, 6, 6, 7, 7, 7, 7, 7, 7, 7, 7, 7, 7, 7, 7, 7, 7, 7, 7, 7, 7, 7, 7, 7, 7, 7, 7, 7, 7, 7, 7, 7, 7, 7, 7, 7, 7, 7, 7, 7, 7, 7, 7, 7, 7, 7, 7, 7, 7, 7, 7, 7, 7, 7, 7, 7, 7, 7, 7, 7, 7, 7, 7, 7, 7, 7, 7, 8, 8, 8, 8, 8, 8, 8, 8, 8, 8, 8, 8, 8, 8, 8, 8, 8, 8, 8, 8, 8, 8, 8, 8, 8, 8, 8, 8, 8, 8, 8, 8, 8, 8, 8, 8, 8, 8, 8, 8, 8, 8, 8, 8, 8, 8, 8, 8, 8, 8, 8, 8, 8, 8, 8, 8, 8, 8, 8, 8, 8, 8, 8, 8, 8, 8, 8, 8, 8, 8, 8, 8, 8, 8, 8, 8, 8, 8, 8, 8, 8, 8, 8, 8, 8, 8, 8, 8, 8, 8, 8, 8, 8, 8, 8, 8, 8, 8, 8, 8, 8, 8, 8, 8, 8, 8, 8, 8, 8, 8, 8, 8, 8, 8, 8, 8, 8, 8, 8, 8, 8, 8, 8, 8, 8, 8, 8, 8] : Str) ((BitVec.ofInt 8 (y13.toNat : Int)).toNat : Int)).bind fun x19 =>
 some (w64 (y14 + (x19.toBitVec.toNat : Int)))
def math_bits_Len (a0 : BitVec 64) : Option Int :=
 (math_bits_Len64 a0).bind fun r1 =>
 some r1
def math_bits_OnesCount16 (a0 : BitVec 16) : Option Int :=
 (lat ([0, 1, 1, 2, 1, 2, 2, 3, 1, 2, 2, 3, 2, 3, 3, 4, 1, 2, 2, 3, 2, 3, 3, 4, 2, 3, 3, 4, 3, 4, 4, 5, 1, 2, 2, 3, 2, 3, 3, 4, 2, 3, 3, 4, 3, 4, 4, 5, 2, 3, 3, 4, 3, 4, 4, 5, 3, 4, 4, 5, 4, 5, 5, 6, 1, 2, 2, 3, 2, 3, 3, 4, 2, 3, 3, 4, 3, 4, 4, 5, 2, 3, 3, 4, 3, 4, 4, 5, 3, 4, 4, 5, 4, 5, 5, 6, 2, 3, 3, 4, 3, 4, 4, 5, 3, 4, 4, 5, 4, 5, 5, 6, 3, 4, 4, 5, 4, 5, 5, 6, 4, 5, 5, 6, 5, 6, 6, 7, 1, 2, 2, 3, 2, 3, 3, 4, 2, 3, 3, 4, 3, 4, 4, 5, 2, 3, 3, 4, 3, 4, 4, 5, 3, 4, 4, 5, 4, 5, 5, 6, 2, 3, 3, 4, 3, 4, 4, 5, 3, 4, 4, 5, 4, 5, 5, 6, 3, 4, 4, 5, 4, 5, 5, 6, 4, 5, 5, 6, 5, 6, 6, 7, 2, 3, 3, 4, 3, 4, 4, 5, 3, 4, 4, 5, 4, 5, 5, 6, 3, 4, 4, 5, 4, 5, 5, 6, 4, 5, 5, 6, 5, 6, 6, 7, 3, 4, 4, 5, 4, 5, 5, 6, 4, 5, 5, 6, 5, 6, 6, 7, 4, 5, 5, 6, 5, 6, 6, 7, 5, 6, 6, 7, 6, 7, 7, 8] : Str) ((a0 >>> 8).toNat : Int)).bind fun x1 =>
 (lat ([0, 1, 1, 2, 1, 2, 2, 3, 1, 2, 2, 3, 2, 3, 3, 4, 1, 2, 2, 3, 2, 3, 3, 4, 2, 3, 3, 4, 3, 4, 4, 5, 1, 2, 2, 3, 2, 3, 3, 4, 2, 3, 3, 4, 3, 4, 4, 5, 2, 3, 3, 4, 3, 4, 4, 5, 3, 4, 4, 5, 4, 5, 5, 6, 1, 2, 2, 3, 2, 3, 3, 4, 2, 3, 3, 4, 3, 4, 4, 5, 2, 3, 3, 4, 3, 4, 4, 5, 3, 4, 4, 5, 4, 5, 5, 6, 2, 3, 3, 4, 3, 4, 4, 5, 3, 4, 4, 5, 4, 5, 5, 6, 3, 4, 4, 5, 4, 5, 5, 6, 4, 5, 5, 6, 5, 6, 6, 7, 1, 2, 2, 3, 2, 3, 3, 4, 2, 3, 3, 4, 3, 4, 4, 5, 2, 3, 3, 4, 3, 4, 4, 5, 3, 4, 4, 5, 4, 5, 5, 6, 2, 3, 3, 4, 3, 4, 4, 5, 3, 4, 4, 5, 4, 5, 5, 6, 3, 4, 4, 5, 4, 5, 5, 6, 4, 5, 5, 6, 5, 6, 6, 7, 2, 3, 3, 4, 3, 4, 4, 5, 3, 4, 4, 5, 4, 5, 5, 6, 3, 4, 4, 5, 4, 5, 5, 6, 4, 5, 5, 6, 5, 6, 6, 7, 3, 4, 4, 5, 4, 5, 5, 6, 4, 5, 5, 6, 5, 6, 6, 7, 4, 5, 5, 6, 5, 6, 6, 7, 5, 6, 6, 7, 6, 7, 7, 8] : Str) ((a0 &&& (255 : BitVec 16)).toNat : Int)).bind fun x3 =>
 some ((x1.toBitVec + x3.toBitVec).toNat : Int)
def cmp_isNaN_int (a0 : Int) : Option Bool :=
 some (a0 != a0)
def cmp_Compare_int (a0 : Int) (a1 : Int) : Option Int :=
 (cmp_isNaN_int a0).bind fun r1 =>
 (cmp_isNaN_int a1).bind fun r5 =>
 bif r1 then (bif r5 then (some (0 : Int)) else
 some (-1 : Int)) else
 bif r5 then (some (1 : Int)) else
 bif decide (a0 < a1) then (some (-1 : Int)) else
 bif decide (a0 > a1) then (some (1 : Int)) else
 some (0 : Int)
def cmp_isNaN_uint16 (a0 : BitVec 16) : Option Bool :=
 some ((a0.toNat : Int) != (a0.toNat : Int))
def cmp_Compare_uint16 (a0 : BitVec 16) (a1 : BitVec 16) : Option Int :=
 (cmp_isNaN_uint16 a0).bind fun r1 =>
 (cmp_isNaN_uint16 a1).bind fun r5 =>
 bif r1 then (bif r5 then (some (0 : Int)) else
 some (-1 : Int)) else
 bif r5 then (some (1 : Int)) else
 bif decide ((a0.toNat : Int) < (a1.toNat : Int)) then (some (-1 : Int)) else
 bif decide ((a0.toNat : Int) > (a1.toNat : Int)) then (some (1 : Int)) else
 some (0 : Int)
def cmp_Or_int_B0 (a0 : List Int) (i1 : Nat) (z1 : Unit) : Option (Ctl Unit Int) :=
 (lat a0 (i1 : Int)).bind fun x4 =>
 bif x4 != (0 : Int) then (some (.ret x4)) else
 some (.go ())
def cmp_Or_int (a0 : List Int) : Option Int :=
 andThen (rangeM (cmp_Or_int_B0 a0) a0.length 0 ()) fun _ =>
 some (0 : Int)
def quorum_compare (a0 : BitVec 16) (a1 : BitVec 16) : Option Int :=
 (math_bits_OnesCount16 a0).bind fun r1 =>
 (math_bits_OnesCount16 a1).bind fun r5 =>
 (cmp_Compare_int r1 r5).bind fun r9 =>
 (cmp_Compare_uint16 a0 a1).bind fun r13 =>
 (cmp_Or_int ([r9, r13] : List Int)).bind fun r19 =>
 some r19
def slices_insertionSortCmpFunc_uint16_quorum_compare_B2 (a1 : Int) (z8 : Int × (List (BitVec 16))) : Option (Ctl (Int × (List (BitVec 16))) (Ctl (Int × (List (BitVec 16))) (List (BitVec 16)))) :=
 (bif decide (z8.1 > a1) then ((lat z8.2 z8.1).bind fun x16 =>
 (lat z8.2 (w64 (z8.1 - (1 : Int)))).bind fun x19 =>
 (quorum_compare x16 x19).bind fun r22 =>
 some (decide (r22 < (0 : Int)))) else
 some false).bind fun y14 =>
 bif y14 then ((lat z8.2 (w64 (z8.1 - (1 : Int)))).bind fun x27 =>
 (lat z8.2 z8.1).bind fun x30 =>
 (lat z8.2 z8.1).bind fun x33 =>
 Let (z8.2.set z8.1.toNat x27) fun p36 =>
 Let p36 fun l39 =>
 (lat l39 (w64 (z8.1 - (1 : Int)))).bind fun x56 =>
 Let (l39.set (w64 (z8.1 - (1 : Int))).toNat x30) fun p59 =>
 some (.go (w64 (z8.1 - (1 : Int)), p59))) else
 some (.brk (z8.1, z8.2))
def slices_insertionSortCmpFunc_uint16_quorum_compare_B0 (fu : Nat) (a1 : Int) (a2 : Int) (z2 : Int × (List (BitVec 16))) : Option (Ctl (Int × (List (BitVec 16))) (List (BitVec 16))) :=
 bif decide (z2.1 < a2) then (andThen (whileM (slices_insertionSortCmpFunc_uint16_quorum_compare_B2 a1) fu (z2.1, z2.2)) fun (y9, l10) =>
 some (.go (w64 (z2.1 + (1 : Int)), l10))) else
 some (.brk (z2.1, z2.2))
def slices_insertionSortCmpFunc_uint16_quorum_compare (fu : Nat) (a0 : List (BitVec 16)) (a1 : Int) (a2 : Int) : Option (List (BitVec 16)) :=
 andThen (whileM (slices_insertionSortCmpFunc_uint16_quorum_compare_B0 fu a1 a2) fu (w64 (a1 + (1 : Int)), a0)) fun (y3, l4) =>
 some l4
def slices_siftDownCmpFunc_uint16_quorum_compare_B0 (a2 : Int) (a3 : Int) (z2 : Int × (List (BitVec 16))) : Option (Ctl (Int × (List (BitVec 16))) (List (BitVec 16))) :=
 bif decide ((w64 ((w64 ((2 : Int) * z2.1)) + (1 : Int))) ≥ a2) then (some (.brk (z2.1, z2.2))) else
 ((bif decide ((w64 ((w64 ((w64 ((2 : Int) * z2.1)) + (1 : Int))) + (1 : Int))) < a2) then ((lat z2.2 (w64 (a3 + (w64 ((w64 ((2 : Int) * z2.1)) + (1 : Int)))))).bind fun x13 =>
 (lat z2.2 (w64 ((w64 (a3 + (w64 ((w64 ((2 : Int) * z2.1)) + (1 : Int))))) + (1 : Int)))).bind fun x16 =>
 (quorum_compare x13 x16).bind fun r19 =>
 some (decide (r19 < (0 : Int)))) else
 some false).bind fun y11 =>
 bif y11 then (some (w64 ((w64 ((w64 ((2 : Int) * z2.1)) + (1 : Int))) + (1 : Int)))) else
 some (w64 ((w64 ((2 : Int) * z2.1)) + (1 : Int)))).bind fun y8 =>
 (lat z2.2 (w64 (a3 + z2.1))).bind fun x26 =>
 (lat z2.2 (w64 (a3 + y8))).bind fun x29 =>
 (quorum_compare x26 x29).bind fun r32 =>
 bif !(decide (r32 < (0 : Int))) then (some (.ret z2.2)) else
 (lat z2.2 (w64 (a3 + y8))).bind fun x37 =>
 (lat z2.2 (w64 (a3 + z2.1))).bind fun x40 =>
 (lat z2.2 (w64 (a3 + z2.1))).bind fun x43 =>
 Let (z2.2.set (w64 (a3 + z2.1)).toNat x37) fun p46 =>
 Let p46 fun l49 =>
 (lat l49 (w64 (a3 + y8))).bind fun x66 =>
 Let (l49.set (w64 (a3 + y8)).toNat x40) fun p69 =>
 some (.go (y8, p69))
def slices_siftDownCmpFunc_uint16_quorum_compare (fu : Nat) (a0 : List (BitVec 16)) (a1 : Int) (a2 : Int) (a3 : Int) : Option (List (BitVec 16)) :=
 andThen (whileM (slices_siftDownCmpFunc_uint16_quorum_compare_B0 a2 a3) fu (a1, a0)) fun (y3, l4) =>
 some l4
def slices_heapSortCmpFunc_uint16_quorum_compare_B2 (fu : Nat) (a1 : Int) (z8 : Int × (List (BitVec 16))) : Option (Ctl (Int × (List (BitVec 16))) (List (BitVec 16))) :=
 bif decide (z8.1 ≥ (0 : Int)) then ((lat z8.2 (w64 (a1 + z8.1))).bind fun x14 =>
 (lat z8.2 a1).bind fun x17 =>
 (lat z8.2 a1).bind fun x20 =>
 Let (z8.2.set a1.toNat x14) fun p23 =>
 Let p23 fun l26 =>
 (lat l26 (w64 (a1 + z8.1))).bind fun x43 =>
 Let (l26.set (w64 (a1 + z8.1)).toNat x17) fun p46 =>
 (slices_siftDownCmpFunc_uint16_quorum_compare fu p46 (0 : Int) z8.1 a1).bind fun r48 =>
 some (.go (w64 (z8.1 - (1 : Int)), r48))) else
 some (.brk (z8.1, z8.2))
def slices_heapSortCmpFunc_uint16_quorum_compare_B0 (fu : Nat) (a1 : Int) (a2 : Int) (z2 : Int × (List (BitVec 16))) : Option (Ctl (Int × (List (BitVec 16))) (List (BitVec 16))) :=
 bif decide (z2.1 ≥ (0 : Int)) then ((slices_siftDownCmpFunc_uint16_quorum_compare fu z2.2 z2.1 (w64 (a2 - a1)) a1).bind fun r52 =>
 some (.go (w64 (z2.1 - (1 : Int)), r52))) else
 some (.brk (z2.1, z2.2))
def slices_heapSortCmpFunc_uint16_quorum_compare (fu : Nat) (a0 : List (BitVec 16)) (a1 : Int) (a2 : Int) : Option (List (BitVec 16)) :=
 andThen (whileM (slices_heapSortCmpFunc_uint16_quorum_compare_B0 fu a1 a2) fu (w64 ((w64 ((w64 (a2 - a1)) - (1 : Int))).tdiv (2 : Int)), a0)) fun (y3, l4) =>
 andThen (whileM (slices_heapSortCmpFunc_uint16_quorum_compare_B2 fu a1) fu (w64 ((w64 (a2 - a1)) - (1 : Int)), l4)) fun (y9, l10) =>
 some l10
def slices_nextPowerOfTwo (a0 : Int) : Option (BitVec 64) :=
 (math_bits_Len (BitVec.ofInt 64 a0)).bind fun r1 =>
 (cnt r1).bind fun n5 =>
 some ((1 : BitVec 64) <<< n5)
def slices_xorshift_Next (a0 : BitVec 64) : Option ((BitVec 64) × (BitVec 64)) :=
 some (((a0 ^^^ (a0 <<< 13)) ^^^ ((a0 ^^^ (a0 <<< 13)) >>> 7)) ^^^ (((a0 ^^^ (a0 <<< 13)) ^^^ ((a0 ^^^ (a0 <<< 13)) >>> 7)) <<< 17), ((a0 ^^^ (a0 <<< 13)) ^^^ ((a0 ^^^ (a0 <<< 13)) >>> 7)) ^^^ (((a0 ^^^ (a0 <<< 13)) ^^^ ((a0 ^^^ (a0 <<< 13)) >>> 7)) <<< 17))
def slices_breakPatternsCmpFunc_uint16_quorum_compare_B0 (a1 : Int) (a2 : Int) (r5 : (BitVec 64)) (z9 : Int × (BitVec 64) × (List (BitVec 16))) : Option (Ctl (Int × (BitVec 64) × (List (BitVec 16))) (List (BitVec 16))) :=
 bif decide (z9.1 ≤ (w64 ((w64 (a1 + (w64 ((w64 ((w64 (a2 - a1)).tdiv (4 : Int))) * (2 : Int))))) + (1 : Int)))) then ((slices_xorshift_Next z9.2.1).bind fun r16 =>
 (bif decide ((w64 ((r16.2 &&& (r5 - (1 : BitVec 64))).toNat : Int)) ≥ (w64 (a2 - a1))) then (some (w64 ((w64 ((r16.2 &&& (r5 - (1 : BitVec 64))).toNat : Int)) - (w64 (a2 - a1))))) else
 some (w64 ((r16.2 &&& (r5 - (1 : BitVec 64))).toNat : Int))).bind fun y20 =>
 (lat z9.2.2 (w64 (a1 + y20))).bind fun x25 =>
 (lat z9.2.2 z9.1).bind fun x28 =>
 (lat z9.2.2 z9.1).bind fun x31 =>
 Let (z9.2.2.set z9.1.toNat x25) fun p34 =>
 Let p34 fun l37 =>
 (lat l37 (w64 (a1 + y20))).bind fun x54 =>
 Let (l37.set (w64 (a1 + y20)).toNat x28) fun p57 =>
 some (.go (w64 (z9.1 + (1 : Int)), r16.1, p57))) else
 some (.brk (z9.1, z9.2.1, z9.2.2))
def slices_breakPatternsCmpFunc_uint16_quorum_compare (fu : Nat) (a0 : List (BitVec 16)) (a1 : Int) (a2 : Int) : Option (List (BitVec 16)) :=
 bif decide ((w64 (a2 - a1)) ≥ (8 : Int)) then ((slices_nextPowerOfTwo (w64 (a2 - a1))).bind fun r5 =>
 andThen (whileM (slices_breakPatternsCmpFunc_uint16_quorum_compare_B0 a1 a2 r5) fu (w64 ((w64 (a1 + (w64 ((w64 ((w64 (a2 - a1)).tdiv (4 : Int))) * (2 : Int))))) - (1 : Int)), BitVec.ofInt 64 (w64 (a2 - a1)), a0)) fun (y10, y11, l12) =>
 some l12) else
 some a0
def slices_order2CmpFunc_uint16_quorum_compare (a0 : List (BitVec 16)) (a1 : Int) (a2 : Int) (a3 : Int) : Option (Int × Int × Int) :=
 (lat a0 a2).bind fun x2 =>
 (lat a0 a1).bind fun x5 =>
 (quorum_compare x2 x5).bind fun r8 =>
 bif decide (r8 < (0 : Int)) then (some (w64 (a3 + (1 : Int)), a2, a1)) else
 some (a3, a1, a2)
def slices_medianCmpFunc_uint16_quorum_compare (a0 : List (BitVec 16)) (a1 : Int) (a2 : Int) (a3 : Int) (a4 : Int) : Option (Int × Int) :=
 (slices_order2CmpFunc_uint16_quorum_compare a0 a1 a2 a4).bind fun r2 =>
 (slices_order2CmpFunc_uint16_quorum_compare a0 r2.2.2 a3 r2.1).bind fun r6 =>
 (slices_order2CmpFunc_uint16_quorum_compare a0 r2.2.1 r6.2.1 r6.1).bind fun r10 =>
 some (r10.1, r10.2.2)
def slices_medianAdjacentCmpFunc_uint16_quorum_compare (a0 : List (BitVec 16)) (a1 : Int) (a2 : Int) : Option (Int × Int) :=
 (slices_medianCmpFunc_uint16_quorum_compare a0 (w64 (a1 - (1 : Int))) a1 (w64 (a1 + (1 : Int))) a2).bind fun r2 =>
 some (r2.1, r2.2)
def slices_choosePivotCmpFunc_uint16_quorum_compare (a0 : List (BitVec 16)) (a1 : Int) (a2 : Int) : Option (Int × Int) :=
 (bif decide ((w64 (a2 - a1)) ≥ (8 : Int)) then ((bif decide ((w64 (a2 - a1)) ≥ (50 : Int)) then ((slices_medianAdjacentCmpFunc_uint16_quorum_compare a0 (w64 (a1 + (w64 ((w64 ((w64 (a2 - a1)).tdiv (4 : Int))) * (1 : Int))))) (0 : Int)).bind fun r13 =>
 (slices_medianAdjacentCmpFunc_uint16_quorum_compare a0 (w64 (a1 + (w64 ((w64 ((w64 (a2 - a1)).tdiv (4 : Int))) * (2 : Int))))) r13.1).bind fun r17 =>
 (slices_medianAdjacentCmpFunc_uint16_quorum_compare a0 (w64 (a1 + (w64 ((w64 ((w64 (a2 - a1)).tdiv (4 : Int))) * (3 : Int))))) r17.1).bind fun r21 =>
 some (r13.2, r17.2, r21.2, r21.1)) else
 some (w64 (a1 + (w64 ((w64 ((w64 (a2 - a1)).tdiv (4 : Int))) * (1 : Int)))), w64 (a1 + (w64 ((w64 ((w64 (a2 - a1)).tdiv (4 : Int))) * (2 : Int)))), w64 (a1 + (w64 ((w64 ((w64 (a2 - a1)).tdiv (4 : Int))) * (3 : Int)))), (0 : Int))).bind fun (y7, y8, y9, y10) =>
 (slices_medianCmpFunc_uint16_quorum_compare a0 y7 y8 y9 y10).bind fun r27 =>
 some (r27.2, r27.1)) else
 some (w64 (a1 + (w64 ((w64 ((w64 (a2 - a1)).tdiv (4 : Int))) * (2 : Int)))), (0 : Int))).bind fun (y3, y4) =>
 bif y4 == (0 : Int) then (some (y3, (1 : Int))) else
 bif y4 == (12 : Int) then (some (y3, (2 : Int))) else
 some (y3, (0 : Int))
def slices_reverseRangeCmpFunc_uint16_quorum_compare_B0 (z2 : Int × Int × (List (BitVec 16))) : Option (Ctl (Int × Int × (List (BitVec 16))) (List (BitVec 16))) :=
 bif decide (z2.1 < z2.2.1) then ((lat z2.2.2 z2.2.1).bind fun x9 =>
 (lat z2.2.2 z2.1).bind fun x12 =>
 (lat z2.2.2 z2.1).bind fun x15 =>
 Let (z2.2.2.set z2.1.toNat x9) fun p18 =>
 Let p18 fun l21 =>
 (lat l21 z2.2.1).bind fun x38 =>
 Let (l21.set z2.2.1.toNat x12) fun p41 =>
 some (.go (w64 (z2.1 + (1 : Int)), w64 (z2.2.1 - (1 : Int)), p41))) else
 some (.brk (z2.1, z2.2.1, z2.2.2))
def slices_reverseRangeCmpFunc_uint16_quorum_compare (fu : Nat) (a0 : List (BitVec 16)) (a1 : Int) (a2 : Int) : Option (List (BitVec 16)) :=
 andThen (whileM (slices_reverseRangeCmpFunc_uint16_quorum_compare_B0) fu (a1, w64 (a2 - (1 : Int)), a0)) fun (y3, y4, l5) =>
 some l5
def slices_partialInsertionSortCmpFunc_uint16_quorum_compare_B4 (z66 : Int × (List (BitVec 16))) : Option (Ctl (Int × (List (BitVec 16))) (List (BitVec 16))) :=
 bif decide (z66.1 ≥ (1 : Int)) then ((lat z66.2 z66.1).bind fun x72 =>
 (lat z66.2 (w64 (z66.1 - (1 : Int)))).bind fun x75 =>
 (quorum_compare x72 x75).bind fun r78 =>
 bif !(decide (r78 < (0 : Int))) then (some (.brk (z66.1, z66.2))) else
 (lat z66.2 (w64 (z66.1 - (1 : Int)))).bind fun x83 =>
 (lat z66.2 z66.1).bind fun x86 =>
 (lat z66.2 z66.1).bind fun x89 =>
 Let (z66.2.set z66.1.toNat x83) fun p92 =>
 Let p92 fun l95 =>
 (lat l95 (w64 (z66.1 - (1 : Int)))).bind fun x112 =>
 Let (l95.set (w64 (z66.1 - (1 : Int))).toNat x86) fun p115 =>
 some (.go (w64 (z66.1 - (1 : Int)), p115))) else
 some (.brk (z66.1, z66.2))
def slices_partialInsertionSortCmpFunc_uint16_quorum_compare_B6 (a2 : Int) (z120 : Int × (List (BitVec 16))) : Option (Ctl (Int × (List (BitVec 16))) (Ctl (Int × Int × (List (BitVec 16))) ((List (BitVec 16)) × Bool))) :=
 bif decide (z120.1 < a2) then ((lat z120.2 z120.1).bind fun x126 =>
 (lat z120.2 (w64 (z120.1 - (1 : Int)))).bind fun x129 =>
 (quorum_compare x126 x129).bind fun r132 =>
 bif !(decide (r132 < (0 : Int))) then (some (.brk (z120.1, z120.2))) else
 (lat z120.2 (w64 (z120.1 - (1 : Int)))).bind fun x137 =>
 (lat z120.2 z120.1).bind fun x140 =>
 (lat z120.2 z120.1).bind fun x143 =>
 Let (z120.2.set z120.1.toNat x137) fun p146 =>
 Let p146 fun l149 =>
 (lat l149 (w64 (z120.1 - (1 : Int)))).bind fun x166 =>
 Let (l149.set (w64 (z120.1 - (1 : Int))).toNat x140) fun p169 =>
 some (.go (w64 (z120.1 + (1 : Int)), p169))) else
 some (.brk (z120.1, z120.2))
def slices_partialInsertionSortCmpFunc_uint16_quorum_compare_B2 (a2 : Int) (l5 : List (BitVec 16)) (z9 : Int) : Option (Ctl Int (Ctl (Int × Int × (List (BitVec 16))) ((List (BitVec 16)) × Bool))) :=
 (bif decide (z9 < a2) then ((lat l5 z9).bind fun x16 =>
 (lat l5 (w64 (z9 - (1 : Int)))).bind fun x19 =>
 (quorum_compare x16 x19).bind fun r22 =>
 some (!(decide (r22 < (0 : Int))))) else
 some false).bind fun y14 =>
 bif y14 then (some (.go (w64 (z9 + (1 : Int))))) else
 some (.brk z9)
def slices_partialInsertionSortCmpFunc_uint16_quorum_compare_B0 (fu : Nat) (a1 : Int) (a2 : Int) (z2 : Int × Int × (List (BitVec 16))) : Option (Ctl (Int × Int × (List (BitVec 16))) ((List (BitVec 16)) × Bool)) :=
 bif decide (z2.2.1 < (5 : Int)) then (andThen (whileM (slices_partialInsertionSortCmpFunc_uint16_quorum_compare_B2 a2 z2.2.2) fu z2.1) fun y10 =>
 bif y10 == a2 then (some (.ret (z2.2.2, true))) else
 bif decide ((w64 (a2 - a1)) < (50 : Int)) then (some (.ret (z2.2.2, false))) else
 (lat z2.2.2 (w64 (y10 - (1 : Int)))).bind fun x29 =>
 (lat z2.2.2 y10).bind fun x32 =>
 (lat z2.2.2 y10).bind fun x35 =>
 Let (z2.2.2.set y10.toNat x29) fun p38 =>
 Let p38 fun l41 =>
 (lat l41 (w64 (y10 - (1 : Int)))).bind fun x58 =>
 Let (l41.set (w64 (y10 - (1 : Int))).toNat x32) fun p61 =>
 (bif decide ((w64 (y10 - a1)) ≥ (2 : Int)) then (andThen (whileM (slices_partialInsertionSortCmpFunc_uint16_quorum_compare_B4) fu (w64 (y10 - (1 : Int)), p61)) fun (y67, l68) =>
 some l68) else
 some p61).bind fun l63 =>
 bif decide ((w64 (a2 - y10)) ≥ (2 : Int)) then (andThen (whileM (slices_partialInsertionSortCmpFunc_uint16_quorum_compare_B6 a2) fu (w64 (y10 + (1 : Int)), l63)) fun (y121, l122) =>
 some (.go (y10, w64 (z2.2.1 + (1 : Int)), l122))) else
 some (.go (y10, w64 (z2.2.1 + (1 : Int)), l63))) else
 some (.brk (z2.1, z2.2.1, z2.2.2))
def slices_partialInsertionSortCmpFunc_uint16_quorum_compare (fu : Nat) (a0 : List (BitVec 16)) (a1 : Int) (a2 : Int) : Option ((List (BitVec 16)) × Bool) :=
 andThen (whileM (slices_partialInsertionSortCmpFunc_uint16_quorum_compare_B0 fu a1 a2) fu (w64 (a1 + (1 : Int)), (0 : Int), a0)) fun (y3, y4, l5) =>
 some (l5, false)
def slices_partitionEqualCmpFunc_uint16_quorum_compare_B4 (a1 : Int) (l39 : List (BitVec 16)) (y43 : Int) (z60 : Int) : Option (Ctl Int (Ctl (Int × Int × (List (BitVec 16))) ((List (BitVec 16)) × Int))) :=
 (bif decide (y43 ≤ z60) then ((lat l39 a1).bind fun x67 =>
 (lat l39 z60).bind fun x70 =>
 (quorum_compare x67 x70).bind fun r73 =>
 some (decide (r73 < (0 : Int)))) else
 some false).bind fun y65 =>
 bif y65 then (some (.go (w64 (z60 - (1 : Int))))) else
 some (.brk z60)
def slices_partitionEqualCmpFunc_uint16_quorum_compare_B2 (a1 : Int) (y38 : Int) (l39 : List (BitVec 16)) (z42 : Int) : Option (Ctl Int (Ctl (Int × Int × (List (BitVec 16))) ((List (BitVec 16)) × Int))) :=
 (bif decide (z42 ≤ y38) then ((lat l39 a1).bind fun x49 =>
 (lat l39 z42).bind fun x52 =>
 (quorum_compare x49 x52).bind fun r55 =>
 some (!(decide (r55 < (0 : Int))))) else
 some false).bind fun y47 =>
 bif y47 then (some (.go (w64 (z42 + (1 : Int))))) else
 some (.brk z42)
def slices_partitionEqualCmpFunc_uint16_quorum_compare_B0 (fu : Nat) (a1 : Int) (z36 : Int × Int × (List (BitVec 16))) : Option (Ctl (Int × Int × (List (BitVec 16))) ((List (BitVec 16)) × Int)) :=
 andThen (whileM (slices_partitionEqualCmpFunc_uint16_quorum_compare_B2 a1 z36.2.1 z36.2.2) fu z36.1) fun y43 =>
 andThen (whileM (slices_partitionEqualCmpFunc_uint16_quorum_compare_B4 a1 z36.2.2 y43) fu z36.2.1) fun y61 =>
 bif decide (y43 > y61) then (some (.brk (y43, y61, z36.2.2))) else
 (lat z36.2.2 y61).bind fun x79 =>
 (lat z36.2.2 y43).bind fun x82 =>
 (lat z36.2.2 y43).bind fun x85 =>
 Let (z36.2.2.set y43.toNat x79) fun p88 =>
 Let p88 fun l91 =>
 (lat l91 y61).bind fun x108 =>
 Let (l91.set y61.toNat x82) fun p111 =>
 some (.go (w64 (y43 + (1 : Int)), w64 (y61 - (1 : Int)), p111))
def slices_partitionEqualCmpFunc_uint16_quorum_compare (fu : Nat) (a0 : List (BitVec 16)) (a1 : Int) (a2 : Int) (a3 : Int) : Option ((List (BitVec 16)) × Int) :=
 (lat a0 a3).bind fun x2 =>
 (lat a0 a1).bind fun x5 =>
 (lat a0 a1).bind fun x8 =>
 Let (a0.set a1.toNat x2) fun p11 =>
 Let p11 fun l14 =>
 (lat l14 a3).bind fun x31 =>
 Let (l14.set a3.toNat x5) fun p34 =>
 andThen (whileM (slices_partitionEqualCmpFunc_uint16_quorum_compare_B0 fu a1) fu (w64 (a1 + (1 : Int)), w64 (a2 - (1 : Int)), p34)) fun (y37, y38, l39) =>
 some (l39, y37)
def slices_partitionCmpFunc_uint16_quorum_compare_B8 (a1 : Int) (l144 : List (BitVec 16)) (y148 : Int) (z165 : Int) : Option (Ctl Int (Ctl (Int × Int × (List (BitVec 16))) ((List (BitVec 16)) × Int × Bool))) :=
 (bif decide (y148 ≤ z165) then ((lat l144 z165).bind fun x172 =>
 (lat l144 a1).bind fun x175 =>
 (quorum_compare x172 x175).bind fun r178 =>
 some (!(decide (r178 < (0 : Int))))) else
 some false).bind fun y170 =>
 bif y170 then (some (.go (w64 (z165 - (1 : Int))))) else
 some (.brk z165)
def slices_partitionCmpFunc_uint16_quorum_compare_B6 (a1 : Int) (y143 : Int) (l144 : List (BitVec 16)) (z147 : Int) : Option (Ctl Int (Ctl (Int × Int × (List (BitVec 16))) ((List (BitVec 16)) × Int × Bool))) :=
 (bif decide (z147 ≤ y143) then ((lat l144 z147).bind fun x154 =>
 (lat l144 a1).bind fun x157 =>
 (quorum_compare x154 x157).bind fun r160 =>
 some (decide (r160 < (0 : Int)))) else
 some false).bind fun y152 =>
 bif y152 then (some (.go (w64 (z147 + (1 : Int))))) else
 some (.brk z147)
def slices_partitionCmpFunc_uint16_quorum_compare_B4 (fu : Nat) (a1 : Int) (z141 : Int × Int × (List (BitVec 16))) : Option (Ctl (Int × Int × (List (BitVec 16))) ((List (BitVec 16)) × Int × Bool)) :=
 andThen (whileM (slices_partitionCmpFunc_uint16_quorum_compare_B6 a1 z141.2.1 z141.2.2) fu z141.1) fun y148 =>
 andThen (whileM (slices_partitionCmpFunc_uint16_quorum_compare_B8 a1 z141.2.2 y148) fu z141.2.1) fun y166 =>
 bif decide (y148 > y166) then (some (.brk (y148, y166, z141.2.2))) else
 (lat z141.2.2 y166).bind fun x218 =>
 (lat z141.2.2 y148).bind fun x221 =>
 (lat z141.2.2 y148).bind fun x224 =>
 Let (z141.2.2.set y148.toNat x218) fun p227 =>
 Let p227 fun l230 =>
 (lat l230 y166).bind fun x247 =>
 Let (l230.set y166.toNat x221) fun p250 =>
 some (.go (w64 (y148 + (1 : Int)), w64 (y166 - (1 : Int)), p250))
def slices_partitionCmpFunc_uint16_quorum_compare_B2 (a1 : Int) (p34 : List (BitVec 16)) (y37 : Int) (z54 : Int) : Option (Ctl Int ((List (BitVec 16)) × Int × Bool)) :=
 (bif decide (y37 ≤ z54) then ((lat p34 z54).bind fun x61 =>
 (lat p34 a1).bind fun x64 =>
 (quorum_compare x61 x64).bind fun r67 =>
 some (!(decide (r67 < (0 : Int))))) else
 some false).bind fun y59 =>
 bif y59 then (some (.go (w64 (z54 - (1 : Int))))) else
 some (.brk z54)
def slices_partitionCmpFunc_uint16_quorum_compare_B0 (a1 : Int) (a2 : Int) (p34 : List (BitVec 16)) (z36 : Int) : Option (Ctl Int ((List (BitVec 16)) × Int × Bool)) :=
 (bif decide (z36 ≤ (w64 (a2 - (1 : Int)))) then ((lat p34 z36).bind fun x43 =>
 (lat p34 a1).bind fun x46 =>
 (quorum_compare x43 x46).bind fun r49 =>
 some (decide (r49 < (0 : Int)))) else
 some false).bind fun y41 =>
 bif y41 then (some (.go (w64 (z36 + (1 : Int))))) else
 some (.brk z36)
def slices_partitionCmpFunc_uint16_quorum_compare (fu : Nat) (a0 : List (BitVec 16)) (a1 : Int) (a2 : Int) (a3 : Int) : Option ((List (BitVec 16)) × Int × Bool) :=
 (lat a0 a3).bind fun x2 =>
 (lat a0 a1).bind fun x5 =>
 (lat a0 a1).bind fun x8 =>
 Let (a0.set a1.toNat x2) fun p11 =>
 Let p11 fun l14 =>
 (lat l14 a3).bind fun x31 =>
 Let (l14.set a3.toNat x5) fun p34 =>
 andThen (whileM (slices_partitionCmpFunc_uint16_quorum_compare_B0 a1 a2 p34) fu (w64 (a1 + (1 : Int)))) fun y37 =>
 andThen (whileM (slices_partitionCmpFunc_uint16_quorum_compare_B2 a1 p34 y37) fu (w64 (a2 - (1 : Int)))) fun y55 =>
 bif decide (y37 > y55) then ((lat p34 a1).bind fun x73 =>
 (lat p34 y55).bind fun x76 =>
 (lat p34 y55).bind fun x79 =>
 Let (p34.set y55.toNat x73) fun p82 =>
 Let p82 fun l85 =>
 (lat l85 a1).bind fun x102 =>
 Let (l85.set a1.toNat x76) fun p105 =>
 some (p105, y55, true)) else
 (lat p34 y55).bind fun x107 =>
 (lat p34 y37).bind fun x110 =>
 (lat p34 y37).bind fun x113 =>
 Let (p34.set y37.toNat x107) fun p116 =>
 Let p116 fun l119 =>
 (lat l119 y55).bind fun x136 =>
 Let (l119.set y55.toNat x110) fun p139 =>
 andThen (whileM (slices_partitionCmpFunc_uint16_quorum_compare_B4 fu a1) fu (w64 (y37 + (1 : Int)), w64 (y55 - (1 : Int)), p139)) fun (y142, y143, l144) =>
 (lat l144 a1).bind fun x252 =>
 (lat l144 y143).bind fun x255 =>
 (lat l144 y143).bind fun x258 =>
 Let (l144.set y143.toNat x252) fun p261 =>
 Let p261 fun l264 =>
 (lat l264 a1).bind fun x281 =>
 Let (l264.set a1.toNat x255) fun p284 =>
 some (p284, y143, false)
def slices_pdqsortCmpFunc_uint16_quorum_compare_B0 (fu : Nat) (rc : (List (BitVec 16)) → Int → Int → Int → Option (List (BitVec 16))) (z2 : Int × Int × Int × Bool × Bool × (List (BitVec 16))) : Option (Ctl (Int × Int × Int × Bool × Bool × (List (BitVec 16))) (List (BitVec 16))) :=
 bif decide ((w64 (z2.2.1 - z2.1)) ≤ (12 : Int)) then ((slices_insertionSortCmpFunc_uint16_quorum_compare fu z2.2.2.2.2.2 z2.1 z2.2.1).bind fun r12 =>
 some (.ret r12)) else
 bif z2.2.2.1 == (0 : Int) then ((slices_heapSortCmpFunc_uint16_quorum_compare fu z2.2.2.2.2.2 z2.1 z2.2.1).bind fun r17 =>
 some (.ret r17)) else
 (bif !z2.2.2.2.1 then ((slices_breakPatternsCmpFunc_uint16_quorum_compare fu z2.2.2.2.2.2 z2.1 z2.2.1).bind fun r25 =>
 some (w64 (z2.2.2.1 - (1 : Int)), r25)) else
 some (z2.2.2.1, z2.2.2.2.2.2)).bind fun (y21, l22) =>
 (slices_choosePivotCmpFunc_uint16_quorum_compare l22 z2.1 z2.2.1).bind fun r31 =>
 (bif r31.2 == (2 : Int) then ((slices_reverseRangeCmpFunc_uint16_quorum_compare fu l22 z2.1 z2.2.1).bind fun r40 =>
 some (w64 ((w64 (z2.2.1 - (1 : Int))) - (w64 (r31.1 - z2.1))), (1 : Int), r40)) else
 some (r31.1, r31.2, l22)).bind fun (y35, y36, l37) =>
 andThen ((bif z2.2.2.2.1 then (some z2.2.2.2.2.1) else
 some false).bind fun y49 =>
 (bif y49 then (some (y36 == (1 : Int))) else
 some false).bind fun y54 =>
 bif y54 then ((slices_partialInsertionSortCmpFunc_uint16_quorum_compare fu l37 z2.1 z2.2.1).bind fun r59 =>
 bif r59.2 then (some (.inr (.ret r59.1))) else
 some (.inl r59.1)) else
 some (.inl l37)) fun l46 =>
 (bif decide (z2.1 > (0 : Int)) then ((lat l46 (w64 (z2.1 - (1 : Int)))).bind fun x69 =>
 (lat l46 y35).bind fun x72 =>
 (quorum_compare x69 x72).bind fun r75 =>
 some (!(decide (r75 < (0 : Int))))) else
 some false).bind fun y67 =>
 bif y67 then ((slices_partitionEqualCmpFunc_uint16_quorum_compare fu l46 z2.1 z2.2.1 y35).bind fun r80 =>
 some (.go (r80.2, z2.2.1, y21, z2.2.2.2.1, z2.2.2.2.2.1, r80.1))) else
 (slices_partitionCmpFunc_uint16_quorum_compare fu l46 z2.1 z2.2.1 y35).bind fun r84 =>
 bif decide ((w64 (r84.2.1 - z2.1)) < (w64 (z2.2.1 - r84.2.1))) then ((rc r84.1 z2.1 r84.2.1 y21).bind fun r93 =>
 some (.go (w64 (r84.2.1 + (1 : Int)), z2.2.1, y21, decide ((w64 (r84.2.1 - z2.1)) ≥ (w64 ((w64 (z2.2.1 - z2.1)).tdiv (8 : Int)))), r84.2.2, r93))) else
 (rc r84.1 (w64 (r84.2.1 + (1 : Int))) z2.2.1 y21).bind fun r89 =>
 some (.go (z2.1, r84.2.1, y21, decide ((w64 (z2.2.1 - r84.2.1)) ≥ (w64 ((w64 (z2.2.1 - z2.1)).tdiv (8 : Int)))), r84.2.2, r89))
def slices_pdqsortCmpFunc_uint16_quorum_compare_R (fu : Nat) (rc : (List (BitVec 16)) → Int → Int → Int → Option (List (BitVec 16))) (a0 : List (BitVec 16)) (a1 : Int) (a2 : Int) (a3 : Int) : Option (List (BitVec 16)) :=
 andThen (whileM (slices_pdqsortCmpFunc_uint16_quorum_compare_B0 fu rc) fu (a1, a2, a3, true, true, a0)) fun (y3, y4, y5, y6, y7, l8) =>
 none
def slices_pdqsortCmpFunc_uint16_quorum_compare : (fu : Nat) → (a0 : List (BitVec 16)) → (a1 : Int) → (a2 : Int) → (a3 : Int) → Option (List (BitVec 16))
  | 0, _, _, _, _ => none
  | fu + 1, a0, a1, a2, a3 => slices_pdqsortCmpFunc_uint16_quorum_compare_R fu (slices_pdqsortCmpFunc_uint16_quorum_compare fu) a0 a1 a2 a3
def slices_SortFunc_uint16_uint16_quorum_compare (fu : Nat) (a0 : List (BitVec 16)) : Option (List (BitVec 16)) :=
 (math_bits_Len (BitVec.ofInt 64 (a0.length : Int))).bind fun r2 =>
 (slices_pdqsortCmpFunc_uint16_quorum_compare fu a0 (0 : Int) (a0.length : Int) r2).bind fun r6 =>
 some r6
def quorum_within (a0 : BitVec 16) (a1 : BitVec 16) : Option Bool :=
 some (((a0 &&& ~~~a1).toNat : Int) == ((0 : BitVec 16).toNat : Int))
def quorum_contains_1 (a0 : BitVec 16) (a1 : BitVec 16) : Option Bool :=
 (quorum_within a0 a1).bind fun r2 =>
 some r2
def slices_IndexFunc_uint16_uint16_contains_1_B0 (a0 : List (BitVec 16)) (a1_c0 : BitVec 16) (i2 : Nat) (z2 : Unit) : Option (Ctl Unit Int) :=
 (lat a0 (i2 : Int)).bind fun x5 =>
 (quorum_contains_1 x5 a1_c0).bind fun r8 =>
 bif r8 then (some (.ret (i2 : Int))) else
 some (.go ())
def slices_IndexFunc_uint16_uint16_contains_1 (a0 : List (BitVec 16)) (a1_c0 : BitVec 16) : Option Int :=
 andThen (rangeM (slices_IndexFunc_uint16_uint16_contains_1_B0 a0 a1_c0) a0.length 0 ()) fun _ =>
 some (-1 : Int)
def slices_ContainsFunc_uint16_uint16_contains_1 (a0 : List (BitVec 16)) (a1_c0 : BitVec 16) : Option Bool :=
 (slices_IndexFunc_uint16_uint16_contains_1 a0 a1_c0).bind fun r2 =>
 some (decide (r2 ≥ (0 : Int)))
def quorum_contains (a0 : BitVec 16) (a1 : List (BitVec 16)) : Option Bool :=
 (slices_ContainsFunc_uint16_uint16_contains_1 a1 a0).bind fun r3 =>
 some r3
def quorum_minimal_Votes_2_B2 (r15 : (List (BitVec 16))) (i20 : Nat) (z20 : (List (BitVec 16))) : Option (List (BitVec 16)) :=
 (lat r15 (i20 : Int)).bind fun x25 =>
 (quorum_contains x25 z20).bind fun r28 =>
 bif !r28 then ((room z20 ([x25] : List (BitVec 16))).bind fun u35 =>
 some (z20 ++ ([x25] : List (BitVec 16)))) else
 some z20
def quorum_minimal_Votes_2_B0 (a1_c0 : List Int) (a1_c1 : Int) (n5 : Nat) (z8 : (BitVec 16) × (List (BitVec 16))) : Option (Ctl ((BitVec 16) × (List (BitVec 16))) (List (BitVec 16))) :=
 bif decide ((z8.1.toNat : Int) < (((1 : BitVec 16) <<< n5).toNat : Int)) then ((quorum_Votes_2 z8.1 a1_c0 a1_c1).bind fun r39 =>
 bif r39 then ((room z8.2 ([z8.1] : List (BitVec 16))).bind fun u46 =>
 some (.go (z8.1 + (1 : BitVec 16), z8.2 ++ ([z8.1] : List (BitVec 16))))) else
 some (.go (z8.1 + (1 : BitVec 16), z8.2))) else
 some (.brk (z8.1, z8.2))
def quorum_minimal_Votes_2 (fu : Nat) (a0 : Int) (a1_c0 : List Int) (a1_c1 : Int) : Option (List (BitVec 16)) :=
 (cnt a0).bind fun n5 =>
 andThen (whileM (quorum_minimal_Votes_2_B0 a1_c0 a1_c1 n5) fu ((0 : BitVec 16), ([] : List (BitVec 16)))) fun (y9, l11) =>
 (slices_SortFunc_uint16_uint16_quorum_compare fu l11).bind fun r15 =>
 (rangeF (quorum_minimal_Votes_2_B2 r15) r15.length 0 ([] : List (BitVec 16))).bind fun l22 =>
 some l22
def quorum_Votes (fu : Nat) (a0 : List Int) (a1 : Int) : Option ((List (BitVec 16)) × Int) :=
 (quorum_in (a0.length : Int) (1 : Int) (10 : Int)).bind fun r6 =>
 (bif !r6 then (some true) else
 (quorum_in a1 (1 : Int) (16777215 : Int)).bind fun r13 =>
 some (!r13)).bind fun y11 =>
 (bif y11 then (some true) else
 (slices_ContainsFunc_int_int_Votes_1 a0).bind fun r22 =>
 some r22).bind fun y20 =>
 bif y20 then (some (([] : List (BitVec 16)), (1 : Int))) else
 (quorum_minimal_Votes_2 fu (a0.length : Int) a0 a1).bind fun r30 =>
 some (r30, (0 : Int))
def slices_Index_uint16_uint16_B0 (a0 : List (BitVec 16)) (a1 : BitVec 16) (i1 : Nat) (z1 : Unit) : Option (Ctl Unit Int) :=
 (lat a0 (i1 : Int)).bind fun x4 =>
 bif (a1.toNat : Int) == (x4.toNat : Int) then (some (.ret (i1 : Int))) else
 some (.go ())
def slices_Index_uint16_uint16 (a0 : List (BitVec 16)) (a1 : BitVec 16) : Option Int :=
 andThen (rangeM (slices_Index_uint16_uint16_B0 a0 a1) a0.length 0 ()) fun _ =>
 some (-1 : Int)
def slices_Contains_uint16_uint16 (a0 : List (BitVec 16)) (a1 : BitVec 16) : Option Bool :=
 (slices_Index_uint16_uint16 a0 a1).bind fun r1 =>
 some (decide (r1 ≥ (0 : Int)))
def quorum_Grid_1 (a0 : BitVec 16) (a1 : List (BitVec 16)) : Option Bool :=
 (slices_Contains_uint16_uint16 a1 a0).bind fun r2 =>
 some r2
def quorum_minimal_Grid_1_B2 (r14 : (List (BitVec 16))) (i19 : Nat) (z19 : (List (BitVec 16))) : Option (List (BitVec 16)) :=
 (lat r14 (i19 : Int)).bind fun x24 =>
 (quorum_contains x24 z19).bind fun r27 =>
 bif !r27 then ((room z19 ([x24] : List (BitVec 16))).bind fun u34 =>
 some (z19 ++ ([x24] : List (BitVec 16)))) else
 some z19
def quorum_minimal_Grid_1_B0 (a1_c0 : List (BitVec 16)) (n4 : Nat) (z7 : (BitVec 16) × (List (BitVec 16))) : Option (Ctl ((BitVec 16) × (List (BitVec 16))) (List (BitVec 16))) :=
 bif decide ((z7.1.toNat : Int) < (((1 : BitVec 16) <<< n4).toNat : Int)) then ((quorum_Grid_1 z7.1 a1_c0).bind fun r38 =>
 bif r38 then ((room z7.2 ([z7.1] : List (BitVec 16))).bind fun u45 =>
 some (.go (z7.1 + (1 : BitVec 16), z7.2 ++ ([z7.1] : List (BitVec 16))))) else
 some (.go (z7.1 + (1 : BitVec 16), z7.2))) else
 some (.brk (z7.1, z7.2))
def quorum_minimal_Grid_1 (fu : Nat) (a0 : Int) (a1_c0 : List (BitVec 16)) : Option (List (BitVec 16)) :=
 (cnt a0).bind fun n4 =>
 andThen (whileM (quorum_minimal_Grid_1_B0 a1_c0 n4) fu ((0 : BitVec 16), ([] : List (BitVec 16)))) fun (y8, l10) =>
 (slices_SortFunc_uint16_uint16_quorum_compare fu l10).bind fun r14 =>
 (rangeF (quorum_minimal_Grid_1_B2 r14) r14.length 0 ([] : List (BitVec 16))).bind fun l21 =>
 some l21
def quorum_Grid_B4 (a1 : Int) (i25 : Nat) (i31 : Nat) (i37 : Nat) (z37 : (BitVec 16)) : Option (BitVec 16) :=
 (nz a1).bind fun u42 =>
 (bif (w64 ((i37 : Int).tdiv a1)) == (i25 : Int) then (some true) else
 (nz a1).bind fun u47 =>
 some (((i37 : Int).tmod a1 : Int) == (i31 : Int))).bind fun y45 =>
 bif y45 then ((cnt (i37 : Int)).bind fun n52 =>
 some (z37 ||| ((1 : BitVec 16) <<< n52))) else
 some z37
def quorum_Grid_B2 (a0 : Int) (a1 : Int) (i25 : Nat) (i31 : Nat) (z31 : (List (BitVec 16))) : Option (List (BitVec 16)) :=
 (upTo (w64 (a0 * a1))).bind fun nn41 =>
 (rangeF (quorum_Grid_B4 a1 i25 i31) nn41 0 (0 : BitVec 16)).bind fun y38 =>
 (room z31 ([y38] : List (BitVec 16))).bind fun u57 =>
 some (z31 ++ ([y38] : List (BitVec 16)))
def quorum_Grid_B0 (a0 : Int) (a1 : Int) (i25 : Nat) (z25 : (List (BitVec 16))) : Option (List (BitVec 16)) :=
 (upTo a1).bind fun nn36 =>
 (rangeF (quorum_Grid_B2 a0 a1 i25) nn36 0 z25).bind fun l33 =>
 some l33
def quorum_Grid (fu : Nat) (a0 : Int) (a1 : Int) : Option ((List (BitVec 16)) × Int) :=
 (quorum_in a0 (1 : Int) (10 : Int)).bind fun r2 =>
 (bif !r2 then (some true) else
 (quorum_in a1 (1 : Int) (10 : Int)).bind fun r9 =>
 some (!r9)).bind fun y7 =>
 (bif y7 then (some true) else
 some (decide ((w64 (a0 * a1)) > (10 : Int)))).bind fun y16 =>
 bif y16 then (some (([] : List (BitVec 16)), (1 : Int))) else
 (upTo a0).bind fun nn30 =>
 (rangeF (quorum_Grid_B0 a0 a1) nn30 0 ([] : List (BitVec 16))).bind fun l27 =>
 (quorum_minimal_Grid_1 fu (w64 (a0 * a1)) l27).bind fun r62 =>
 some (r62, (0 : Int))
def partref_size_B0 (z1 : (BitVec 16) × Int) : Option (Ctl ((BitVec 16) × Int) Int) :=
 bif decide ((z1.1.toNat : Int) > ((0 : BitVec 16).toNat : Int)) then (some (.go (z1.1 / (2 : BitVec 16), w64 (z1.2 + ((z1.1 % (2 : BitVec 16)).toNat : Int))))) else
 some (.brk (z1.1, z1.2))
def partref_size (fu : Nat) (a0 : BitVec 16) : Option Int :=
 andThen (whileM (partref_size_B0) fu (a0, (0 : Int))) fun (y2, y3) =>
 some y3
def partref_VotesOf_B0 (a0 : List Int) (a1 : BitVec 16) (i1 : Nat) (z1 : Int) : Option Int :=
 (lat a0 (i1 : Int)).bind fun x5 =>
 (cnt (i1 : Int)).bind fun n8 =>
 some (w64 (z1 + (w64 (x5 * (((a1 >>> n8) % (2 : BitVec 16)).toNat : Int)))))
def partref_VotesOf (a0 : List Int) (a1 : BitVec 16) : Option Int :=
 (rangeF (partref_VotesOf_B0 a0 a1) a0.length 0 (0 : Int)).bind fun y2 =>
 some y2
def partlaw_QuorumMakes_1 (a0 : BitVec 16) (a1 : List Int) (a2 : Int) : Option Bool :=
 (partref_VotesOf a1 a0).bind fun r3 =>
 some (decide (r3 ≥ a2))
def partref_LeastSets_1 (a0 : BitVec 16) (a1 : BitVec 16) : Option Bool :=
 some (((a1 ||| a0).toNat : Int) == (a1.toNat : Int))
def slices_IndexFunc_uint16_uint16_LeastSets_1_B0 (a0 : List (BitVec 16)) (a1_c0 : BitVec 16) (i2 : Nat) (z2 : Unit) : Option (Ctl Unit Int) :=
 (lat a0 (i2 : Int)).bind fun x5 =>
 (partref_LeastSets_1 x5 a1_c0).bind fun r8 =>
 bif r8 then (some (.ret (i2 : Int))) else
 some (.go ())
def slices_IndexFunc_uint16_uint16_LeastSets_1 (a0 : List (BitVec 16)) (a1_c0 : BitVec 16) : Option Int :=
 andThen (rangeM (slices_IndexFunc_uint16_uint16_LeastSets_1_B0 a0 a1_c0) a0.length 0 ()) fun _ =>
 some (-1 : Int)
def slices_ContainsFunc_uint16_uint16_LeastSets_1 (a0 : List (BitVec 16)) (a1_c0 : BitVec 16) : Option Bool :=
 (slices_IndexFunc_uint16_uint16_LeastSets_1 a0 a1_c0).bind fun r2 =>
 some (decide (r2 ≥ (0 : Int)))
def partref_LeastSets_QuorumMakes_1_B2 (fu : Nat) (a1_c0 : List Int) (a1_c1 : Int) (i5 : Nat) (n11 : Nat) (z14 : (BitVec 16) × (List (BitVec 16))) : Option (Ctl ((BitVec 16) × (List (BitVec 16))) (List (BitVec 16))) :=
 bif decide ((z14.1.toNat : Int) < (((1 : BitVec 16) <<< n11).toNat : Int)) then ((partref_size fu z14.1).bind fun r23 =>
 bif r23 == (i5 : Int) then ((partlaw_QuorumMakes_1 z14.1 a1_c0 a1_c1).bind fun r28 =>
 bif r28 then ((slices_ContainsFunc_uint16_uint16_LeastSets_1 z14.2 z14.1).bind fun r33 =>
 bif !r33 then ((room z14.2 ([z14.1] : List (BitVec 16))).bind fun u40 =>
 some (.go (z14.1 + (1 : BitVec 16), z14.2 ++ ([z14.1] : List (BitVec 16))))) else
 some (.go (z14.1 + (1 : BitVec 16), z14.2))) else
 some (.go (z14.1 + (1 : BitVec 16), z14.2))) else
 some (.go (z14.1 + (1 : BitVec 16), z14.2))) else
 some (.brk (z14.1, z14.2))
def partref_LeastSets_QuorumMakes_1_B0 (fu : Nat) (a0 : Int) (a1_c0 : List Int) (a1_c1 : Int) (i5 : Nat) (z5 : (List (BitVec 16))) : Option (List (BitVec 16)) :=
 (cnt a0).bind fun n11 =>
 andThen (whileM (partref_LeastSets_QuorumMakes_1_B2 fu a1_c0 a1_c1 i5 n11) fu ((0 : BitVec 16), z5)) fun (y15, l17) =>
 some l17
def partref_LeastSets_QuorumMakes_1 (fu : Nat) (a0 : Int) (a1_c0 : List Int) (a1_c1 : Int) : Option (List (BitVec 16)) :=
 (upTo (w64 (a0 + (1 : Int)))).bind fun nn10 =>
 (rangeF (partref_LeastSets_QuorumMakes_1_B0 fu a0 a1_c0 a1_c1) nn10 0 ([] : List (BitVec 16))).bind fun l7 =>
 some l7
def slices_Equal_uint16_uint16_B0 (a0 : List (BitVec 16)) (a1 : List (BitVec 16)) (i2 : Nat) (z2 : Unit) : Option (Ctl Unit Bool) :=
 (lat a0 (i2 : Int)).bind fun x5 =>
 (lat a1 (i2 : Int)).bind fun x8 =>
 bif (x5.toNat : Int) != (x8.toNat : Int) then (some (.ret false)) else
 some (.go ())
def slices_Equal_uint16_uint16 (a0 : List (BitVec 16)) (a1 : List (BitVec 16)) : Option Bool :=
 bif (a0.length : Int) != (a1.length : Int) then (some false) else
 andThen (rangeM (slices_Equal_uint16_uint16_B0 a0 a1) a0.length 0 ()) fun _ =>
 some true
def partlaw_QuorumMakes_2_B2 (a0 : BitVec 16) (a2 : Int) (i3 : Nat) (i8 : Nat) (z8 : Bool) : Option Bool :=
 (bif z8 then ((cnt (w64 ((w64 ((i3 : Int) * a2)) + (i8 : Int)))).bind fun n16 =>
 some ((((a0 >>> n16) % (2 : BitVec 16)).toNat : Int) == ((1 : BitVec 16).toNat : Int))) else
 some false).bind fun y14 =>
 some y14
def partlaw_QuorumMakes_2_B6 (a0 : BitVec 16) (a2 : Int) (i27 : Nat) (i32 : Nat) (z32 : Bool) : Option Bool :=
 (bif z32 then ((cnt (w64 ((w64 ((i32 : Int) * a2)) + (i27 : Int)))).bind fun n40 =>
 some ((((a0 >>> n40) % (2 : BitVec 16)).toNat : Int) == ((1 : BitVec 16).toNat : Int))) else
 some false).bind fun y38 =>
 some y38
def partlaw_QuorumMakes_2_B4 (a0 : BitVec 16) (a1 : Int) (a2 : Int) (i27 : Nat) (z27 : Bool) : Option Bool :=
 (upTo a1).bind fun nn36 =>
 (rangeF (partlaw_QuorumMakes_2_B6 a0 a2 i27) nn36 0 true).bind fun y33 =>
 (bif z27 then (some true) else
 some y33).bind fun y46 =>
 some y46
def partlaw_QuorumMakes_2_B0 (a0 : BitVec 16) (a2 : Int) (i3 : Nat) (z3 : Bool) : Option Bool :=
 (upTo a2).bind fun nn12 =>
 (rangeF (partlaw_QuorumMakes_2_B2 a0 a2 i3) nn12 0 true).bind fun y9 =>
 (bif z3 then (some true) else
 some y9).bind fun y22 =>
 some y22
def partlaw_QuorumMakes_2 (a0 : BitVec 16) (a1 : Int) (a2 : Int) : Option Bool :=
 (upTo a1).bind fun nn7 =>
 (rangeF (partlaw_QuorumMakes_2_B0 a0 a2) nn7 0 false).bind fun y4 =>
 (upTo a2).bind fun nn31 =>
 (rangeF (partlaw_QuorumMakes_2_B4 a0 a1 a2) nn31 0 false).bind fun y28 =>
 (bif y4 then (some y28) else
 some false).bind fun y52 =>
 some y52
def partref_LeastSets_QuorumMakes_2_B2 (fu : Nat) (a1_c0 : Int) (a1_c1 : Int) (i5 : Nat) (n11 : Nat) (z14 : (BitVec 16) × (List (BitVec 16))) : Option (Ctl ((BitVec 16) × (List (BitVec 16))) (List (BitVec 16))) :=
 bif decide ((z14.1.toNat : Int) < (((1 : BitVec 16) <<< n11).toNat : Int)) then ((partref_size fu z14.1).bind fun r23 =>
 bif r23 == (i5 : Int) then ((partlaw_QuorumMakes_2 z14.1 a1_c0 a1_c1).bind fun r28 =>
 bif r28 then ((slices_ContainsFunc_uint16_uint16_LeastSets_1 z14.2 z14.1).bind fun r33 =>
 bif !r33 then ((room z14.2 ([z14.1] : List (BitVec 16))).bind fun u40 =>
 some (.go (z14.1 + (1 : BitVec 16), z14.2 ++ ([z14.1] : List (BitVec 16))))) else
 some (.go (z14.1 + (1 : BitVec 16), z14.2))) else
 some (.go (z14.1 + (1 : BitVec 16), z14.2))) else
 some (.go (z14.1 + (1 : BitVec 16), z14.2))) else
 some (.brk (z14.1, z14.2))
def partref_LeastSets_QuorumMakes_2_B0 (fu : Nat) (a0 : Int) (a1_c0 : Int) (a1_c1 : Int) (i5 : Nat) (z5 : (List (BitVec 16))) : Option (List (BitVec 16)) :=
 (cnt a0).bind fun n11 =>
 andThen (whileM (partref_LeastSets_QuorumMakes_2_B2 fu a1_c0 a1_c1 i5 n11) fu ((0 : BitVec 16), z5)) fun (y15, l17) =>
 some l17
def partref_LeastSets_QuorumMakes_2 (fu : Nat) (a0 : Int) (a1_c0 : Int) (a1_c1 : Int) : Option (List (BitVec 16)) :=
 (upTo (w64 (a0 + (1 : Int)))).bind fun nn10 =>
 (rangeF (partref_LeastSets_QuorumMakes_2_B0 fu a0 a1_c0 a1_c1) nn10 0 ([] : List (BitVec 16))).bind fun l7 =>
 some l7
def partlaw_QuorumMakes_B0 (a0 : List Int) (i36 : Nat) (z36 : Bool) : Option Bool :=
 (lat a0 (i36 : Int)).bind fun x40 =>
 (bif z36 then (some (decide (x40 ≥ (0 : Int)))) else
 some false).bind fun y44 =>
 (bif y44 then (some (decide (x40 ≤ (16777215 : Int)))) else
 some false).bind fun y49 =>
 some y49
def partlaw_QuorumMakes (fu : Nat) (a0 : List Int) (a1 : Int) (a2 : Int) (a3 : Int) : Option Bool :=
 (quorum_Votes fu a0 a1).bind fun r9 =>
 (quorum_Grid fu a2 a3).bind fun r15 =>
 (bif decide ((a0.length : Int) > (0 : Int)) then (some (decide ((a0.length : Int) < (11 : Int)))) else
 some false).bind fun y22 =>
 (bif y22 then (some (decide (a1 > (0 : Int)))) else
 some false).bind fun y27 =>
 (bif y27 then (some (decide (a1 ≤ (16777215 : Int)))) else
 some false).bind fun y32 =>
 (rangeF (partlaw_QuorumMakes_B0 a0) a0.length 0 y32).bind fun y37 =>
 andThen (bif !y37 then ((bif decide ((r9.1.length : Int) > (0 : Int)) then (some true) else
 some (r9.2 != (1 : Int))).bind fun y56 =>
 bif y56 then (some (.inr false)) else
 some (.inl ())) else
 (partref_LeastSets_QuorumMakes_1 fu (a0.length : Int) a0 a1).bind fun r61 =>
 (slices_Equal_uint16_uint16 r9.1 r61).bind fun r67 =>
 (bif !r67 then (some true) else
 some (r9.2 != (0 : Int))).bind fun y72 =>
 bif y72 then (some (.inr false)) else
 some (.inl ())) fun _ =>
 (bif decide (a2 < (1 : Int)) then (some true) else
 some (decide (a3 < (1 : Int)))).bind fun y80 =>
 (bif y80 then (some true) else
 some (decide (a2 > (10 : Int)))).bind fun y85 =>
 (bif y85 then (some true) else
 some (decide (a3 > (10 : Int)))).bind fun y90 =>
 (bif y90 then (some true) else
 some (decide ((w64 (a2 * a3)) > (10 : Int)))).bind fun y95 =>
 bif y95 then ((bif (r15.1.length : Int) == (0 : Int) then (some (r15.2 == (1 : Int))) else
 some false).bind fun y101 =>
 some y101) else
 (partref_LeastSets_QuorumMakes_2 fu (w64 (a2 * a3)) a2 a3).bind fun r105 =>
 (slices_Equal_uint16_uint16 r15.1 r105).bind fun r111 =>
 (bif r111 then (some (r15.2 == (0 : Int))) else
 some false).bind fun y116 =>
 some y116
end Go.Proofs.Ytnljiedichjagaa
