/-
  What the functions compute, typed; printed by a program.
-/
import Derived.Test.YtnljiedichjagaaDoorGoI
import Derived.Test.YtnljiedichjagaaDoorGoS
import Derived.Test.YtnljiedichjagaaDoorGoX
namespace Go.Proofs.YtnljiedichjagaaDoor
open Go.RowKit Enc
set_option linter.unusedVariables false
set_option linter.unusedSimpArgs false
structure Cmd where
  Kind : Int
  Key : Int
  N : Int
instance : DecidableEq Cmd := fun a b => decidable_of_iff (a.Kind = b.Kind ∧ a.Key = b.Key ∧ a.N = b.N) (by cases a; cases b; simp)
def Cmd.zero : Cmd := ⟨(0 : Int), (0 : Int), (0 : Int)⟩
instance : Enc Cmd := ⟨fun p => enc p.Kind ++ (enc p.Key ++ (enc p.N)), 3, fun p => by simp only [List.length_append, Enc.len]; rfl, fun p => by simp only [List.all_append, Enc.one, Bool.and_self]⟩
theorem Cmd.get_Kind {p : Cmd} {k : Nat} {ch : List Value} (h : Get (enc p.Kind) k ch) : Get (enc p) (0 + k) ch := Get.off (Get.left h) (by omega)
theorem Cmd.put_Kind {p : Cmd} {k : Nat} {vs : List Value} {y : Int} (h : Put (enc p.Kind) k vs (enc y)) : Put (enc p) (0 + k) vs (enc ({ p with Kind := y } : Cmd)) := Put.off (cs' := enc ({ p with Kind := y } : Cmd)) (Put.left h) (by omega)
theorem Cmd.get_Key {p : Cmd} {k : Nat} {ch : List Value} (h : Get (enc p.Key) k ch) : Get (enc p) (1 + k) ch := Get.off (Get.right (m := 1) (Enc.len _) (Get.left h)) (by omega)
theorem Cmd.put_Key {p : Cmd} {k : Nat} {vs : List Value} {y : Int} (h : Put (enc p.Key) k vs (enc y)) : Put (enc p) (1 + k) vs (enc ({ p with Key := y } : Cmd)) := Put.off (cs' := enc ({ p with Key := y } : Cmd)) (Put.right (m := 1) (Enc.len _) (Put.left h)) (by omega)
theorem Cmd.get_N {p : Cmd} {k : Nat} {ch : List Value} (h : Get (enc p.N) k ch) : Get (enc p) (2 + k) ch := Get.off (Get.right (m := 1) (Enc.len _) (Get.right (m := 1) (Enc.len _) h)) (by omega)
theorem Cmd.put_N {p : Cmd} {k : Nat} {vs : List Value} {y : Int} (h : Put (enc p.N) k vs (enc y)) : Put (enc p) (2 + k) vs (enc ({ p with N := y } : Cmd)) := Put.off (cs' := enc ({ p with N := y } : Cmd)) (Put.right (m := 1) (Enc.len _) (Put.right (m := 1) (Enc.len _) h)) (by omega)
instance : Rng Cmd := ⟨fun p => Rng.ok p.Kind ∧ Rng.ok p.Key ∧ Rng.ok p.N⟩
instance : Bnd Cmd := ⟨fun B p => Bnd.ok B p.Kind ∧ Bnd.ok B p.Key ∧ Bnd.ok B p.N⟩
def internal_stringslite_IndexByte (a0 : Str) (a1 : BitVec 8) : Option Int :=
 some (sIdx a0 a1)
def internal_stringslite_Index (a0 : Str) (a1 : Str) : Option Int :=
 (bif (a1.length : Int) == (0 : Int) then (some true) else
 some (decide (a1 = a0))).bind fun y2 =>
 bif y2 then (some (0 : Int)) else
 bif (a1.length : Int) == (1 : Int) then ((lat a1 (0 : Int)).bind fun x8 =>
 (internal_stringslite_IndexByte a0 x8.toBitVec).bind fun r10 =>
 some r10) else
 bif decide ((a1.length : Int) ≥ (a0.length : Int)) then (some (-1 : Int)) else
 none
def strings_Index (a0 : Str) (a1 : Str) : Option Int :=
 (internal_stringslite_Index a0 a1).bind fun r1 =>
 some r1
def strings_Count_B0 (a1 : Str) (z5 : Str × Int) : Option (Ctl (Str × Int) Int) :=
 (strings_Index z5.1 a1).bind fun r10 =>
 bif r10 == (-1 : Int) then (some (.ret z5.2)) else
 (cutL z5.1 (w64 (r10 + (a1.length : Int))) (z5.1.length : Int)).bind fun m15 =>
 some (.go (m15, w64 (z5.2 + (1 : Int))))
def strings_Count (fu : Nat) (a0 : Str) (a1 : Str) : Option Int :=
 bif (a1.length : Int) == (0 : Int) then (none) else
 bif (a1.length : Int) == (1 : Int) then ((lat a1 (0 : Int)).bind fun x3 =>
 some (sCnt a0 x3.toBitVec)) else
 andThen (whileM (strings_Count_B0 a1) fu (a0, (0 : Int))) fun (y6, y7) =>
 none
def strings_genSplit_B0 (a0 : Str) (a1 : Str) (a2 : Int) (y5 : Int) (z23 : Str × Int × (List Str)) : Option (Ctl (Str × Int × (List Str)) (Str × Int × (List Str))) :=
 bif decide (z23.2.1 < (w64 ((min y5 (w64 ((a0.length : Int) + (1 : Int)))) - (1 : Int)))) then ((strings_Index z23.1 a1).bind fun r30 =>
 bif decide (r30 < (0 : Int)) then (some (.brk (z23.1, z23.2.1, z23.2.2))) else
 (cutL z23.1 0 (w64 (r30 + a2))).bind fun m35 =>
 (lat z23.2.2 z23.2.1).bind fun x37 =>
 Let (z23.2.2.set z23.2.1.toNat m35) fun p40 =>
 (cutL z23.1 (w64 (r30 + (a1.length : Int))) (z23.1.length : Int)).bind fun m42 =>
 some (.go (m42, w64 (z23.2.1 + (1 : Int)), p40))) else
 some (.brk (z23.1, z23.2.1, z23.2.2))
def strings_genSplit (fu : Nat) (a0 : Str) (a1 : Str) (a2 : Int) (a3 : Int) : Option (List Str) :=
 bif a3 == (0 : Int) then (some ([] : List Str)) else
 bif decide (a1 = ([] : Str)) then (none) else
 (bif decide (a3 < (0 : Int)) then ((strings_Count fu a0 a1).bind fun r8 =>
 some (w64 (r8 + (1 : Int)))) else
 some a3).bind fun y5 =>
 (mkLen (min y5 (w64 ((a0.length : Int) + (1 : Int))))).bind fun n14 =>
 (andThen (whileM (strings_genSplit_B0 a0 a1 a2 y5) fu (a0, (0 : Int), (List.replicate n14 ([] : Str)))) fun (y24, y25, l26) =>
 some (y24, y25, l26)).bind fun (y19, y20, l21) =>
 (lat l21 y20).bind fun x46 =>
 Let (l21.set y20.toNat y19) fun p49 =>
 (cutL p49 0 (w64 (y20 + (1 : Int)))).bind fun m51 =>
 some m51
def strings_Split (fu : Nat) (a0 : Str) (a1 : Str) : Option (List Str) :=
 (strings_genSplit fu a0 a1 (0 : Int) (-1 : Int)).bind fun r2 =>
 some r2
def slices_Index_string_string_B0 (a0 : List Str) (a1 : Str) (i1 : Nat) (z1 : Unit) : Option (Ctl Unit Int) :=
 (lat a0 (i1 : Int)).bind fun x4 =>
 bif decide (a1 = x4) then (some (.ret (i1 : Int))) else
 some (.go ())
def slices_Index_string_string (a0 : List Str) (a1 : Str) : Option Int :=
 andThen (rangeM (slices_Index_string_string_B0 a0 a1) a0.length 0 ()) fun _ =>
 some (-1 : Int)
def internal_stringslite_HasPrefix (a0 : Str) (a1 : Str) : Option Bool :=
 (bif decide ((a0.length : Int) ≥ (a1.length : Int)) then ((cutL a0 0 (a1.length : Int)).bind fun m4 =>
 some (decide (m4 = a1))) else
 some false).bind fun y2 =>
 some y2
def internal_stringslite_TrimPrefix (a0 : Str) (a1 : Str) : Option Str :=
 (internal_stringslite_HasPrefix a0 a1).bind fun r1 =>
 bif r1 then ((cutL a0 (a1.length : Int) (a0.length : Int)).bind fun m6 =>
 some m6) else
 some a0
def strings_TrimPrefix (a0 : Str) (a1 : Str) : Option Str :=
 (internal_stringslite_TrimPrefix a0 a1).bind fun r1 =>
 some r1
def same_in (a0 : Int) (a1 : Int) (a2 : Int) : Option Bool :=
 (bif decide (a0 ≥ a1) then (some (decide (a0 ≤ a2))) else
 some false).bind fun y2 =>
 some y2
def strings_makeASCIISet_B0 (a0 : Str) (z3 : Int × (Vector Bool 256)) : Option (Ctl (Int × (Vector Bool 256)) ((Vector Bool 256) × Bool)) :=
 bif decide (z3.1 < (a0.length : Int)) then ((lat a0 z3.1).bind fun x9 =>
 bif decide ((x9.toBitVec.toNat : Int) ≥ ((128 : BitVec 8).toNat : Int)) then (some (.ret (z3.2, false))) else
 (vat z3.2 (x9.toBitVec.toNat : Int)).bind fun x12 =>
 Let (z3.2.setIfInBounds (x9.toBitVec.toNat : Int).toNat true) fun p15 =>
 some (.go (w64 (z3.1 + (1 : Int)), p15))) else
 some (.brk (z3.1, z3.2))
def strings_makeASCIISet (fu : Nat) (a0 : Str) : Option ((Vector Bool 256) × Bool) :=
 andThen (whileM (strings_makeASCIISet_B0 a0) fu ((0 : Int), (Vector.replicate 256 false))) fun (y4, y5) =>
 some (y5, true)
def strings_asciiSet_contains (a0 : Vector Bool 256) (a1 : BitVec 8) : Option Bool :=
 (vat a0 (a1.toNat : Int)).bind fun x2 =>
 some x2
def strings_trimRightASCII_B0 (a1 : Vector Bool 256) (z4 : Str) : Option (Ctl Str Str) :=
 bif decide ((z4.length : Int) > (0 : Int)) then ((lat z4 (w64 ((z4.length : Int) - (1 : Int)))).bind fun x9 =>
 (strings_asciiSet_contains a1 x9.toBitVec).bind fun r11 =>
 bif !r11 then (some (.brk z4)) else
 (cutL z4 0 (w64 ((z4.length : Int) - (1 : Int)))).bind fun m16 =>
 some (.go m16)) else
 some (.brk z4)
def strings_trimRightASCII (fu : Nat) (a0 : Str) (a1 : Vector Bool 256) : Option Str :=
 (andThen (whileM (strings_trimRightASCII_B0 a1) fu a0) fun y5 =>
 some y5).bind fun y2 =>
 some y2
def strings_trimLeftASCII_B0 (a1 : Vector Bool 256) (z4 : Str) : Option (Ctl Str Str) :=
 bif decide ((z4.length : Int) > (0 : Int)) then ((lat z4 (0 : Int)).bind fun x9 =>
 (strings_asciiSet_contains a1 x9.toBitVec).bind fun r11 =>
 bif !r11 then (some (.brk z4)) else
 (cutL z4 (1 : Int) (z4.length : Int)).bind fun m16 =>
 some (.go m16)) else
 some (.brk z4)
def strings_trimLeftASCII (fu : Nat) (a0 : Str) (a1 : Vector Bool 256) : Option Str :=
 (andThen (whileM (strings_trimLeftASCII_B0 a1) fu a0) fun y5 =>
 some y5).bind fun y2 =>
 some y2
def strings_Trim (fu : Nat) (a0 : Str) (a1 : Str) : Option Str :=
 (bif decide (a0 = ([] : Str)) then (some true) else
 some (decide (a1 = ([] : Str)))).bind fun y2 =>
 bif y2 then (some a0) else
 (bif (a1.length : Int) == (1 : Int) then ((lat a1 (0 : Int)).bind fun x10 =>
 some (decide ((x10.toBitVec.toNat : Int) < ((128 : BitVec 8).toNat : Int)))) else
 some false).bind fun y8 =>
 bif y8 then (none) else
 (strings_makeASCIISet fu a1).bind fun r15 =>
 bif r15.2 then ((strings_trimRightASCII fu a0 r15.1).bind fun r22 =>
 (strings_trimLeftASCII fu r22 r15.1).bind fun r26 =>
 some r26) else
 none
def internal_strconv_Atoi_B0 (y7 : Str) (i30 : Nat) (z30 : Int) : Option (Ctl Int (Int × Unit)) :=
 (lat (Str.bytes y7) (i30 : Int)).bind fun x34 =>
 bif decide (((x34 - (48 : BitVec 8)).toNat : Int) > ((9 : BitVec 8).toNat : Int)) then (none) else
 some (.go (w64 ((w64 (z30 * (10 : Int))) + ((x34 - (48 : BitVec 8)).toNat : Int))))
def internal_strconv_Atoi (a0 : Str) : Option (Int × Unit) :=
 (bif decide ((0 : Int) < (a0.length : Int)) then (some (decide ((a0.length : Int) < (19 : Int)))) else
 some false).bind fun y2 =>
 bif y2 then (andThen ((lat a0 (0 : Int)).bind fun x9 =>
 (bif (x9.toBitVec.toNat : Int) == ((45 : BitVec 8).toNat : Int) then (some true) else
 (lat a0 (0 : Int)).bind fun x14 =>
 some ((x14.toBitVec.toNat : Int) == ((43 : BitVec 8).toNat : Int))).bind fun y12 =>
 bif y12 then ((cutL a0 (1 : Int) (a0.length : Int)).bind fun m19 =>
 bif decide ((m19.length : Int) < (1 : Int)) then (none) else
 some (.inl m19)) else
 some (.inl a0)) fun y7 =>
 (room ([] : Str) y7).bind fun u24 =>
 andThen (rangeM (internal_strconv_Atoi_B0 y7) ((Str.bytes y7).length) 0 (0 : Int)) fun y31 =>
 ((lat a0 (0 : Int)).bind fun x40 =>
 bif (x40.toBitVec.toNat : Int) == ((45 : BitVec 8).toNat : Int) then (some (w64 (0 - y31))) else
 some y31).bind fun y38 =>
 some (y38, ())) else
 none
def strconv_Atoi (a0 : Str) : Option (Int × Unit) :=
 (internal_strconv_Atoi a0).bind fun r1 =>
 some (r1.1, ())
def same_number (fu : Nat) (a0 : Str) : Option (Int × Bool) :=
 (strings_TrimPrefix a0 ([45] : Str)).bind fun r1 =>
 (same_in (r1.length : Int) (1 : Int) (9 : Int)).bind fun r5 =>
 (bif !r5 then (some true) else
 (strings_Trim fu r1 ([48, 49, 50, 51, 52, 53, 54, 55, 56, 57] : Str)).bind fun r12 =>
 some (!(decide (r12 = ([] : Str))))).bind fun y10 =>
 bif y10 then (some ((0 : Int), false)) else
 (strconv_Atoi a0).bind fun r19 =>
 some (r19.1, true)
def same_Read (fu : Nat) (a0 : Str) : Option (Cmd × Int) :=
 (strings_Split fu a0 ([32] : Str)).bind fun r3 =>
 bif (r3.length : Int) != (3 : Int) then (some (Cmd.zero, (12 : Int))) else
 (lat r3 (0 : Int)).bind fun x12 =>
 (slices_Index_string_string ([([115, 101, 116] : Str), ([97, 100, 100] : Str), ([109, 111, 115, 116] : Str), ([99, 111, 112, 121] : Str)] : List Str) x12).bind fun r15 =>
 (lat r3 (1 : Int)).bind fun x19 =>
 (same_number fu x19).bind fun r22 =>
 (lat r3 (2 : Int)).bind fun x26 =>
 (same_number fu x26).bind fun r29 =>
 (bif (w64 (r15 + (1 : Int))) == (0 : Int) then (some true) else
 some (!r22.2)).bind fun y34 =>
 (bif y34 then (some true) else
 some (!r29.2)).bind fun y39 =>
 bif y39 then (some (Cmd.zero, (12 : Int))) else
 (same_in r22.1 (0 : Int) (9 : Int)).bind fun r44 =>
 bif !r44 then (some (Cmd.zero, (1 : Int))) else
 (bif (w64 (r15 + (1 : Int))) == (4 : Int) then ((same_in r29.1 (0 : Int) (9 : Int)).bind fun r52 =>
 some (!r52)) else
 some false).bind fun y50 =>
 bif y50 then (some (Cmd.zero, (1 : Int))) else
 some (({ Cmd.zero with Kind := w64 (r15 + (1 : Int)), Key := r22.1, N := r29.1 } : Cmd), (0 : Int))
def strings_HasPrefix (a0 : Str) (a1 : Str) : Option Bool :=
 (internal_stringslite_HasPrefix a0 a1).bind fun r1 =>
 some r1
def partref_numberOf_B0 (y1 : Str) (i25 : Nat) (z25 : Int) : Option (Ctl Int (Int × Bool)) :=
 (lat (Str.bytes y1) (i25 : Int)).bind fun x29 =>
 (bif decide ((x29.toNat : Int) < ((48 : BitVec 8).toNat : Int)) then (some true) else
 some (decide ((x29.toNat : Int) > ((57 : BitVec 8).toNat : Int)))).bind fun y33 =>
 bif y33 then (some (.ret ((0 : Int), false))) else
 some (.go (w64 ((w64 ((w64 (z25 * (10 : Int))) + (x29.toNat : Int))) - (48 : Int))))
def partref_numberOf (a0 : Str) : Option (Int × Bool) :=
 ((strings_HasPrefix a0 ([45] : Str)).bind fun r4 =>
 bif r4 then ((cutL a0 (1 : Int) (a0.length : Int)).bind fun m9 =>
 some (m9, (-1 : Int))) else
 some (a0, (1 : Int))).bind fun (y1, y2) =>
 (bif decide ((y1.length : Int) < (1 : Int)) then (some true) else
 some (decide ((y1.length : Int) > (9 : Int)))).bind fun y14 =>
 bif y14 then (some ((0 : Int), false)) else
 (room ([] : Str) y1).bind fun u19 =>
 andThen (rangeM (partref_numberOf_B0 y1) ((Str.bytes y1).length) 0 (0 : Int)) fun y26 =>
 some (w64 (y2 * y26), true)
def partref_ReadCmd (fu : Nat) (a0 : Str) : Option (Cmd × Int) :=
 (strings_Split fu a0 ([32] : Str)).bind fun r3 =>
 bif (r3.length : Int) != (3 : Int) then (some (Cmd.zero, (12 : Int))) else
 (lat r3 (0 : Int)).bind fun x12 =>
 (slices_Index_string_string ([([] : Str), ([115, 101, 116] : Str), ([97, 100, 100] : Str), ([109, 111, 115, 116] : Str), ([99, 111, 112, 121] : Str)] : List Str) x12).bind fun r15 =>
 (lat r3 (1 : Int)).bind fun x19 =>
 (partref_numberOf x19).bind fun r22 =>
 (lat r3 (2 : Int)).bind fun x26 =>
 (partref_numberOf x26).bind fun r29 =>
 (bif decide (r15 < (1 : Int)) then (some true) else
 some (!r22.2)).bind fun y34 =>
 (bif y34 then (some true) else
 some (!r29.2)).bind fun y39 =>
 bif y39 then (some (Cmd.zero, (12 : Int))) else
 (bif decide (r22.1 < (0 : Int)) then (some true) else
 some (decide (r22.1 > (9 : Int)))).bind fun y45 =>
 bif y45 then (some (Cmd.zero, (1 : Int))) else
 bif r15 == (4 : Int) then ((bif decide (r29.1 < (0 : Int)) then (some true) else
 some (decide (r29.1 > (9 : Int)))).bind fun y52 =>
 bif y52 then (some (Cmd.zero, (1 : Int))) else
 some (({ Cmd.zero with Kind := r15, Key := r22.1, N := r29.1 } : Cmd), (0 : Int))) else
 some (({ Cmd.zero with Kind := r15, Key := r22.1, N := r29.1 } : Cmd), (0 : Int))
def same_clamp (a0 : Int) : Option Int :=
 some (min (max a0 (-1000000000 : Int)) (1000000000 : Int))
def same_run (a0 : Vector Int 10) (a1 : Cmd) : Option (Vector Int 10) :=
 (vat a0 a1.Key).bind fun x4 =>
 bif a1.Kind == (1 : Int) then ((same_clamp a1.N).bind fun r8 =>
 Let (a0.setIfInBounds a1.Key.toNat r8) fun p12 =>
 some p12) else
 bif a1.Kind == (2 : Int) then ((same_clamp a1.N).bind fun r15 =>
 (same_clamp (w64 ((min (max x4 (-4000000000 : Int)) (4000000000 : Int)) + r15))).bind fun r19 =>
 Let (a0.setIfInBounds a1.Key.toNat r19) fun p23 =>
 some p23) else
 bif a1.Kind == (3 : Int) then ((same_clamp a1.N).bind fun r26 =>
 Let (a0.setIfInBounds a1.Key.toNat (max x4 r26)) fun p30 =>
 some p30) else
 bif a1.Kind == (4 : Int) then ((vat a0 a1.N).bind fun x33 =>
 Let (a0.setIfInBounds a1.Key.toNat x33) fun p36 =>
 some p36) else
 some a0
def same_Run_B0 (fu : Nat) (a1 : List Str) (i5 : Nat) (z5 : Int × (Vector Int 10)) : Option (Int × (Vector Int 10)) :=
 (lat a1 (i5 : Int)).bind fun x10 =>
 (same_Read fu x10).bind fun r13 =>
 bif r13.2 != (0 : Int) then (some (w64 (z5.1 + (1 : Int)), z5.2)) else
 (same_run z5.2 r13.1).bind fun r20 =>
 some (z5.1, r20)
def same_Run (fu : Nat) (a0 : Vector Int 10) (a1 : List Str) : Option ((Vector Int 10) × Int) :=
 (rangeF (same_Run_B0 fu a1) a1.length 0 ((0 : Int), a0)).bind fun (y6, y7) =>
 some (y7, y6)
def partref_RunCmds_1 (a0 : Int) : Option Int :=
 bif decide (a0 > (1000000000 : Int)) then (some (1000000000 : Int)) else
 bif decide (a0 < (-1000000000 : Int)) then (some (-1000000000 : Int)) else
 some a0
def partref_RunCmds_B0 (fu : Nat) (a1 : List Str) (i5 : Nat) (z5 : Int × (Vector Int 10)) : Option (Int × (Vector Int 10)) :=
 (lat a1 (i5 : Int)).bind fun x10 =>
 (partref_ReadCmd fu x10).bind fun r13 =>
 bif r13.2 != (0 : Int) then (some (w64 (z5.1 + (1 : Int)), z5.2)) else
 (partref_RunCmds_1 r13.1.N).bind fun r20 =>
 (bif r13.1.Kind == (2 : Int) then ((vat z5.2 r13.1.Key).bind fun x27 =>
 (partref_RunCmds_1 (w64 ((max (-1099511627776 : Int) (min x27 (1099511627776 : Int))) + r20))).bind fun r30 =>
 some r30) else
 bif r13.1.Kind == (3 : Int) then ((vat z5.2 r13.1.Key).bind fun x35 =>
 some (max r20 x35)) else
 bif r13.1.Kind == (4 : Int) then ((vat z5.2 r13.1.N).bind fun x39 =>
 some x39) else
 some r20).bind fun y24 =>
 (vat z5.2 r13.1.Key).bind fun x44 =>
 Let (z5.2.setIfInBounds r13.1.Key.toNat y24) fun p47 =>
 some (z5.1, p47)
def partref_RunCmds (fu : Nat) (a0 : Vector Int 10) (a1 : List Str) : Option ((Vector Int 10) × Int) :=
 (rangeF (partref_RunCmds_B0 fu a1) a1.length 0 ((0 : Int), a0)).bind fun (y6, y7) =>
 some (y7, y6)
def same_Swaps_1 (a0 : Cmd) (a1 : Cmd) : Option Bool :=
 (bif a0.Kind == (4 : Int) then (some (a0.N == a1.Key)) else
 some false).bind fun y6 =>
 some y6
def same_Swaps (fu : Nat) (a0 : Str) (a1 : Str) : Option Bool :=
 (same_Read fu a0).bind fun r1 =>
 (same_Read fu a1).bind fun r7 =>
 (bif r1.2 != (0 : Int) then (some true) else
 some (r7.2 != (0 : Int))).bind fun y14 =>
 (bif y14 then (some true) else
 some (decide (r1.1 = r7.1))).bind fun y19 =>
 bif y19 then (some true) else
 (same_Swaps_1 r1.1 r7.1).bind fun r24 =>
 (bif r24 then (some true) else
 (same_Swaps_1 r7.1 r1.1).bind fun r31 =>
 some r31).bind fun y29 =>
 bif y29 then ((same_Swaps_1 r1.1 r1.1).bind fun r38 =>
 (bif r38 then (some true) else
 (same_Swaps_1 r7.1 r7.1).bind fun r45 =>
 some r45).bind fun y43 =>
 some y43) else
 bif r1.1.Key != r7.1.Key then (some true) else
 (bif r1.1.Kind == (3 : Int) then (some (r7.1.Kind == (3 : Int))) else
 some false).bind fun y53 =>
 some y53
def partlaw_SameSays (fu : Nat) (a0 : Str) (a1 : Vector Int 10) (a2 : List Str) (a3 : Str) (a4 : Str) : Option Bool :=
 (same_Read fu a0).bind fun r3 =>
 (partref_ReadCmd fu a0).bind fun r9 =>
 (same_Run fu a1 a2).bind fun r15 =>
 (partref_RunCmds fu a1 a2).bind fun r21 =>
 (bif !(decide (r3.1 = r9.1)) then (some true) else
 some (r3.2 != r9.2)).bind fun y28 =>
 (bif y28 then (some true) else
 some (!(decide (r15.1 = r21.1)))).bind fun y33 =>
 (bif y33 then (some true) else
 some (r15.2 != r21.2)).bind fun y38 =>
 bif y38 then (some false) else
 (partref_ReadCmd fu a3).bind fun r43 =>
 (partref_ReadCmd fu a4).bind fun r49 =>
 (bif r43.1.Kind == (4 : Int) then (some (r43.1.N == r49.1.Key)) else
 some false).bind fun y56 =>
 bif y56 then ((bif r43.1.Kind == (4 : Int) then (some (r43.1.N == r43.1.Key)) else
 some false).bind fun y62 =>
 bif y62 then (bif r43.1.Key != r49.1.Key then ((some ()).bind fun _ =>
 (same_Swaps fu a3 a4).bind fun r71 =>
 (bif r43.2 != (0 : Int) then (some true) else
 some (r49.2 != (0 : Int))).bind fun y76 =>
 (bif y76 then (some true) else
 some (decide (r43.1 = r49.1))).bind fun y81 =>
 (bif y81 then (some true) else
 some true).bind fun y86 =>
 some (r71 == y86)) else
 (bif r43.1.Kind == (3 : Int) then (some (r49.1.Kind == (3 : Int))) else
 some false).bind fun y91 =>
 (some true).bind fun y95 =>
 (same_Swaps fu a3 a4).bind fun r99 =>
 (bif r43.2 != (0 : Int) then (some true) else
 some (r49.2 != (0 : Int))).bind fun y104 =>
 (bif y104 then (some true) else
 some (decide (r43.1 = r49.1))).bind fun y109 =>
 (bif y109 then (some true) else
 some y95).bind fun y114 =>
 some (r99 == y114)) else
 (bif r49.1.Kind == (4 : Int) then (some (r49.1.N == r49.1.Key)) else
 some false).bind fun y119 =>
 bif r43.1.Key != r49.1.Key then ((some y119).bind fun y124 =>
 (same_Swaps fu a3 a4).bind fun r128 =>
 (bif r43.2 != (0 : Int) then (some true) else
 some (r49.2 != (0 : Int))).bind fun y133 =>
 (bif y133 then (some true) else
 some (decide (r43.1 = r49.1))).bind fun y138 =>
 (bif y138 then (some true) else
 some y124).bind fun y143 =>
 some (r128 == y143)) else
 (bif r43.1.Kind == (3 : Int) then (some (r49.1.Kind == (3 : Int))) else
 some false).bind fun y148 =>
 (some y119).bind fun y152 =>
 (same_Swaps fu a3 a4).bind fun r156 =>
 (bif r43.2 != (0 : Int) then (some true) else
 some (r49.2 != (0 : Int))).bind fun y161 =>
 (bif y161 then (some true) else
 some (decide (r43.1 = r49.1))).bind fun y166 =>
 (bif y166 then (some true) else
 some y152).bind fun y171 =>
 some (r156 == y171)) else
 (bif r49.1.Kind == (4 : Int) then (some (r49.1.N == r43.1.Key)) else
 some false).bind fun y176 =>
 (bif r43.1.Kind == (4 : Int) then (some (r43.1.N == r43.1.Key)) else
 some false).bind fun y181 =>
 bif y181 then (bif r43.1.Key != r49.1.Key then ((bif y176 then (some ()) else
 some ()).bind fun _ =>
 (same_Swaps fu a3 a4).bind fun r191 =>
 (bif r43.2 != (0 : Int) then (some true) else
 some (r49.2 != (0 : Int))).bind fun y196 =>
 (bif y196 then (some true) else
 some (decide (r43.1 = r49.1))).bind fun y201 =>
 (bif y201 then (some true) else
 some true).bind fun y206 =>
 some (r191 == y206)) else
 (bif r43.1.Kind == (3 : Int) then (some (r49.1.Kind == (3 : Int))) else
 some false).bind fun y211 =>
 (bif y176 then (some true) else
 some y211).bind fun y215 =>
 (same_Swaps fu a3 a4).bind fun r220 =>
 (bif r43.2 != (0 : Int) then (some true) else
 some (r49.2 != (0 : Int))).bind fun y225 =>
 (bif y225 then (some true) else
 some (decide (r43.1 = r49.1))).bind fun y230 =>
 (bif y230 then (some true) else
 some y215).bind fun y235 =>
 some (r220 == y235)) else
 (bif r49.1.Kind == (4 : Int) then (some (r49.1.N == r49.1.Key)) else
 some false).bind fun y240 =>
 bif r43.1.Key != r49.1.Key then ((bif y176 then (some y240) else
 some true).bind fun y245 =>
 (same_Swaps fu a3 a4).bind fun r250 =>
 (bif r43.2 != (0 : Int) then (some true) else
 some (r49.2 != (0 : Int))).bind fun y255 =>
 (bif y255 then (some true) else
 some (decide (r43.1 = r49.1))).bind fun y260 =>
 (bif y260 then (some true) else
 some y245).bind fun y265 =>
 some (r250 == y265)) else
 (bif r43.1.Kind == (3 : Int) then (some (r49.1.Kind == (3 : Int))) else
 some false).bind fun y270 =>
 (bif y176 then (some y240) else
 some y270).bind fun y274 =>
 (same_Swaps fu a3 a4).bind fun r279 =>
 (bif r43.2 != (0 : Int) then (some true) else
 some (r49.2 != (0 : Int))).bind fun y284 =>
 (bif y284 then (some true) else
 some (decide (r43.1 = r49.1))).bind fun y289 =>
 (bif y289 then (some true) else
 some y274).bind fun y294 =>
 some (r279 == y294)
end Go.Proofs.YtnljiedichjagaaDoor
