/-
  What the functions compute, typed; printed by a program.
-/
import Derived.Test.YtobikknjaomalaaGoI
namespace Go.Proofs.Ytobikknjaomalaa
open Go.RowKit Enc
set_option linter.unusedVariables false
set_option linter.unusedSimpArgs false
structure Token where
  of : Int
  at_ : Int
  way : Int
  left : Int
instance : DecidableEq Token := fun a b => decidable_of_iff (a.of = b.of ∧ a.at_ = b.at_ ∧ a.way = b.way ∧ a.left = b.left) (by cases a; cases b; simp)
def Token.zero : Token := ⟨(0 : Int), (0 : Int), (0 : Int), (0 : Int)⟩
instance : Enc Token := ⟨fun p => enc p.of ++ (enc p.at_ ++ (enc p.way ++ (enc p.left))), 4, fun p => by simp only [List.length_append, Enc.len]; rfl, fun p => by simp only [List.all_append, Enc.one, Bool.and_self]⟩
theorem Token.get_of {p : Token} {k : Nat} {ch : List Value} (h : Get (enc p.of) k ch) : Get (enc p) (0 + k) ch := Get.off (Get.left h) (by omega)
theorem Token.put_of {p : Token} {k : Nat} {vs : List Value} {y : Int} (h : Put (enc p.of) k vs (enc y)) : Put (enc p) (0 + k) vs (enc ({ p with of := y } : Token)) := Put.off (cs' := enc ({ p with of := y } : Token)) (Put.left h) (by omega)
theorem Token.get_at_ {p : Token} {k : Nat} {ch : List Value} (h : Get (enc p.at_) k ch) : Get (enc p) (1 + k) ch := Get.off (Get.right (m := 1) (Enc.len _) (Get.left h)) (by omega)
theorem Token.put_at_ {p : Token} {k : Nat} {vs : List Value} {y : Int} (h : Put (enc p.at_) k vs (enc y)) : Put (enc p) (1 + k) vs (enc ({ p with at_ := y } : Token)) := Put.off (cs' := enc ({ p with at_ := y } : Token)) (Put.right (m := 1) (Enc.len _) (Put.left h)) (by omega)
theorem Token.get_way {p : Token} {k : Nat} {ch : List Value} (h : Get (enc p.way) k ch) : Get (enc p) (2 + k) ch := Get.off (Get.right (m := 1) (Enc.len _) (Get.right (m := 1) (Enc.len _) (Get.left h))) (by omega)
theorem Token.put_way {p : Token} {k : Nat} {vs : List Value} {y : Int} (h : Put (enc p.way) k vs (enc y)) : Put (enc p) (2 + k) vs (enc ({ p with way := y } : Token)) := Put.off (cs' := enc ({ p with way := y } : Token)) (Put.right (m := 1) (Enc.len _) (Put.right (m := 1) (Enc.len _) (Put.left h))) (by omega)
theorem Token.get_left {p : Token} {k : Nat} {ch : List Value} (h : Get (enc p.left) k ch) : Get (enc p) (3 + k) ch := Get.off (Get.right (m := 1) (Enc.len _) (Get.right (m := 1) (Enc.len _) (Get.right (m := 1) (Enc.len _) h))) (by omega)
theorem Token.put_left {p : Token} {k : Nat} {vs : List Value} {y : Int} (h : Put (enc p.left) k vs (enc y)) : Put (enc p) (3 + k) vs (enc ({ p with left := y } : Token)) := Put.off (cs' := enc ({ p with left := y } : Token)) (Put.right (m := 1) (Enc.len _) (Put.right (m := 1) (Enc.len _) (Put.right (m := 1) (Enc.len _) h))) (by omega)
instance : Rng Token := ⟨fun p => Rng.ok p.of ∧ Rng.ok p.at_ ∧ Rng.ok p.way ∧ Rng.ok p.left⟩
def slices_Index_int_int_B0 (a0 : List Int) (a1 : Int) (i1 : Nat) (z1 : Unit) : Option (Ctl Unit Int) :=
 (lat a0 (i1 : Int)).bind fun x4 =>
 bif a1 == x4 then (some (.ret (i1 : Int))) else
 some (.go ())
def slices_Index_int_int (a0 : List Int) (a1 : Int) : Option Int :=
 andThen (rangeM (slices_Index_int_int_B0 a0 a1) a0.length 0 ()) fun _ =>
 some (-1 : Int)
def partref_RingErr_B0 (a0 : List Int) (i7 : Nat) (z7 : Unit) : Option (Ctl Unit Int) :=
 (lat a0 (i7 : Int)).bind fun x10 =>
 (bif decide (x10 < (0 : Int)) then (some true) else
 some (decide (x10 > (16777215 : Int)))).bind fun y14 =>
 bif y14 then (some (.ret (1 : Int))) else
 (slices_Index_int_int a0 x10).bind fun r19 =>
 bif r19 != (i7 : Int) then (some (.ret (4 : Int))) else
 some (.go ())
def partref_RingErr (a0 : List Int) : Option Int :=
 (bif (a0.length : Int) == (0 : Int) then (some true) else
 some (decide ((a0.length : Int) > (30 : Int)))).bind fun y2 =>
 bif y2 then (some (1 : Int)) else
 andThen (rangeM (partref_RingErr_B0 a0) a0.length 0 ()) fun _ =>
 some (0 : Int)
def slices_Contains_int_int (a0 : List Int) (a1 : Int) : Option Bool :=
 (slices_Index_int_int a0 a1).bind fun r1 =>
 some (decide (r1 ≥ (0 : Int)))
def ring_Check_B0 (a0 : List Int) (i7 : Nat) (z7 : Unit) : Option (Ctl Unit Int) :=
 (lat a0 (i7 : Int)).bind fun x10 =>
 (bif decide (x10 < (0 : Int)) then (some true) else
 some (decide (x10 > (16777215 : Int)))).bind fun y14 =>
 bif y14 then (some (.ret (1 : Int))) else
 (cutL a0 0 (i7 : Int)).bind fun m19 =>
 (slices_Contains_int_int m19 x10).bind fun r24 =>
 bif r24 then (some (.ret (4 : Int))) else
 some (.go ())
def ring_Check (a0 : List Int) : Option Int :=
 (bif decide ((a0.length : Int) < (1 : Int)) then (some true) else
 some (decide ((a0.length : Int) > (30 : Int)))).bind fun y2 =>
 bif y2 then (some (1 : Int)) else
 andThen (rangeM (ring_Check_B0 a0) a0.length 0 ()) fun _ =>
 some (0 : Int)
def slices_Max_int_int_B0 (a0 : List Int) (z5 : Int × Int) : Option (Ctl (Int × Int) Int) :=
 bif decide (z5.2 < (a0.length : Int)) then ((lat a0 z5.2).bind fun x11 =>
 some (.go (max z5.1 x11, w64 (z5.2 + (1 : Int))))) else
 some (.brk (z5.1, z5.2))
def slices_Max_int_int (fu : Nat) (a0 : List Int) : Option Int :=
 bif decide ((a0.length : Int) < (1 : Int)) then (none) else
 (lat a0 (0 : Int)).bind fun x2 =>
 andThen (whileM (slices_Max_int_int_B0 a0) fu (x2, (1 : Int))) fun (y6, y7) =>
 some y6
def ring_leader (fu : Nat) (a0 : List Int) : Option Int :=
 (slices_Max_int_int fu a0).bind fun r1 =>
 (slices_Index_int_int a0 r1).bind fun r5 =>
 some r5
def ring_Round_B2 (a0 : List Int) (i6 : Nat) (x10 : Int) (z13 : Int × Int) : Option (Ctl (Int × Int) Int) :=
 (nz (a0.length : Int)).bind fun u18 =>
 (lat a0 ((w64 ((i6 : Int) + z13.2)).tmod (a0.length : Int) : Int)).bind fun x20 =>
 bif decide (x20 ≥ x10) then (some (.brk (w64 (z13.1 + (1 : Int)), z13.2))) else
 some (.go (w64 (z13.1 + (1 : Int)), w64 (z13.2 + (1 : Int))))
def ring_Round_B0 (fu : Nat) (a0 : List Int) (i6 : Nat) (z6 : Int) : Option Int :=
 (lat a0 (i6 : Int)).bind fun x10 =>
 andThen (whileM (ring_Round_B2 a0 i6 x10) fu (z6, (1 : Int))) fun (y14, y15) =>
 some y14
def ring_Round (fu : Nat) (a0 : List Int) : Option (Int × Int × Int) :=
 (ring_Check a0).bind fun r1 =>
 bif r1 != (0 : Int) then (some ((0 : Int), (0 : Int), r1)) else
 (rangeF (ring_Round_B0 fu a0) a0.length 0 (0 : Int)).bind fun y7 =>
 (ring_leader fu a0).bind fun r24 =>
 some (r24, y7, (0 : Int))
def math_bits_Mul64 (a0 : BitVec 64) (a1 : BitVec 64) : Option ((BitVec 64) × (BitVec 64)) :=
 some ((((a0 >>> 32) * (a1 >>> 32)) + ((((a0 >>> 32) * (a1 &&& (4294967295 : BitVec 64))) + (((a0 &&& (4294967295 : BitVec 64)) * (a1 &&& (4294967295 : BitVec 64))) >>> 32)) >>> 32)) + ((((((a0 >>> 32) * (a1 &&& (4294967295 : BitVec 64))) + (((a0 &&& (4294967295 : BitVec 64)) * (a1 &&& (4294967295 : BitVec 64))) >>> 32)) &&& (4294967295 : BitVec 64)) + ((a0 &&& (4294967295 : BitVec 64)) * (a1 >>> 32))) >>> 32), a0 * a1)
def math_bits_Mul (a0 : BitVec 64) (a1 : BitVec 64) : Option ((BitVec 64) × (BitVec 64)) :=
 (math_bits_Mul64 a0 a1).bind fun r1 =>
 some (r1.1, r1.2)
def slices_Repeat_bool_bool_B0 (z20 : Int × (List Bool)) : Option (Ctl (Int × (List Bool)) (List Bool)) :=
 bif decide (z20.1 < (z20.2.length : Int)) then ((cutL z20.2 z20.1 (z20.2.length : Int)).bind fun m27 =>
 (cutL z20.2 0 z20.1).bind fun m31 =>
 Let (copyL z20.2 ((z20.1 : Int).toNat) (((z20.2.length : Int) : Int).toNat) m31) fun p35 =>
 Let p35 fun l39 =>
 some (.go (w64 (z20.1 + (copyN ((z20.1 : Int).toNat) (((z20.2.length : Int) : Int).toNat) m31)), l39))) else
 some (.brk (z20.1, z20.2))
def slices_Repeat_bool_bool (fu : Nat) (a0 : List Bool) (a1 : Int) : Option (List Bool) :=
 bif decide (a1 < (0 : Int)) then (none) else
 (math_bits_Mul (BitVec.ofInt 64 (a0.length : Int)) (BitVec.ofInt 64 a1)).bind fun r3 =>
 (bif decide ((r3.1.toNat : Int) > ((0 : BitVec 64).toNat : Int)) then (some true) else
 some (decide ((r3.2.toNat : Int) > ((9223372036854775807 : BitVec 64).toNat : Int)))).bind fun y8 =>
 bif y8 then (none) else
 (mkLen (w64 (r3.2.toNat : Int))).bind fun n13 =>
 Let (copyL (List.replicate n13 false) 0 ((List.replicate n13 false).length) a0) fun p18 =>
 andThen (whileM (slices_Repeat_bool_bool_B0) fu (copyN 0 ((List.replicate n13 false).length) a0, p18)) fun (y21, l23) =>
 some l23
def ring_send_B0 (a0 : List Int) (a1 : Int) (a2 : Int) (a3 : Int) (z1 : Int) : Option (Ctl Int (Int × Bool)) :=
 bif decide (z1 ≤ a3) then ((nz (a0.length : Int)).bind fun u6 =>
 (nz (a0.length : Int)).bind fun u8 =>
 bif ((w64 (((w64 (a1 + (w64 (a2 * z1)))).tmod (a0.length : Int) : Int) + (a0.length : Int))).tmod (a0.length : Int) : Int) == a1 then (some (.ret (z1, true))) else
 (lat a0 ((w64 (((w64 (a1 + (w64 (a2 * z1)))).tmod (a0.length : Int) : Int) + (a0.length : Int))).tmod (a0.length : Int) : Int)).bind fun x11 =>
 (lat a0 a1).bind fun x14 =>
 bif decide (x11 > x14) then (some (.ret (z1, false))) else
 some (.go (w64 (z1 + (1 : Int))))) else
 some (.brk z1)
def ring_send (fu : Nat) (a0 : List Int) (a1 : Int) (a2 : Int) (a3 : Int) : Option (Int × Bool) :=
 andThen (whileM (ring_send_B0 a0 a1 a2 a3) fu (1 : Int)) fun y2 =>
 some (w64 ((2 : Int) * a3), true)
def slices_Index_bool_bool_B0 (a0 : List Bool) (a1 : Bool) (i1 : Nat) (z1 : Unit) : Option (Ctl Unit Int) :=
 (lat a0 (i1 : Int)).bind fun x4 =>
 bif a1 == x4 then (some (.ret (i1 : Int))) else
 some (.go ())
def slices_Index_bool_bool (a0 : List Bool) (a1 : Bool) : Option Int :=
 andThen (rangeM (slices_Index_bool_bool_B0 a0 a1) a0.length 0 ()) fun _ =>
 some (-1 : Int)
def ring_Halves_B2 (fu : Nat) (a0 : List Int) (y16 : Int) (i21 : Nat) (z21 : Int × (List Bool)) : Option (Int × (List Bool)) :=
 (lat z21.2 (i21 : Int)).bind fun x27 =>
 bif !x27 then (some (z21.1, z21.2)) else
 (ring_send fu a0 (i21 : Int) (1 : Int) y16).bind fun r31 =>
 (ring_send fu a0 (i21 : Int) (-1 : Int) y16).bind fun r35 =>
 (bif r31.2 then (some r35.2) else
 some false).bind fun y40 =>
 (lat z21.2 (i21 : Int)).bind fun x44 =>
 Let (z21.2.set (i21 : Int).toNat y40) fun p47 =>
 some (w64 (z21.1 + (w64 (r31.1 + r35.1))), p47)
def ring_Halves_B0 (fu : Nat) (a0 : List Int) (z14 : Int × Int × (List Bool)) : Option (Ctl (Int × Int × (List Bool)) (Int × Int × Int)) :=
 (rangeF (ring_Halves_B2 fu a0 z14.2.1) z14.2.2.length 0 (z14.1, z14.2.2)).bind fun (y22, l24) =>
 bif decide (z14.2.1 ≥ (a0.length : Int)) then ((slices_Index_bool_bool l24 true).bind fun r50 =>
 some (.ret (r50, y22, (0 : Int)))) else
 some (.go (y22, w64 (z14.2.1 * (2 : Int)), l24))
def ring_Halves (fu : Nat) (a0 : List Int) : Option (Int × Int × Int) :=
 (ring_Check a0).bind fun r1 =>
 bif r1 != (0 : Int) then (some ((0 : Int), (0 : Int), r1)) else
 (slices_Repeat_bool_bool fu ([true] : List Bool) (a0.length : Int)).bind fun r8 =>
 andThen (whileM (ring_Halves_B0 fu a0) fu ((0 : Int), (1 : Int), r8)) fun (y15, y16, l18) =>
 none
def partref_Round_B4 (a0 : List Int) (l16 : List Token) (i22 : Nat) (z22 : Int × Int × (List Token)) : Option (Int × Int × (List Token)) :=
 (lat l16 (i22 : Int)).bind fun x29 =>
 (nz (a0.length : Int)).bind fun u34 =>
 Let ({ x29 with at_ := ((w64 (x29.at_ + (1 : Int))).tmod (a0.length : Int) : Int) } : Token) fun p36 =>
 bif p36.at_ == p36.of then (some (w64 (z22.1 + (1 : Int)), p36.of, z22.2.2)) else
 (lat a0 p36.of).bind fun x39 =>
 (lat a0 p36.at_).bind fun x42 =>
 bif decide (x39 > x42) then ((room z22.2.2 ([p36] : List Token)).bind fun u48 =>
 some (w64 (z22.1 + (1 : Int)), z22.2.1, z22.2.2 ++ ([p36] : List Token))) else
 some (w64 (z22.1 + (1 : Int)), z22.2.1, z22.2.2)
def partref_Round_B2 (a0 : List Int) (z12 : Int × Int × (List Token)) : Option (Ctl (Int × Int × (List Token)) (Int × Int)) :=
 bif decide ((z12.2.2.length : Int) > (0 : Int)) then ((rangeF (partref_Round_B4 a0 z12.2.2) z12.2.2.length 0 (z12.1, z12.2.1, ([] : List Token))).bind fun (y23, y24, l26) =>
 some (.go (y23, y24, l26))) else
 some (.brk (z12.1, z12.2.1, z12.2.2))
def partref_Round_B0 (i2 : Nat) (z2 : (List Token)) : Option (List Token) :=
 (room z2 ([({ Token.zero with of := (i2 : Int), at_ := (i2 : Int) } : Token)] : List Token)).bind fun u9 =>
 some (z2 ++ ([({ Token.zero with of := (i2 : Int), at_ := (i2 : Int) } : Token)] : List Token))
def partref_Round (fu : Nat) (a0 : List Int) : Option (Int × Int) :=
 (rangeF (partref_Round_B0) a0.length 0 ([] : List Token)).bind fun l4 =>
 andThen (whileM (partref_Round_B2 a0) fu ((0 : Int), (-1 : Int), l4)) fun (y13, y14, l16) =>
 some (y14, y13)
def partref_Halves_B9 (l48 : List Int) (i53 : Nat) (z53 : (List Int)) : Option (List Int) :=
 (lat l48 (i53 : Int)).bind fun x58 =>
 bif x58 == (2 : Int) then ((room z53 ([(i53 : Int)] : List Int)).bind fun u64 =>
 some (z53 ++ ([(i53 : Int)] : List Int))) else
 some z53
def partref_Halves_B6 (a0 : List Int) (y21 : Int) (z43 : Int × (List Token) × (List Int)) : Option (Ctl (Int × (List Token) × (List Int)) (Ctl (Int × (List Int) × Int) (Int × Int))) :=
 bif decide ((z43.2.1.length : Int) > (0 : Int)) then ((lat z43.2.1 (0 : Int)).bind fun x72 =>
 (cutL z43.2.1 (1 : Int) (z43.2.1.length : Int)).bind fun m77 =>
 (nz (a0.length : Int)).bind fun u82 =>
 Let ({ x72 with at_ := ((w64 ((w64 (x72.at_ + x72.way)) + (a0.length : Int))).tmod (a0.length : Int) : Int) } : Token) fun p84 =>
 Let ({ p84 with left := w64 (p84.left - (1 : Int)) } : Token) fun p86 =>
 bif p86.at_ == p86.of then ((lat z43.2.2 p86.of).bind fun x89 =>
 (lat z43.2.2 p86.of).bind fun x92 =>
 Let (z43.2.2.set p86.of.toNat (w64 (x89 + (1 : Int)))) fun p95 =>
 some (.go (w64 (z43.1 + (1 : Int)), m77, p95))) else
 (lat a0 p86.at_).bind fun x97 =>
 (lat a0 p86.of).bind fun x100 =>
 bif decide (x97 > x100) then (some (.go (w64 (z43.1 + (1 : Int)), m77, z43.2.2))) else
 bif p86.left == (0 : Int) then ((lat z43.2.2 p86.of).bind fun x110 =>
 (lat z43.2.2 p86.of).bind fun x113 =>
 Let (z43.2.2.set p86.of.toNat (w64 (x110 + (1 : Int)))) fun p116 =>
 some (.go (w64 ((w64 (z43.1 + (1 : Int))) + y21), m77, p116))) else
 (room m77 ([p86] : List Token)).bind fun u107 =>
 some (.go (w64 (z43.1 + (1 : Int)), m77 ++ ([p86] : List Token), z43.2.2))) else
 some (.brk (z43.1, z43.2.1, z43.2.2))
def partref_Halves_B4 (l19 : List Int) (y21 : Int) (i30 : Nat) (z30 : (List Token)) : Option (List Token) :=
 (lat l19 (i30 : Int)).bind fun x35 =>
 (room z30 ([({ Token.zero with of := x35, at_ := x35, way := (1 : Int), left := y21 } : Token), ({ Token.zero with of := x35, at_ := x35, way := (-1 : Int), left := y21 } : Token)] : List Token)).bind fun u40 =>
 some (z30 ++ ([({ Token.zero with of := x35, at_ := x35, way := (1 : Int), left := y21 } : Token), ({ Token.zero with of := x35, at_ := x35, way := (-1 : Int), left := y21 } : Token)] : List Token))
def partref_Halves_B2 (fu : Nat) (a0 : List Int) (z16 : Int × (List Int) × Int) : Option (Ctl (Int × (List Int) × Int) (Int × Int)) :=
 (mkLen (a0.length : Int)).bind fun n24 =>
 (rangeF (partref_Halves_B4 z16.2.1 z16.2.2) z16.2.1.length 0 ([] : List Token)).bind fun l32 =>
 andThen (whileM (partref_Halves_B6 a0 z16.2.2) fu (z16.1, l32, (List.replicate n24 (0 : Int)))) fun (y44, l46, l48) =>
 (rangeF (partref_Halves_B9 l48) l48.length 0 ([] : List Int)).bind fun l55 =>
 bif decide (z16.2.2 ≥ (a0.length : Int)) then ((lat l55 (0 : Int)).bind fun x68 =>
 some (.ret (x68, y44))) else
 some (.go (y44, l55, w64 (z16.2.2 * (2 : Int))))
def partref_Halves_B0 (i6 : Nat) (z6 : (List Int)) : Option (List Int) :=
 (lat z6 (i6 : Int)).bind fun x11 =>
 Let (z6.set (i6 : Int).toNat (i6 : Int)) fun p14 =>
 some p14
def partref_Halves (fu : Nat) (a0 : List Int) : Option (Int × Int) :=
 (mkLen (a0.length : Int)).bind fun n1 =>
 (rangeF (partref_Halves_B0) ((List.replicate n1 (0 : Int)).length) 0 (List.replicate n1 (0 : Int))).bind fun l8 =>
 andThen (whileM (partref_Halves_B2 fu a0) fu ((0 : Int), l8, (1 : Int))) fun (y17, l19, y21) =>
 none
def partlaw_RingSays (fu : Nat) (a0 : List Int) : Option Bool :=
 (partref_RingErr a0).bind fun r1 =>
 (ring_Round fu a0).bind fun r5 =>
 (ring_Halves fu a0).bind fun r9 =>
 (ring_Check a0).bind fun r13 =>
 bif r13 != r1 then (some false) else
 bif r1 != (0 : Int) then ((bif r5.1 == (0 : Int) then (some (r5.2.1 == (0 : Int))) else
 some false).bind fun y20 =>
 (bif y20 then (some (r5.2.2 == r1)) else
 some false).bind fun y25 =>
 (bif y25 then (some (r9.1 == (0 : Int))) else
 some false).bind fun y30 =>
 (bif y30 then (some (r9.2.1 == (0 : Int))) else
 some false).bind fun y35 =>
 (bif y35 then (some (r9.2.2 == r1)) else
 some false).bind fun y40 =>
 some y40) else
 (partref_Round fu a0).bind fun r44 =>
 (partref_Halves fu a0).bind fun r48 =>
 (bif r5.1 == r44.1 then (some (r5.2.1 == r44.2)) else
 some false).bind fun y53 =>
 (bif y53 then (some (r5.2.2 == (0 : Int))) else
 some false).bind fun y58 =>
 (bif y58 then (some (r9.1 == r48.1)) else
 some false).bind fun y63 =>
 (bif y63 then (some (r9.2.1 == r48.2)) else
 some false).bind fun y68 =>
 (bif y68 then (some (r9.2.2 == (0 : Int))) else
 some false).bind fun y73 =>
 some y73
end Go.Proofs.Ytobikknjaomalaa
