/-
  What the functions compute, typed; printed by a program.
-/
import Derived.Test.YtclmlddmgccfjaaGoI
import Derived.Test.YtclmlddmgccfjaaGoM
import Derived.Test.YtclmlddmgccfjaaGoS
namespace Go.Proofs.Ytclmlddmgccfjaa
open Go.RowKit Enc
set_option linter.unusedVariables false
set_option linter.unusedSimpArgs false
structure Event where
  Proc : Int
  Kind : Int
  Msg : Int
instance : DecidableEq Event := fun a b => decidable_of_iff (a.Proc = b.Proc ∧ a.Kind = b.Kind ∧ a.Msg = b.Msg) (by cases a; cases b; simp)
def Event.zero : Event := ⟨(0 : Int), (0 : Int), (0 : Int)⟩
instance : Enc Event := ⟨fun p => enc p.Proc ++ (enc p.Kind ++ (enc p.Msg)), 3, fun p => by simp only [List.length_append, Enc.len]; rfl, fun p => by simp only [List.all_append, Enc.one, Bool.and_self]⟩
theorem Event.get_Proc {p : Event} {k : Nat} {ch : List Value} (h : Get (enc p.Proc) k ch) : Get (enc p) (0 + k) ch := Get.off (Get.left h) (by omega)
theorem Event.put_Proc {p : Event} {k : Nat} {vs : List Value} {y : Int} (h : Put (enc p.Proc) k vs (enc y)) : Put (enc p) (0 + k) vs (enc ({ p with Proc := y } : Event)) := Put.off (cs' := enc ({ p with Proc := y } : Event)) (Put.left h) (by omega)
theorem Event.get_Kind {p : Event} {k : Nat} {ch : List Value} (h : Get (enc p.Kind) k ch) : Get (enc p) (1 + k) ch := Get.off (Get.right (m := 1) (Enc.len _) (Get.left h)) (by omega)
theorem Event.put_Kind {p : Event} {k : Nat} {vs : List Value} {y : Int} (h : Put (enc p.Kind) k vs (enc y)) : Put (enc p) (1 + k) vs (enc ({ p with Kind := y } : Event)) := Put.off (cs' := enc ({ p with Kind := y } : Event)) (Put.right (m := 1) (Enc.len _) (Put.left h)) (by omega)
theorem Event.get_Msg {p : Event} {k : Nat} {ch : List Value} (h : Get (enc p.Msg) k ch) : Get (enc p) (2 + k) ch := Get.off (Get.right (m := 1) (Enc.len _) (Get.right (m := 1) (Enc.len _) h)) (by omega)
theorem Event.put_Msg {p : Event} {k : Nat} {vs : List Value} {y : Int} (h : Put (enc p.Msg) k vs (enc y)) : Put (enc p) (2 + k) vs (enc ({ p with Msg := y } : Event)) := Put.off (cs' := enc ({ p with Msg := y } : Event)) (Put.right (m := 1) (Enc.len _) (Put.right (m := 1) (Enc.len _) h)) (by omega)
instance : Rng Event := ⟨fun p => Rng.ok p.Proc ∧ Rng.ok p.Kind ∧ Rng.ok p.Msg⟩
structure Checker where
  sender : Vector Int 30
  taken : Vector (Vector Bool 6) 30
instance : DecidableEq Checker := fun a b => decidable_of_iff (a.sender = b.sender ∧ a.taken = b.taken) (by cases a; cases b; simp)
def Checker.zero : Checker := ⟨(Vector.replicate 30 (0 : Int)), (Vector.replicate 30 (Vector.replicate 6 false))⟩
instance : Enc Checker := ⟨fun p => enc p.sender ++ (enc p.taken), 210, fun p => by simp only [List.length_append, Enc.len]; rfl, fun p => by simp only [List.all_append, Enc.one, Bool.and_self]⟩
theorem Checker.get_sender {p : Checker} {k : Nat} {ch : List Value} (h : Get (enc p.sender) k ch) : Get (enc p) (0 + k) ch := Get.off (Get.left h) (by omega)
theorem Checker.put_sender {p : Checker} {k : Nat} {vs : List Value} {y : Vector Int 30} (h : Put (enc p.sender) k vs (enc y)) : Put (enc p) (0 + k) vs (enc ({ p with sender := y } : Checker)) := Put.off (cs' := enc ({ p with sender := y } : Checker)) (Put.left h) (by omega)
theorem Checker.get_taken {p : Checker} {k : Nat} {ch : List Value} (h : Get (enc p.taken) k ch) : Get (enc p) (30 + k) ch := Get.off (Get.right (m := 30) (Enc.len _) h) (by omega)
theorem Checker.put_taken {p : Checker} {k : Nat} {vs : List Value} {y : Vector (Vector Bool 6) 30} (h : Put (enc p.taken) k vs (enc y)) : Put (enc p) (30 + k) vs (enc ({ p with taken := y } : Checker)) := Put.off (cs' := enc ({ p with taken := y } : Checker)) (Put.right (m := 30) (Enc.len _) h) (by omega)
instance : Rng Checker := ⟨fun p => Rng.ok p.sender ∧ Rng.ok p.taken⟩
structure Pair where
  A : Int
  B : Int
instance : DecidableEq Pair := fun a b => decidable_of_iff (a.A = b.A ∧ a.B = b.B) (by cases a; cases b; simp)
def Pair.zero : Pair := ⟨(0 : Int), (0 : Int)⟩
instance : Enc Pair := ⟨fun p => enc p.A ++ (enc p.B), 2, fun p => by simp only [List.length_append, Enc.len]; rfl, fun p => by simp only [List.all_append, Enc.one, Bool.and_self]⟩
theorem Pair.get_A {p : Pair} {k : Nat} {ch : List Value} (h : Get (enc p.A) k ch) : Get (enc p) (0 + k) ch := Get.off (Get.left h) (by omega)
theorem Pair.put_A {p : Pair} {k : Nat} {vs : List Value} {y : Int} (h : Put (enc p.A) k vs (enc y)) : Put (enc p) (0 + k) vs (enc ({ p with A := y } : Pair)) := Put.off (cs' := enc ({ p with A := y } : Pair)) (Put.left h) (by omega)
theorem Pair.get_B {p : Pair} {k : Nat} {ch : List Value} (h : Get (enc p.B) k ch) : Get (enc p) (1 + k) ch := Get.off (Get.right (m := 1) (Enc.len _) h) (by omega)
theorem Pair.put_B {p : Pair} {k : Nat} {vs : List Value} {y : Int} (h : Put (enc p.B) k vs (enc y)) : Put (enc p) (1 + k) vs (enc ({ p with B := y } : Pair)) := Put.off (cs' := enc ({ p with B := y } : Pair)) (Put.right (m := 1) (Enc.len _) h) (by omega)
instance : Rng Pair := ⟨fun p => Rng.ok p.A ∧ Rng.ok p.B⟩
def partref_HistoryErr_B2 (x5 : Event) (m26 : List Event) (i31 : Nat) (z31 : Int × Bool) : Option (Int × Bool) :=
 (lat m26 (i31 : Int)).bind fun x36 =>
 ((bif x36.Kind == (2 : Int) then (some (x36.Msg == x5.Msg)) else
 some false).bind fun y44 =>
 bif y44 then (some x36.Proc) else
 some z31.1).bind fun y41 =>
 (bif z31.2 then (some true) else
 some (decide (x36 = x5))).bind fun y52 =>
 some (y41, y52)
def partref_HistoryErr_B0 (a0 : List Event) (i2 : Nat) (z2 : Unit) : Option (Ctl Unit Int) :=
 (lat a0 (i2 : Int)).bind fun x5 =>
 (bif decide (x5.Proc < (0 : Int)) then (some true) else
 some (decide (x5.Proc > (5 : Int)))).bind fun y11 =>
 (bif y11 then (some true) else
 some (decide (x5.Msg < (0 : Int)))).bind fun y16 =>
 (bif y16 then (some true) else
 some (decide (x5.Msg > (29 : Int)))).bind fun y21 =>
 bif y21 then (some (.ret (1 : Int))) else
 (cutL a0 0 (i2 : Int)).bind fun m26 =>
 (rangeF (partref_HistoryErr_B2 x5 m26) m26.length 0 ((-1 : Int), false)).bind fun (y32, y33) =>
 (bif x5.Kind == (1 : Int) then (some (x5.Msg == (0 : Int))) else
 some false).bind fun y57 =>
 bif y57 then (some (.go ())) else
 (bif x5.Kind == (2 : Int) then (some (decide (y32 < (0 : Int)))) else
 some false).bind fun y63 =>
 bif y63 then (some (.go ())) else
 (bif x5.Kind == (3 : Int) then (some (decide (y32 ≥ (0 : Int)))) else
 some false).bind fun y69 =>
 (bif y69 then (some (y32 != x5.Proc)) else
 some false).bind fun y74 =>
 (bif y74 then (some (!y33)) else
 some false).bind fun y79 =>
 bif y79 then (some (.go ())) else
 some (.ret (4 : Int))
def partref_HistoryErr (a0 : List Event) : Option Int :=
 bif decide ((a0.length : Int) > (60 : Int)) then (some (2 : Int)) else
 andThen (rangeM (partref_HistoryErr_B0 a0) a0.length 0 ()) fun _ =>
 some (0 : Int)
def stamp_in (a0 : Int) (a1 : Int) (a2 : Int) : Option Bool :=
 (bif decide (a0 ≥ a1) then (some (decide (a0 ≤ a2))) else
 some false).bind fun y2 =>
 some y2
def stamp_checker_event (a0 : Checker) (a1 : Event) : Option (Checker × Int) :=
 (stamp_in a1.Proc (0 : Int) (5 : Int)).bind fun r4 =>
 (bif !r4 then (some true) else
 (stamp_in a1.Msg (0 : Int) (29 : Int)).bind fun r11 =>
 some (!r11)).bind fun y9 =>
 bif y9 then (some (a0, (1 : Int))) else
 andThen (bif a1.Kind == (1 : Int) then (bif a1.Msg != (0 : Int) then (some (.inr (a0, (4 : Int)))) else
 some (.inl a0)) else
 bif a1.Kind == (2 : Int) then ((vat a0.sender a1.Msg).bind fun x23 =>
 bif decide (x23 > (0 : Int)) then (some (.inr (a0, (4 : Int)))) else
 (vat a0.sender a1.Msg).bind fun x27 =>
 Let ({ a0 with sender := a0.sender.setIfInBounds a1.Msg.toNat (w64 (a1.Proc + (1 : Int))) } : Checker) fun p30 =>
 some (.inl p30)) else
 bif a1.Kind == (3 : Int) then ((vat a0.sender a1.Msg).bind fun x33 =>
 (bif x33 == (0 : Int) then (some true) else
 (vat a0.sender a1.Msg).bind fun x39 =>
 some (x39 == (w64 (a1.Proc + (1 : Int))))).bind fun y37 =>
 (bif y37 then (some true) else
 (vat a0.taken a1.Msg).bind fun x45 =>
 (vat x45 a1.Proc).bind fun x48 =>
 some x48).bind fun y43 =>
 bif y43 then (some (.inr (a0, (4 : Int)))) else
 (vat a0.taken a1.Msg).bind fun x52 =>
 (vat x52 a1.Proc).bind fun x55 =>
 Let ({ a0 with taken := a0.taken.setIfInBounds a1.Msg.toNat (x52.setIfInBounds a1.Proc.toNat true) } : Checker) fun p58 =>
 some (.inl p58)) else
 some (.inr (a0, (4 : Int)))) fun y18 =>
 some (y18, (0 : Int))
def stamp_Check_B0 (a0 : List Event) (i4 : Nat) (z4 : Checker) : Option (Ctl Checker Int) :=
 (lat a0 (i4 : Int)).bind fun x8 =>
 (stamp_checker_event z4 x8).bind fun r13 =>
 bif r13.2 != (0 : Int) then (some (.ret r13.2)) else
 some (.go r13.1)
def stamp_Check (a0 : List Event) : Option Int :=
 bif decide ((a0.length : Int) > (60 : Int)) then (some (2 : Int)) else
 andThen (rangeM (stamp_Check_B0 a0) a0.length 0 Checker.zero) fun y5 =>
 some (0 : Int)
def stamp_Stamps_B0 (a0 : List Event) (i13 : Nat) (z13 : (Vector Int 30) × (Vector Int 6) × (List Int)) : Option ((Vector Int 30) × (Vector Int 6) × (List Int)) :=
 (lat a0 (i13 : Int)).bind fun x20 =>
 (vat z13.2.1 x20.Proc).bind fun x25 =>
 (bif x20.Kind == (3 : Int) then ((vat z13.1 x20.Msg).bind fun x31 =>
 some (max x25 x31)) else
 some x25).bind fun y28 =>
 (vat z13.2.1 x20.Proc).bind fun x36 =>
 Let (z13.2.1.setIfInBounds x20.Proc.toNat (w64 (y28 + (1 : Int)))) fun p39 =>
 (bif x20.Kind == (2 : Int) then ((vat z13.1 x20.Msg).bind fun x44 =>
 Let (z13.1.setIfInBounds x20.Msg.toNat (w64 (y28 + (1 : Int)))) fun p47 =>
 some p47) else
 some z13.1).bind fun y41 =>
 (room z13.2.2 ([w64 (y28 + (1 : Int))] : List Int)).bind fun u53 =>
 some (y41, p39, z13.2.2 ++ ([w64 (y28 + (1 : Int))] : List Int))
def stamp_Stamps (a0 : List Event) : Option ((List Int) × Int) :=
 (stamp_Check a0).bind fun r2 =>
 bif r2 != (0 : Int) then (some (([] : List Int), r2)) else
 (rangeF (stamp_Stamps_B0 a0) a0.length 0 ((Vector.replicate 30 (0 : Int)), (Vector.replicate 6 (0 : Int)), ([] : List Int))).bind fun (y14, y15, l17) =>
 some (l17, (0 : Int))
def cmp_isNaN_int (a0 : Int) : Option Bool :=
 some (a0 != a0)
def cmp_Compare_int (a0 : Int) (a1 : Int) : Option Int :=
 (cmp_isNaN_int a0).bind fun r1 =>
 (cmp_isNaN_int a1).bind fun r5 =>
 bif r1 then (bif r5 then (some (0 : Int)) else
 some (-1 : Int)) else
 bif r5 then (some (1 : Int)) else
 bif decide (a0 < a1) then (some (-1 : Int)) else
 bif decide (a0 > a1) then (some (1 : Int)) else
 some (0 : Int)
def cmp_Or_int_B0 (a0 : List Int) (i1 : Nat) (z1 : Unit) : Option (Ctl Unit Int) :=
 (lat a0 (i1 : Int)).bind fun x4 =>
 bif x4 != (0 : Int) then (some (.ret x4)) else
 some (.go ())
def cmp_Or_int (a0 : List Int) : Option Int :=
 andThen (rangeM (cmp_Or_int_B0 a0) a0.length 0 ()) fun _ =>
 some (0 : Int)
def stamp_Total_1 (a0 : Int) (a1 : Int) (a2 : List Int) (a3 : List Event) : Option Int :=
 (lat a2 a0).bind fun x3 =>
 (lat a2 a1).bind fun x6 =>
 (cmp_Compare_int x3 x6).bind fun r9 =>
 (lat a3 a0).bind fun x13 =>
 (lat a3 a1).bind fun x16 =>
 (cmp_Compare_int x13.Proc x16.Proc).bind fun r19 =>
 (cmp_Or_int ([r9, r19] : List Int)).bind fun r25 =>
 some r25
def slices_insertionSortCmpFunc_int_Total_1_B2 (a1 : Int) (a3_c0 : List Int) (a3_c1 : List Event) (z10 : Int × (List Int)) : Option (Ctl (Int × (List Int)) (Ctl (Int × (List Int)) (List Int))) :=
 (bif decide (z10.1 > a1) then ((lat z10.2 z10.1).bind fun x18 =>
 (lat z10.2 (w64 (z10.1 - (1 : Int)))).bind fun x21 =>
 (stamp_Total_1 x18 x21 a3_c0 a3_c1).bind fun r24 =>
 some (decide (r24 < (0 : Int)))) else
 some false).bind fun y16 =>
 bif y16 then ((lat z10.2 (w64 (z10.1 - (1 : Int)))).bind fun x29 =>
 (lat z10.2 z10.1).bind fun x32 =>
 (lat z10.2 z10.1).bind fun x35 =>
 Let (z10.2.set z10.1.toNat x29) fun p38 =>
 Let p38 fun l41 =>
 (lat l41 (w64 (z10.1 - (1 : Int)))).bind fun x58 =>
 Let (l41.set (w64 (z10.1 - (1 : Int))).toNat x32) fun p61 =>
 some (.go (w64 (z10.1 - (1 : Int)), p61))) else
 some (.brk (z10.1, z10.2))
def slices_insertionSortCmpFunc_int_Total_1_B0 (fu : Nat) (a1 : Int) (a2 : Int) (a3_c0 : List Int) (a3_c1 : List Event) (z4 : Int × (List Int)) : Option (Ctl (Int × (List Int)) (List Int)) :=
 bif decide (z4.1 < a2) then (andThen (whileM (slices_insertionSortCmpFunc_int_Total_1_B2 a1 a3_c0 a3_c1) fu (z4.1, z4.2)) fun (y11, l12) =>
 some (.go (w64 (z4.1 + (1 : Int)), l12))) else
 some (.brk (z4.1, z4.2))
def slices_insertionSortCmpFunc_int_Total_1 (fu : Nat) (a0 : List Int) (a1 : Int) (a2 : Int) (a3_c0 : List Int) (a3_c1 : List Event) : Option (List Int) :=
 andThen (whileM (slices_insertionSortCmpFunc_int_Total_1_B0 fu a1 a2 a3_c0 a3_c1) fu (w64 (a1 + (1 : Int)), a0)) fun (y5, l6) =>
 some l6
def slices_swapRangeCmpFunc_int_Total_1_B0 (a1 : Int) (a2 : Int) (a3 : Int) (z4 : Int × (List Int)) : Option (Ctl (Int × (List Int)) (List Int)) :=
 bif decide (z4.1 < a3) then ((lat z4.2 (w64 (a2 + z4.1))).bind fun x10 =>
 (lat z4.2 (w64 (a1 + z4.1))).bind fun x13 =>
 (lat z4.2 (w64 (a1 + z4.1))).bind fun x16 =>
 Let (z4.2.set (w64 (a1 + z4.1)).toNat x10) fun p19 =>
 Let p19 fun l22 =>
 (lat l22 (w64 (a2 + z4.1))).bind fun x39 =>
 Let (l22.set (w64 (a2 + z4.1)).toNat x13) fun p42 =>
 some (.go (w64 (z4.1 + (1 : Int)), p42))) else
 some (.brk (z4.1, z4.2))
def slices_swapRangeCmpFunc_int_Total_1 (fu : Nat) (a0 : List Int) (a1 : Int) (a2 : Int) (a3 : Int) (a4_c0 : List Int) (a4_c1 : List Event) : Option (List Int) :=
 andThen (whileM (slices_swapRangeCmpFunc_int_Total_1_B0 a1 a2 a3) fu ((0 : Int), a0)) fun (y5, l6) =>
 some l6
def slices_rotateCmpFunc_int_Total_1_B0 (fu : Nat) (a2 : Int) (a4_c0 : List Int) (a4_c1 : List Event) (z4 : Int × Int × (List Int)) : Option (Ctl (Int × Int × (List Int)) (List Int)) :=
 bif z4.1 != z4.2.1 then (bif decide (z4.1 > z4.2.1) then ((slices_swapRangeCmpFunc_int_Total_1 fu z4.2.2 (w64 (a2 - z4.1)) a2 z4.2.1 a4_c0 a4_c1).bind fun r16 =>
 some (.go (w64 (z4.1 - z4.2.1), z4.2.1, r16))) else
 (slices_swapRangeCmpFunc_int_Total_1 fu z4.2.2 (w64 (a2 - z4.1)) (w64 ((w64 (a2 + z4.2.1)) - z4.1)) z4.1 a4_c0 a4_c1).bind fun r20 =>
 some (.go (z4.1, w64 (z4.2.1 - z4.1), r20))) else
 some (.brk (z4.1, z4.2.1, z4.2.2))
def slices_rotateCmpFunc_int_Total_1 (fu : Nat) (a0 : List Int) (a1 : Int) (a2 : Int) (a3 : Int) (a4_c0 : List Int) (a4_c1 : List Event) : Option (List Int) :=
 andThen (whileM (slices_rotateCmpFunc_int_Total_1_B0 fu a2 a4_c0 a4_c1) fu (w64 (a2 - a1), w64 (a3 - a2), a0)) fun (y5, y6, l7) =>
 (slices_swapRangeCmpFunc_int_Total_1 fu l7 (w64 (a2 - y5)) a2 y5 a4_c0 a4_c1).bind fun r11 =>
 some r11
def slices_symMergeCmpFunc_int_Total_1_B2 (y6 : Int) (z11 : Int × (List Int)) : Option (Ctl (Int × (List Int)) (List Int)) :=
 bif decide (z11.1 < (w64 (y6 - (1 : Int)))) then ((lat z11.2 (w64 (z11.1 + (1 : Int)))).bind fun x17 =>
 (lat z11.2 z11.1).bind fun x20 =>
 (lat z11.2 z11.1).bind fun x23 =>
 Let (z11.2.set z11.1.toNat x17) fun p26 =>
 Let p26 fun l29 =>
 (lat l29 (w64 (z11.1 + (1 : Int)))).bind fun x46 =>
 Let (l29.set (w64 (z11.1 + (1 : Int))).toNat x20) fun p49 =>
 some (.go (w64 (z11.1 + (1 : Int)), p49))) else
 some (.brk (z11.1, z11.2))
def slices_symMergeCmpFunc_int_Total_1_B0 (a0 : List Int) (a1 : Int) (a4_c0 : List Int) (a4_c1 : List Event) (z5 : Int × Int) : Option (Ctl (Int × Int) (List Int)) :=
 bif decide (z5.1 < z5.2) then ((lat a0 (w64 (((BitVec.ofInt 64 (w64 (z5.1 + z5.2))) >>> 1).toNat : Int))).bind fun x51 =>
 (lat a0 a1).bind fun x54 =>
 (stamp_Total_1 x51 x54 a4_c0 a4_c1).bind fun r57 =>
 bif decide (r57 < (0 : Int)) then (some (.go (w64 ((w64 (((BitVec.ofInt 64 (w64 (z5.1 + z5.2))) >>> 1).toNat : Int)) + (1 : Int)), z5.2))) else
 some (.go (z5.1, w64 (((BitVec.ofInt 64 (w64 (z5.1 + z5.2))) >>> 1).toNat : Int)))) else
 some (.brk (z5.1, z5.2))
def slices_symMergeCmpFunc_int_Total_1_B6 (y64 : Int) (z69 : Int × (List Int)) : Option (Ctl (Int × (List Int)) (List Int)) :=
 bif decide (z69.1 > y64) then ((lat z69.2 (w64 (z69.1 - (1 : Int)))).bind fun x75 =>
 (lat z69.2 z69.1).bind fun x78 =>
 (lat z69.2 z69.1).bind fun x81 =>
 Let (z69.2.set z69.1.toNat x75) fun p84 =>
 Let p84 fun l87 =>
 (lat l87 (w64 (z69.1 - (1 : Int)))).bind fun x104 =>
 Let (l87.set (w64 (z69.1 - (1 : Int))).toNat x78) fun p107 =>
 some (.go (w64 (z69.1 - (1 : Int)), p107))) else
 some (.brk (z69.1, z69.2))
def slices_symMergeCmpFunc_int_Total_1_B4 (a0 : List Int) (a2 : Int) (a4_c0 : List Int) (a4_c1 : List Event) (z63 : Int × Int) : Option (Ctl (Int × Int) (List Int)) :=
 bif decide (z63.1 < z63.2) then ((lat a0 a2).bind fun x109 =>
 (lat a0 (w64 (((BitVec.ofInt 64 (w64 (z63.1 + z63.2))) >>> 1).toNat : Int))).bind fun x112 =>
 (stamp_Total_1 x109 x112 a4_c0 a4_c1).bind fun r115 =>
 bif !(decide (r115 < (0 : Int))) then (some (.go (w64 ((w64 (((BitVec.ofInt 64 (w64 (z63.1 + z63.2))) >>> 1).toNat : Int)) + (1 : Int)), z63.2))) else
 some (.go (z63.1, w64 (((BitVec.ofInt 64 (w64 (z63.1 + z63.2))) >>> 1).toNat : Int)))) else
 some (.brk (z63.1, z63.2))
def slices_symMergeCmpFunc_int_Total_1_B8 (a0 : List Int) (a1 : Int) (a2 : Int) (a3 : Int) (a4_c0 : List Int) (a4_c1 : List Event) (z126 : Int × Int) : Option (Ctl (Int × Int) (List Int)) :=
 bif decide (z126.1 < z126.2) then ((lat a0 (w64 ((w64 ((w64 ((w64 (((BitVec.ofInt 64 (w64 (a1 + a3))) >>> 1).toNat : Int)) + a2)) - (1 : Int))) - (w64 (((BitVec.ofInt 64 (w64 (z126.1 + z126.2))) >>> 1).toNat : Int))))).bind fun x170 =>
 (lat a0 (w64 (((BitVec.ofInt 64 (w64 (z126.1 + z126.2))) >>> 1).toNat : Int))).bind fun x173 =>
 (stamp_Total_1 x170 x173 a4_c0 a4_c1).bind fun r176 =>
 bif !(decide (r176 < (0 : Int))) then (some (.go (w64 ((w64 (((BitVec.ofInt 64 (w64 (z126.1 + z126.2))) >>> 1).toNat : Int)) + (1 : Int)), z126.2))) else
 some (.go (z126.1, w64 (((BitVec.ofInt 64 (w64 (z126.1 + z126.2))) >>> 1).toNat : Int)))) else
 some (.brk (z126.1, z126.2))
def slices_symMergeCmpFunc_int_Total_1_R (fu : Nat) (rc : (List Int) → Int → Int → Int → (List Int) → (List Event) → Option (List Int)) (a0 : List Int) (a1 : Int) (a2 : Int) (a3 : Int) (a4_c0 : List Int) (a4_c1 : List Event) : Option (List Int) :=
 bif (w64 (a2 - a1)) == (1 : Int) then (andThen (whileM (slices_symMergeCmpFunc_int_Total_1_B0 a0 a1 a4_c0 a4_c1) fu (a2, a3)) fun (y6, y7) =>
 andThen (whileM (slices_symMergeCmpFunc_int_Total_1_B2 y6) fu (a1, a0)) fun (y12, l13) =>
 some l13) else
 bif (w64 (a3 - a2)) == (1 : Int) then (andThen (whileM (slices_symMergeCmpFunc_int_Total_1_B4 a0 a2 a4_c0 a4_c1) fu (a1, a2)) fun (y64, y65) =>
 andThen (whileM (slices_symMergeCmpFunc_int_Total_1_B6 y64) fu (a2, a0)) fun (y70, l71) =>
 some l71) else
 (bif decide (a2 > (w64 (((BitVec.ofInt 64 (w64 (a1 + a3))) >>> 1).toNat : Int))) then (some (w64 ((w64 ((w64 (((BitVec.ofInt 64 (w64 (a1 + a3))) >>> 1).toNat : Int)) + a2)) - a3), w64 (((BitVec.ofInt 64 (w64 (a1 + a3))) >>> 1).toNat : Int))) else
 some (a1, a2)).bind fun (y120, y121) =>
 andThen (whileM (slices_symMergeCmpFunc_int_Total_1_B8 a0 a1 a2 a3 a4_c0 a4_c1) fu (y120, y121)) fun (y127, y128) =>
 ((bif decide (y127 < a2) then (some (decide (a2 < (w64 ((w64 ((w64 (((BitVec.ofInt 64 (w64 (a1 + a3))) >>> 1).toNat : Int)) + a2)) - y127))))) else
 some false).bind fun y135 =>
 bif y135 then ((slices_rotateCmpFunc_int_Total_1 fu a0 y127 a2 (w64 ((w64 ((w64 (((BitVec.ofInt 64 (w64 (a1 + a3))) >>> 1).toNat : Int)) + a2)) - y127)) a4_c0 a4_c1).bind fun r140 =>
 some r140) else
 some a0).bind fun l132 =>
 ((bif decide (a1 < y127) then (some (decide (y127 < (w64 (((BitVec.ofInt 64 (w64 (a1 + a3))) >>> 1).toNat : Int))))) else
 some false).bind fun y149 =>
 bif y149 then ((rc l132 a1 y127 (w64 (((BitVec.ofInt 64 (w64 (a1 + a3))) >>> 1).toNat : Int)) a4_c0 a4_c1).bind fun r154 =>
 some r154) else
 some l132).bind fun l146 =>
 (bif decide ((w64 (((BitVec.ofInt 64 (w64 (a1 + a3))) >>> 1).toNat : Int)) < (w64 ((w64 ((w64 (((BitVec.ofInt 64 (w64 (a1 + a3))) >>> 1).toNat : Int)) + a2)) - y127))) then (some (decide ((w64 ((w64 ((w64 (((BitVec.ofInt 64 (w64 (a1 + a3))) >>> 1).toNat : Int)) + a2)) - y127)) < a3))) else
 some false).bind fun y161 =>
 bif y161 then ((rc l146 (w64 (((BitVec.ofInt 64 (w64 (a1 + a3))) >>> 1).toNat : Int)) (w64 ((w64 ((w64 (((BitVec.ofInt 64 (w64 (a1 + a3))) >>> 1).toNat : Int)) + a2)) - y127)) a3 a4_c0 a4_c1).bind fun r166 =>
 some r166) else
 some l146
def slices_symMergeCmpFunc_int_Total_1 : (fu : Nat) → (a0 : List Int) → (a1 : Int) → (a2 : Int) → (a3 : Int) → (a4_c0 : List Int) → (a4_c1 : List Event) → Option (List Int)
  | 0, _, _, _, _, _, _ => none
  | fu + 1, a0, a1, a2, a3, a4_c0, a4_c1 => slices_symMergeCmpFunc_int_Total_1_R fu (slices_symMergeCmpFunc_int_Total_1 fu) a0 a1 a2 a3 a4_c0 a4_c1
def slices_stableCmpFunc_int_Total_1_B4 (fu : Nat) (a1 : Int) (a2_c0 : List Int) (a2_c1 : List Event) (y16 : Int) (z21 : Int × Int × (List Int)) : Option (Ctl (Int × Int × (List Int)) (Ctl (Int × (List Int)) (List Int))) :=
 bif decide (z21.2.1 ≤ a1) then ((slices_symMergeCmpFunc_int_Total_1 fu z21.2.2 z21.1 (w64 (z21.1 + y16)) z21.2.1 a2_c0 a2_c1).bind fun r33 =>
 some (.go (z21.2.1, w64 (z21.2.1 + (w64 ((2 : Int) * y16))), r33))) else
 some (.brk (z21.1, z21.2.1, z21.2.2))
def slices_stableCmpFunc_int_Total_1_B2 (fu : Nat) (a1 : Int) (a2_c0 : List Int) (a2_c1 : List Event) (z15 : Int × (List Int)) : Option (Ctl (Int × (List Int)) (List Int)) :=
 bif decide (z15.1 < a1) then (andThen (whileM (slices_stableCmpFunc_int_Total_1_B4 fu a1 a2_c0 a2_c1 z15.1) fu ((0 : Int), w64 ((2 : Int) * z15.1), z15.2)) fun (y22, y23, l24) =>
 bif decide ((w64 (y22 + z15.1)) < a1) then ((slices_symMergeCmpFunc_int_Total_1 fu l24 y22 (w64 (y22 + z15.1)) a1 a2_c0 a2_c1).bind fun r29 =>
 some (.go (w64 (z15.1 * (2 : Int)), r29))) else
 some (.go (w64 (z15.1 * (2 : Int)), l24))) else
 some (.brk (z15.1, z15.2))
def slices_stableCmpFunc_int_Total_1_B0 (fu : Nat) (a1 : Int) (a2_c0 : List Int) (a2_c1 : List Event) (z4 : Int × Int × (List Int)) : Option (Ctl (Int × Int × (List Int)) (List Int)) :=
 bif decide (z4.2.1 ≤ a1) then ((slices_insertionSortCmpFunc_int_Total_1 fu z4.2.2 z4.1 z4.2.1 a2_c0 a2_c1).bind fun r37 =>
 some (.go (z4.2.1, w64 (z4.2.1 + (20 : Int)), r37))) else
 some (.brk (z4.1, z4.2.1, z4.2.2))
def slices_stableCmpFunc_int_Total_1 (fu : Nat) (a0 : List Int) (a1 : Int) (a2_c0 : List Int) (a2_c1 : List Event) : Option (List Int) :=
 andThen (whileM (slices_stableCmpFunc_int_Total_1_B0 fu a1 a2_c0 a2_c1) fu ((0 : Int), (20 : Int), a0)) fun (y5, y6, l7) =>
 (slices_insertionSortCmpFunc_int_Total_1 fu l7 y5 a1 a2_c0 a2_c1).bind fun r11 =>
 andThen (whileM (slices_stableCmpFunc_int_Total_1_B2 fu a1 a2_c0 a2_c1) fu ((20 : Int), r11)) fun (y16, l17) =>
 some l17
def slices_SortStableFunc_int_int_Total_1 (fu : Nat) (a0 : List Int) (a1_c0 : List Int) (a1_c1 : List Event) : Option (List Int) :=
 (slices_stableCmpFunc_int_Total_1 fu a0 (a0.length : Int) a1_c0 a1_c1).bind fun r4 =>
 some r4
def stamp_Total_B0 (i16 : Nat) (z16 : (List Int)) : Option (List Int) :=
 (room z16 ([(i16 : Int)] : List Int)).bind fun u23 =>
 some (z16 ++ ([(i16 : Int)] : List Int))
def stamp_Total (fu : Nat) (a0 : List Event) : Option ((List Int) × Int) :=
 (stamp_Stamps a0).bind fun r4 =>
 bif r4.2 != (0 : Int) then (some (([] : List Int), r4.2)) else
 (rangeF (stamp_Total_B0) a0.length 0 ([] : List Int)).bind fun l18 =>
 (slices_SortStableFunc_int_int_Total_1 fu l18 r4.1 a0).bind fun r26 =>
 some (r26, (0 : Int))
def stamp_Ahead_B4 (i16 : Nat) (i45 : Nat) (i78 : Nat) (z78 : (List (List Bool))) : Option (List (List Bool)) :=
 (lat z78 (i45 : Int)).bind fun x85 =>
 (lat x85 (i78 : Int)).bind fun x89 =>
 (lat z78 (i16 : Int)).bind fun x92 =>
 (lat z78 (i16 : Int)).bind fun x97 =>
 (lat x97 (i78 : Int)).bind fun x102 =>
 (bif x102 then (some true) else
 some x89).bind fun y106 =>
 (lat x92 (i78 : Int)).bind fun x108 =>
 Let (z78.set (i16 : Int).toNat (x92.set (i78 : Int).toNat y106)) fun p111 =>
 some p111
def stamp_Ahead_B4x (i16 : Nat) (i45 : Nat) (i145 : Nat) (z145 : (List (List Bool))) : Option (List (List Bool)) :=
 (lat z145 (i45 : Int)).bind fun x152 =>
 (lat x152 (i145 : Int)).bind fun x156 =>
 (lat z145 (i16 : Int)).bind fun x159 =>
 (lat z145 (i16 : Int)).bind fun x164 =>
 (lat x164 (i145 : Int)).bind fun x169 =>
 (bif x169 then (some true) else
 some x156).bind fun y173 =>
 (lat x159 (i145 : Int)).bind fun x175 =>
 Let (z145.set (i16 : Int).toNat (x159.set (i145 : Int).toNat y173)) fun p178 =>
 some p178
def stamp_Ahead_B2 (i16 : Nat) (x22 : Event) (m40 : List Event) (i45 : Nat) (z45 : (List (List Bool))) : Option (List (List Bool)) :=
 ((lat m40 (i45 : Int)).bind fun x55 =>
 bif x55.Proc != x22.Proc then ((bif x55.Kind == (2 : Int) then (some (x22.Kind == (3 : Int))) else
 some false).bind fun y118 =>
 (bif y118 then (some (x55.Msg == x22.Msg)) else
 some false).bind fun y123 =>
 bif !y123 then (some z45) else
 (lat z45 (i16 : Int)).bind fun x128 =>
 (lat x128 (i45 : Int)).bind fun x133 =>
 Let (z45.set (i16 : Int).toNat (x128.set (i45 : Int).toNat true)) fun p136 =>
 (lat p136 (i45 : Int)).bind fun x140 =>
 (rangeF (stamp_Ahead_B4x i16 i45) x140.length 0 p136).bind fun l146 =>
 some l146) else
 (lat z45 (i16 : Int)).bind fun x61 =>
 (lat x61 (i45 : Int)).bind fun x66 =>
 Let (z45.set (i16 : Int).toNat (x61.set (i45 : Int).toNat true)) fun p69 =>
 (lat p69 (i45 : Int)).bind fun x73 =>
 (rangeF (stamp_Ahead_B4 i16 i45) x73.length 0 p69).bind fun l79 =>
 some l79).bind fun l51 =>
 some l51
def stamp_Ahead_B8 (l17 : List (List Bool)) (i188 : Nat) (i193 : Nat) (z193 : (List Pair)) : Option (List Pair) :=
 (lat l17 (i193 : Int)).bind fun x198 =>
 (lat x198 (i188 : Int)).bind fun x203 =>
 bif x203 then ((room z193 ([({ Pair.zero with A := (i188 : Int), B := (i193 : Int) } : Pair)] : List Pair)).bind fun u209 =>
 some (z193 ++ ([({ Pair.zero with A := (i188 : Int), B := (i193 : Int) } : Pair)] : List Pair))) else
 some z193
def stamp_Ahead_B6 (a0 : List Event) (l17 : List (List Bool)) (i188 : Nat) (z188 : (List Pair)) : Option (List Pair) :=
 (rangeF (stamp_Ahead_B8 l17 i188) a0.length 0 z188).bind fun l195 =>
 some l195
def stamp_Ahead_B0 (a0 : List Event) (i16 : Nat) (z16 : (List (List Bool))) : Option (List (List Bool)) :=
 (lat a0 (i16 : Int)).bind fun x22 =>
 (mkLen (a0.length : Int)).bind fun n27 =>
 (lat z16 (i16 : Int)).bind fun x32 =>
 Let (z16.set (i16 : Int).toNat (List.replicate n27 false)) fun p37 =>
 (cutL a0 0 (i16 : Int)).bind fun m40 =>
 (rangeF (stamp_Ahead_B2 i16 x22 m40) m40.length 0 p37).bind fun l46 =>
 some l46
def stamp_Ahead (a0 : List Event) : Option ((List Pair) × Int) :=
 (stamp_Check a0).bind fun r2 =>
 bif r2 != (0 : Int) then (some (([] : List Pair), r2)) else
 (mkLen (a0.length : Int)).bind fun n8 =>
 (rangeF (stamp_Ahead_B0 a0) a0.length 0 (List.replicate n8 ([] : List Bool))).bind fun l17 =>
 (rangeF (stamp_Ahead_B6 a0 l17) a0.length 0 ([] : List Pair)).bind fun l190 =>
 some (l190, (0 : Int))
def partref_Closure_B4 (a1 : List Pair) (i11 : Nat) (x42 : Int) (i50 : Nat) (z50 : (List Int) × (List (List Bool))) : Option ((List Int) × (List (List Bool))) :=
 (lat a1 (i50 : Int)).bind fun x58 =>
 (bif x58.A == x42 then ((lat z50.2 (i11 : Int)).bind fun x66 =>
 (lat x66 x58.B).bind fun x71 =>
 some (!x71)) else
 some false).bind fun y64 =>
 bif y64 then ((lat z50.2 (i11 : Int)).bind fun x75 =>
 (lat x75 x58.B).bind fun x80 =>
 Let (z50.2.set (i11 : Int).toNat (x75.set x58.B.toNat true)) fun p83 =>
 (room z50.1 ([x58.B] : List Int)).bind fun u89 =>
 some (z50.1 ++ ([x58.B] : List Int), p83)) else
 some (z50.1, z50.2)
def partref_Closure_B2 (a1 : List Pair) (i11 : Nat) (z33 : (List Int) × (List (List Bool))) : Option (Ctl ((List Int) × (List (List Bool))) (List (List Bool))) :=
 bif decide ((z33.1.length : Int) > (0 : Int)) then ((lat z33.1 (0 : Int)).bind fun x42 =>
 (cutL z33.1 (1 : Int) (z33.1.length : Int)).bind fun m45 =>
 (rangeF (partref_Closure_B4 a1 i11 x42) a1.length 0 (m45, z33.2)).bind fun (l52, l53) =>
 some (.go (l52, l53))) else
 some (.brk (z33.1, z33.2))
def partref_Closure_B0 (fu : Nat) (a0 : Int) (a1 : List Pair) (i11 : Nat) (z11 : (List (List Bool))) : Option (List (List Bool)) :=
 (mkLen a0).bind fun n18 =>
 (lat z11 (i11 : Int)).bind fun x23 =>
 Let (z11.set (i11 : Int).toNat (List.replicate n18 false)) fun p28 =>
 andThen (whileM (partref_Closure_B2 a1 i11) fu (([(i11 : Int)] : List Int), p28)) fun (l35, l36) =>
 some l36
def partref_Closure (fu : Nat) (a0 : Int) (a1 : List Pair) : Option (List (List Bool)) :=
 (mkLen a0).bind fun n3 =>
 (upTo a0).bind fun nn17 =>
 (rangeF (partref_Closure_B0 fu a0 a1) nn17 0 (List.replicate n3 ([] : List Bool))).bind fun l12 =>
 some l12
def partref_Causes_B2 (a0 : List Event) (i4 : Nat) (x9 : Event) (z14 : Int × (List Pair)) : Option (Ctl (Int × (List Pair)) (List Pair)) :=
 bif decide (z14.1 < (a0.length : Int)) then ((lat a0 z14.1).bind fun x21 =>
 bif x9.Proc == x21.Proc then ((room z14.2 ([({ Pair.zero with A := (i4 : Int), B := z14.1 } : Pair)] : List Pair)).bind fun u29 =>
 some (.go (w64 (z14.1 + (1 : Int)), z14.2 ++ ([({ Pair.zero with A := (i4 : Int), B := z14.1 } : Pair)] : List Pair)))) else
 (bif x9.Kind == (2 : Int) then (some (x21.Kind == (3 : Int))) else
 some false).bind fun y33 =>
 (bif y33 then (some (x9.Msg == x21.Msg)) else
 some false).bind fun y38 =>
 bif y38 then ((room z14.2 ([({ Pair.zero with A := (i4 : Int), B := z14.1 } : Pair)] : List Pair)).bind fun u45 =>
 some (.go (w64 (z14.1 + (1 : Int)), z14.2 ++ ([({ Pair.zero with A := (i4 : Int), B := z14.1 } : Pair)] : List Pair)))) else
 some (.go (w64 (z14.1 + (1 : Int)), z14.2))) else
 some (.brk (z14.1, z14.2))
def partref_Causes_B0 (fu : Nat) (a0 : List Event) (i4 : Nat) (z4 : (List Pair)) : Option (List Pair) :=
 (lat a0 (i4 : Int)).bind fun x9 =>
 andThen (whileM (partref_Causes_B2 a0 i4 x9) fu (w64 ((i4 : Int) + (1 : Int)), z4)) fun (y15, l17) =>
 some l17
def partref_Causes (fu : Nat) (a0 : List Event) : Option (List (List Bool)) :=
 (rangeF (partref_Causes_B0 fu a0) a0.length 0 ([] : List Pair)).bind fun l6 =>
 (partref_Closure fu (a0.length : Int) l6).bind fun r48 =>
 some r48
def partref_Stamps_B2 (r2 : (List (List Bool))) (i16 : Nat) (i25 : Nat) (z25 : (List Int)) : Option (List Int) :=
 (lat r2 (i25 : Int)).bind fun x30 =>
 (lat x30 (i16 : Int)).bind fun x35 =>
 bif x35 then ((lat z25 (i16 : Int)).bind fun x39 =>
 (lat z25 (i25 : Int)).bind fun x42 =>
 (lat z25 (i16 : Int)).bind fun x45 =>
 Let (z25.set (i16 : Int).toNat (max x39 (w64 (x42 + (1 : Int))))) fun p48 =>
 some p48) else
 some z25
def partref_Stamps_B0 (r2 : (List (List Bool))) (i16 : Nat) (z16 : (List Int)) : Option (List Int) :=
 (lat z16 (i16 : Int)).bind fun x20 =>
 Let (z16.set (i16 : Int).toNat (1 : Int)) fun p23 =>
 (upTo (i16 : Int)).bind fun nn29 =>
 (rangeF (partref_Stamps_B2 r2 i16) nn29 0 p23).bind fun l26 =>
 some l26
def partref_Stamps (fu : Nat) (a0 : List Event) : Option (List Int) :=
 (partref_Causes fu a0).bind fun r2 =>
 (mkLen (a0.length : Int)).bind fun n11 =>
 (rangeF (partref_Stamps_B0 r2) a0.length 0 (List.replicate n11 (0 : Int))).bind fun l17 =>
 some l17
def slices_Equal_int_int_B0 (a0 : List Int) (a1 : List Int) (i2 : Nat) (z2 : Unit) : Option (Ctl Unit Bool) :=
 (lat a0 (i2 : Int)).bind fun x5 =>
 (lat a1 (i2 : Int)).bind fun x8 =>
 bif x5 != x8 then (some (.ret false)) else
 some (.go ())
def slices_Equal_int_int (a0 : List Int) (a1 : List Int) : Option Bool :=
 bif (a0.length : Int) != (a1.length : Int) then (some false) else
 andThen (rangeM (slices_Equal_int_int_B0 a0 a1) a0.length 0 ()) fun _ =>
 some true
def slices_Index_int_int_B0 (a0 : List Int) (a1 : Int) (i1 : Nat) (z1 : Unit) : Option (Ctl Unit Int) :=
 (lat a0 (i1 : Int)).bind fun x4 =>
 bif a1 == x4 then (some (.ret (i1 : Int))) else
 some (.go ())
def slices_Index_int_int (a0 : List Int) (a1 : Int) : Option Int :=
 andThen (rangeM (slices_Index_int_int_B0 a0 a1) a0.length 0 ()) fun _ =>
 some (-1 : Int)
def slices_Contains_int_int (a0 : List Int) (a1 : Int) : Option Bool :=
 (slices_Index_int_int a0 a1).bind fun r1 =>
 some (decide (r1 ≥ (0 : Int)))
def partref_Total_B2 (a0 : List Event) (r2 : (List Int)) (l11 : List Int) (i15 : Nat) (z15 : Int) : Option Int :=
 (slices_Contains_int_int l11 (i15 : Int)).bind fun r19 =>
 (bif !r19 then ((bif decide (z15 < (0 : Int)) then (some true) else
 (lat r2 (i15 : Int)).bind fun x29 =>
 (lat r2 z15).bind fun x32 =>
 some (decide (x29 < x32))).bind fun y27 =>
 (bif y27 then (some true) else
 (lat r2 (i15 : Int)).bind fun x38 =>
 (lat r2 z15).bind fun x41 =>
 (bif x38 == x41 then ((lat a0 (i15 : Int)).bind fun x47 =>
 (lat a0 z15).bind fun x50 =>
 some (decide (x47.Proc < x50.Proc))) else
 some false).bind fun y45 =>
 some y45).bind fun y36 =>
 some y36) else
 some false).bind fun y24 =>
 bif y24 then (some (i15 : Int)) else
 some z15
def partref_Total_B0 (a0 : List Event) (r2 : (List Int)) (z9 : (List Int)) : Option (Ctl (List Int) (List Int)) :=
 bif decide ((z9.length : Int) < (a0.length : Int)) then ((rangeF (partref_Total_B2 a0 r2 z9) a0.length 0 (-1 : Int)).bind fun y16 =>
 (room z9 ([y16] : List Int)).bind fun u56 =>
 some (.go (z9 ++ ([y16] : List Int)))) else
 some (.brk z9)
def partref_Total (fu : Nat) (a0 : List Event) : Option (List Int) :=
 (partref_Stamps fu a0).bind fun r2 =>
 andThen (whileM (partref_Total_B0 a0 r2) fu ([] : List Int)) fun l11 =>
 some l11
def slices_Equal_api_Pair_api_Pair_B0 (a0 : List Pair) (a1 : List Pair) (i2 : Nat) (z2 : Unit) : Option (Ctl Unit Bool) :=
 (lat a0 (i2 : Int)).bind fun x5 =>
 (lat a1 (i2 : Int)).bind fun x8 =>
 bif !(decide (x5 = x8)) then (some (.ret false)) else
 some (.go ())
def slices_Equal_api_Pair_api_Pair (a0 : List Pair) (a1 : List Pair) : Option Bool :=
 bif (a0.length : Int) != (a1.length : Int) then (some false) else
 andThen (rangeM (slices_Equal_api_Pair_api_Pair_B0 a0 a1) a0.length 0 ()) fun _ =>
 some true
def partlaw_StampSays_B2 (i65 : Nat) (x70 : List Bool) (i75 : Nat) (z75 : (List Pair)) : Option (List Pair) :=
 (lat x70 (i75 : Int)).bind fun x80 =>
 bif x80 then ((room z75 ([({ Pair.zero with A := (i65 : Int), B := (i75 : Int) } : Pair)] : List Pair)).bind fun u86 =>
 some (z75 ++ ([({ Pair.zero with A := (i65 : Int), B := (i75 : Int) } : Pair)] : List Pair))) else
 some z75
def partlaw_StampSays_B0 (r55 : (List (List Bool))) (i65 : Nat) (z65 : (List Pair)) : Option (List Pair) :=
 (lat r55 (i65 : Int)).bind fun x70 =>
 (rangeF (partlaw_StampSays_B2 i65 x70) x70.length 0 z65).bind fun l77 =>
 some l77
def partlaw_StampSays (fu : Nat) (a0 : List Event) : Option Bool :=
 (partref_HistoryErr a0).bind fun r1 =>
 (stamp_Stamps a0).bind fun r5 =>
 (stamp_Total fu a0).bind fun r11 =>
 (stamp_Ahead a0).bind fun r17 =>
 (stamp_Check a0).bind fun r23 =>
 bif r23 != r1 then (some false) else
 bif r1 != (0 : Int) then ((bif (r5.1.length : Int) == (0 : Int) then (some (r5.2 == r1)) else
 some false).bind fun y30 =>
 (bif y30 then (some ((r11.1.length : Int) == (0 : Int))) else
 some false).bind fun y35 =>
 (bif y35 then (some (r11.2 == r1)) else
 some false).bind fun y40 =>
 (bif y40 then (some ((r17.1.length : Int) == (0 : Int))) else
 some false).bind fun y45 =>
 (bif y45 then (some (r17.2 == r1)) else
 some false).bind fun y50 =>
 some y50) else
 (partref_Causes fu a0).bind fun r55 =>
 (rangeF (partlaw_StampSays_B0 r55) r55.length 0 ([] : List Pair)).bind fun l67 =>
 (partref_Stamps fu a0).bind fun r90 =>
 (slices_Equal_int_int r5.1 r90).bind fun r96 =>
 (bif r96 then (some (r5.2 == (0 : Int))) else
 some false).bind fun y101 =>
 bif y101 then ((partref_Total fu a0).bind fun r106 =>
 (slices_Equal_int_int r11.1 r106).bind fun r112 =>
 (bif r112 then (some (r11.2 == (0 : Int))) else
 some false).bind fun y117 =>
 (bif y117 then ((slices_Equal_api_Pair_api_Pair r17.1 l67).bind fun r124 =>
 some r124) else
 some false).bind fun y122 =>
 (bif y122 then (some (r17.2 == (0 : Int))) else
 some false).bind fun y131 =>
 some y131) else
 some false
end Go.Proofs.Ytclmlddmgccfjaa
