/-
  What the functions compute, typed; printed by a program.
-/
import Derived.Test.YticifbmaapnfbaaGoI
namespace Go.Proofs.Yticifbmaapnfbaa
open Go.RowKit Enc
set_option linter.unusedVariables false
set_option linter.unusedSimpArgs false
structure Pair where
  A : Int
  B : Int
instance : DecidableEq Pair := fun a b => decidable_of_iff (a.A = b.A ∧ a.B = b.B) (by cases a; cases b; simp)
def Pair.zero : Pair := ⟨(0 : Int), (0 : Int)⟩
instance : Enc Pair := ⟨fun p => enc p.A ++ (enc p.B), 2, fun p => by simp only [List.length_append, Enc.len]; rfl, fun p => by simp only [List.all_append, Enc.one, Bool.and_self]⟩
theorem Pair.get_A {p : Pair} {k : Nat} {ch : List Value} (h : Get (enc p.A) k ch) : Get (enc p) (0 + k) ch := Get.off (Get.left h) (by omega)
theorem Pair.put_A {p : Pair} {k : Nat} {vs : List Value} {y : Int} (h : Put (enc p.A) k vs (enc y)) : Put (enc p) (0 + k) vs (enc ({ p with A := y } : Pair)) := Put.off (cs' := enc ({ p with A := y } : Pair)) (Put.left h) (by omega)
theorem Pair.get_B {p : Pair} {k : Nat} {ch : List Value} (h : Get (enc p.B) k ch) : Get (enc p) (1 + k) ch := Get.off (Get.right (m := 1) (Enc.len _) h) (by omega)
theorem Pair.put_B {p : Pair} {k : Nat} {vs : List Value} {y : Int} (h : Put (enc p.B) k vs (enc y)) : Put (enc p) (1 + k) vs (enc ({ p with B := y } : Pair)) := Put.off (cs' := enc ({ p with B := y } : Pair)) (Put.right (m := 1) (Enc.len _) h) (by omega)
instance : Rng Pair := ⟨fun p => Rng.ok p.A ∧ Rng.ok p.B⟩
structure Graph where
  may : List (List Bool)
  left : List Int
  seen : List Bool
instance : DecidableEq Graph := fun a b => decidable_of_iff (a.may = b.may ∧ a.left = b.left ∧ a.seen = b.seen) (by cases a; cases b; simp)
def Graph.zero : Graph := ⟨[], [], []⟩
instance : Rng Graph := ⟨fun p => Rng.ok p.may ∧ Rng.ok p.left ∧ Rng.ok p.seen⟩
def partref_PairsErr_B0 (a0 : Int) (a1 : Int) (a2 : List Pair) (i8 : Nat) (z8 : Unit) : Option (Ctl Unit Int) :=
 (lat a2 (i8 : Int)).bind fun x11 =>
 (bif decide (x11.A < (0 : Int)) then (some true) else
 some (decide (x11.B < (0 : Int)))).bind fun y17 =>
 (bif y17 then (some true) else
 some (decide (x11.A ≥ a0))).bind fun y22 =>
 (bif y22 then (some true) else
 some (decide (x11.B ≥ a1))).bind fun y27 =>
 bif y27 then (some (.ret (4 : Int))) else
 some (.go ())
def partref_PairsErr (a0 : Int) (a1 : Int) (a2 : List Pair) : Option Int :=
 (bif decide ((min a0 a1) < (0 : Int)) then (some true) else
 some (decide ((max a0 a1) > (40 : Int)))).bind fun y2 =>
 bif y2 then (some (1 : Int)) else
 bif decide ((a2.length : Int) > (600 : Int)) then (some (2 : Int)) else
 andThen (rangeM (partref_PairsErr_B0 a0 a1 a2) a2.length 0 ()) fun _ =>
 some (0 : Int)
def match_in (a0 : Int) (a1 : Int) (a2 : Int) : Option Bool :=
 (bif decide (a0 ≥ a1) then (some (decide (a0 ≤ a2))) else
 some false).bind fun y2 =>
 some y2
def match_Check_1 (a0 : Pair) (a1 : Int) (a2 : Int) : Option Bool :=
 (match_in a0.A (0 : Int) (w64 (a1 - (1 : Int)))).bind fun r5 =>
 (bif !r5 then (some true) else
 (match_in a0.B (0 : Int) (w64 (a2 - (1 : Int)))).bind fun r12 =>
 some (!r12)).bind fun y10 =>
 some y10
def slices_IndexFunc_api_Pair_api_Pair_Check_1_B0 (a0 : List Pair) (a1_c0 : Int) (a1_c1 : Int) (i3 : Nat) (z3 : Unit) : Option (Ctl Unit Int) :=
 (lat a0 (i3 : Int)).bind fun x6 =>
 (match_Check_1 x6 a1_c0 a1_c1).bind fun r9 =>
 bif r9 then (some (.ret (i3 : Int))) else
 some (.go ())
def slices_IndexFunc_api_Pair_api_Pair_Check_1 (a0 : List Pair) (a1_c0 : Int) (a1_c1 : Int) : Option Int :=
 andThen (rangeM (slices_IndexFunc_api_Pair_api_Pair_Check_1_B0 a0 a1_c0 a1_c1) a0.length 0 ()) fun _ =>
 some (-1 : Int)
def slices_ContainsFunc_api_Pair_api_Pair_Check_1 (a0 : List Pair) (a1_c0 : Int) (a1_c1 : Int) : Option Bool :=
 (slices_IndexFunc_api_Pair_api_Pair_Check_1 a0 a1_c0 a1_c1).bind fun r3 =>
 some (decide (r3 ≥ (0 : Int)))
def match_Check (a0 : Int) (a1 : Int) (a2 : List Pair) : Option Int :=
 (match_in a0 (0 : Int) (40 : Int)).bind fun r5 =>
 (bif !r5 then (some true) else
 (match_in a1 (0 : Int) (40 : Int)).bind fun r12 =>
 some (!r12)).bind fun y10 =>
 bif y10 then (some (1 : Int)) else
 bif decide ((a2.length : Int) > (600 : Int)) then (some (2 : Int)) else
 (slices_ContainsFunc_api_Pair_api_Pair_Check_1 a2 a0 a1).bind fun r20 =>
 bif r20 then (some (4 : Int)) else
 some (0 : Int)
def math_bits_Mul64 (a0 : BitVec 64) (a1 : BitVec 64) : Option ((BitVec 64) × (BitVec 64)) :=
 some ((((a0 >>> 32) * (a1 >>> 32)) + ((((a0 >>> 32) * (a1 &&& (4294967295 : BitVec 64))) + (((a0 &&& (4294967295 : BitVec 64)) * (a1 &&& (4294967295 : BitVec 64))) >>> 32)) >>> 32)) + ((((((a0 >>> 32) * (a1 &&& (4294967295 : BitVec 64))) + (((a0 &&& (4294967295 : BitVec 64)) * (a1 &&& (4294967295 : BitVec 64))) >>> 32)) &&& (4294967295 : BitVec 64)) + ((a0 &&& (4294967295 : BitVec 64)) * (a1 >>> 32))) >>> 32), a0 * a1)
def math_bits_Mul (a0 : BitVec 64) (a1 : BitVec 64) : Option ((BitVec 64) × (BitVec 64)) :=
 (math_bits_Mul64 a0 a1).bind fun r1 =>
 some (r1.1, r1.2)
def slices_Repeat_int_int_B0 (z20 : Int × (List Int)) : Option (Ctl (Int × (List Int)) (List Int)) :=
 bif decide (z20.1 < (z20.2.length : Int)) then ((cutL z20.2 z20.1 (z20.2.length : Int)).bind fun m26 =>
 (cutL z20.2 0 z20.1).bind fun m30 =>
 Let (copyL z20.2 ((z20.1 : Int).toNat) (((z20.2.length : Int) : Int).toNat) m30) fun p34 =>
 Let p34 fun l37 =>
 some (.go (w64 (z20.1 + (copyN ((z20.1 : Int).toNat) (((z20.2.length : Int) : Int).toNat) m30)), l37))) else
 some (.brk (z20.1, z20.2))
def slices_Repeat_int_int (fu : Nat) (a0 : List Int) (a1 : Int) : Option (List Int) :=
 bif decide (a1 < (0 : Int)) then (none) else
 (math_bits_Mul (BitVec.ofInt 64 (a0.length : Int)) (BitVec.ofInt 64 a1)).bind fun r3 =>
 (bif decide ((r3.1.toNat : Int) > ((0 : BitVec 64).toNat : Int)) then (some true) else
 some (decide ((r3.2.toNat : Int) > ((9223372036854775807 : BitVec 64).toNat : Int)))).bind fun y8 =>
 bif y8 then (none) else
 (mkLen (w64 (r3.2.toNat : Int))).bind fun n13 =>
 Let (copyL (List.replicate n13 (0 : Int)) 0 ((List.replicate n13 (0 : Int)).length) a0) fun p18 =>
 andThen (whileM (slices_Repeat_int_int_B0) fu (copyN 0 ((List.replicate n13 (0 : Int)).length) a0, p18)) fun (y21, l22) =>
 some l22
def match_graph_search_B0 (a0 : Graph) (a1 : Int) (x4 : List Bool) (rc : Graph → Int → Option ((List Int) × (List Bool) × Graph × Bool)) (i8 : Nat) (z8 : Graph × (List Int) × (List Bool)) : Option (Ctl (Graph × (List Int) × (List Bool)) ((List Int) × (List Bool) × Graph × Bool)) :=
 (lat x4 (i8 : Int)).bind fun x14 =>
 (bif !x14 then (some true) else
 (lat z8.2.2 (i8 : Int)).bind fun x20 =>
 some x20).bind fun y18 =>
 bif y18 then (some (.go (({ z8.1 with may := a0.may, left := z8.2.1, seen := z8.2.2 } : Graph), z8.2.1, z8.2.2))) else
 (lat z8.2.2 (i8 : Int)).bind fun x26 =>
 Let (z8.2.2.set (i8 : Int).toNat true) fun p29 =>
 (lat z8.2.1 (i8 : Int)).bind fun x31 =>
 bif decide (x31 < (0 : Int)) then ((lat z8.2.1 (i8 : Int)).bind fun x35 =>
 Let (z8.2.1.set (i8 : Int).toNat a1) fun p38 =>
 some (.ret (p38, p29, ({ z8.1 with may := a0.may, left := p38, seen := p29 } : Graph), true))) else
 (lat z8.2.1 (i8 : Int)).bind fun x40 =>
 (rc ({ z8.1 with may := a0.may, left := z8.2.1, seen := p29 } : Graph) x40).bind fun r43 =>
 bif r43.2.2.2 then ((lat r43.1 (i8 : Int)).bind fun x48 =>
 Let (r43.1.set (i8 : Int).toNat a1) fun p51 =>
 some (.ret (p51, r43.2.1, ({ r43.2.2.1 with may := a0.may, left := p51, seen := r43.2.1 } : Graph), true))) else
 some (.go (({ r43.2.2.1 with may := a0.may, left := r43.1, seen := r43.2.1 } : Graph), r43.1, r43.2.1))
def match_graph_search_R (rc : Graph → Int → Option ((List Int) × (List Bool) × Graph × Bool)) (a0 : Graph) (a1 : Int) : Option ((List Int) × (List Bool) × Graph × Bool) :=
 (lat a0.may a1).bind fun x4 =>
 andThen (rangeM (match_graph_search_B0 a0 a1 x4 rc) x4.length 0 (a0, a0.left, a0.seen)) fun (y9, l10, l11) =>
 some (l10, l11, ({ y9 with may := a0.may, left := l10, seen := l11 } : Graph), false)
def match_graph_search : (fu : Nat) → (a0 : Graph) → (a1 : Int) → Option ((List Int) × (List Bool) × Graph × Bool)
  | 0, _, _ => none
  | fu + 1, a0, a1 => match_graph_search_R (match_graph_search fu) a0 a1
def match_most_B4 (fu : Nat) (a1 : Int) (l72 : List (List Bool)) (i94 : Nat) (z94 : Graph × (List Int)) : Option (Graph × (List Int)) :=
 (mkLen a1).bind fun n102 =>
 (match_graph_search fu ({ z94.1 with may := l72, left := z94.2, seen := (List.replicate n102 false) } : Graph) (i94 : Int)).bind fun r107 =>
 some (({ r107.2.2.1 with may := l72, left := r107.1, seen := r107.2.1 } : Graph), r107.1)
def match_most_B2 (a2 : List Pair) (r3 : (List Int)) (y15 : Graph) (i70 : Nat) (z70 : Graph × (List (List Bool))) : Option (Graph × (List (List Bool))) :=
 (lat a2 (i70 : Int)).bind fun x77 =>
 (lat z70.2 x77.A).bind fun x82 =>
 (lat x82 x77.B).bind fun x87 =>
 Let (z70.2.set x77.A.toNat (x82.set x77.B.toNat true)) fun p90 =>
 some (({ z70.1 with may := p90, left := r3, seen := y15.seen } : Graph), p90)
def match_most_B0 (a1 : Int) (r3 : (List Int)) (i11 : Nat) (z11 : Graph) : Option Graph :=
 (mkLen a1).bind fun n26 =>
 (room z11.may ([(List.replicate n26 false)] : List (List Bool))).bind fun u35 =>
 Let (z11.may ++ ([(List.replicate n26 false)] : List (List Bool)), ({ z11 with left := r3 } : Graph)) fun (l42, y45) =>
 some ({ y45 with may := l42, left := r3, seen := z11.seen } : Graph)
def match_most (fu : Nat) (a0 : Int) (a1 : Int) (a2 : List Pair) : Option Graph :=
 (slices_Repeat_int_int fu ([(-1 : Int)] : List Int) a1).bind fun r3 =>
 (upTo a0).bind fun nn25 =>
 (rangeF (match_most_B0 a1 r3) nn25 0 ({ Graph.zero with may := ([] : List (List Bool)), left := r3 } : Graph)).bind fun y15 =>
 (rangeF (match_most_B2 a2 r3 y15) a2.length 0 (({ y15 with left := r3 } : Graph), y15.may)).bind fun (y71, l72) =>
 (upTo a0).bind fun nn101 =>
 (rangeF (match_most_B4 fu a1 l72) nn101 0 (({ y71 with may := l72, left := r3, seen := y15.seen } : Graph), r3)).bind fun (y95, l98) =>
 some ({ y95 with may := l72, left := l98 } : Graph)
def slices_Index_int_int_B0 (a0 : List Int) (a1 : Int) (i1 : Nat) (z1 : Unit) : Option (Ctl Unit Int) :=
 (lat a0 (i1 : Int)).bind fun x4 =>
 bif a1 == x4 then (some (.ret (i1 : Int))) else
 some (.go ())
def slices_Index_int_int (a0 : List Int) (a1 : Int) : Option Int :=
 andThen (rangeM (slices_Index_int_int_B0 a0 a1) a0.length 0 ()) fun _ =>
 some (-1 : Int)
def match_Most_B0 (r8 : Graph) (i24 : Nat) (z24 : (List Pair)) : Option (List Pair) :=
 (slices_Index_int_int r8.left (i24 : Int)).bind fun r30 =>
 bif decide (r30 ≥ (0 : Int)) then ((room z24 ([({ Pair.zero with A := (i24 : Int), B := r30 } : Pair)] : List Pair)).bind fun u37 =>
 some (z24 ++ ([({ Pair.zero with A := (i24 : Int), B := r30 } : Pair)] : List Pair))) else
 some z24
def match_Most (fu : Nat) (a0 : Int) (a1 : Int) (a2 : List Pair) : Option ((List Pair) × Int) :=
 (match_Check a0 a1 a2).bind fun r2 =>
 bif r2 != (0 : Int) then (some (([] : List Pair), r2)) else
 (match_most fu a0 a1 a2).bind fun r8 =>
 (upTo a0).bind fun nn29 =>
 (rangeF (match_Most_B0 r8) nn29 0 ([] : List Pair)).bind fun l26 =>
 some (l26, (0 : Int))
def slices_Contains_int_int (a0 : List Int) (a1 : Int) : Option Bool :=
 (slices_Index_int_int a0 a1).bind fun r1 =>
 some (decide (r1 ≥ (0 : Int)))
def match_Cover_1_B0 (a2_p : Graph) (x17 : List Bool) (rc : Int → (List Bool) → Graph → (List Bool) → Option ((List Bool) × (List Bool))) (i21 : Nat) (z21 : (List Bool) × (List Bool)) : Option ((List Bool) × (List Bool)) :=
 (lat x17 (i21 : Int)).bind fun x26 =>
 (bif x26 then ((lat z21.2 (i21 : Int)).bind fun x32 =>
 some (!x32)) else
 some false).bind fun y30 =>
 bif y30 then ((lat z21.2 (i21 : Int)).bind fun x38 =>
 Let (z21.2.set (i21 : Int).toNat true) fun p41 =>
 (lat a2_p.left (i21 : Int)).bind fun x43 =>
 bif decide (x43 ≥ (0 : Int)) then ((lat a2_p.left (i21 : Int)).bind fun x47 =>
 (rc x47 z21.1 a2_p p41).bind fun r50 =>
 some (r50.1, r50.2)) else
 some (z21.1, p41)) else
 some (z21.1, z21.2)
def match_Cover_1_R (rc : Int → (List Bool) → Graph → (List Bool) → Option ((List Bool) × (List Bool))) (a0 : Int) (a1 : List Bool) (a2_p : Graph) (a3 : List Bool) : Option ((List Bool) × (List Bool)) :=
 (lat a1 a0).bind fun x8 =>
 bif x8 then (some (a1, a3)) else
 (lat a1 a0).bind fun x12 =>
 Let (a1.set a0.toNat true) fun p15 =>
 (lat a2_p.may a0).bind fun x17 =>
 (rangeF (match_Cover_1_B0 a2_p x17 rc) x17.length 0 (p15, a3)).bind fun (l22, l23) =>
 some (l22, l23)
def match_Cover_1 : (fu : Nat) → (a0 : Int) → (a1 : List Bool) → (a2_p : Graph) → (a3 : List Bool) → Option ((List Bool) × (List Bool))
  | 0, _, _, _, _ => none
  | fu + 1, a0, a1, a2_p, a3 => match_Cover_1_R (match_Cover_1 fu) a0 a1 a2_p a3
def match_Cover_B4 (l167 : List Bool) (i197 : Nat) (z197 : (List Int)) : Option (List Int) :=
 (lat l167 (i197 : Int)).bind fun x202 =>
 bif x202 then ((room z197 ([(i197 : Int)] : List Int)).bind fun u208 =>
 some (z197 ++ ([(i197 : Int)] : List Int))) else
 some z197
def match_Cover_B2 (l168 : List Bool) (i183 : Nat) (z183 : (List Int)) : Option (List Int) :=
 (lat l168 (i183 : Int)).bind fun x188 =>
 bif !x188 then ((room z183 ([(i183 : Int)] : List Int)).bind fun u194 =>
 some (z183 ++ ([(i183 : Int)] : List Int))) else
 some z183
def match_Cover_B0 (fu : Nat) (r10 : Graph) (i166 : Nat) (z166 : (List Bool) × (List Bool)) : Option ((List Bool) × (List Bool)) :=
 (slices_Contains_int_int r10.left (i166 : Int)).bind fun r172 =>
 bif !r172 then ((match_Cover_1 fu (i166 : Int) z166.2 r10 z166.1).bind fun r177 =>
 some (r177.2, r177.1)) else
 some (z166.1, z166.2)
def match_Cover (fu : Nat) (a0 : Int) (a1 : Int) (a2 : List Pair) : Option ((List Int) × (List Int) × Int) :=
 (match_Check a0 a1 a2).bind fun r3 =>
 bif r3 != (0 : Int) then (some (([] : List Int), ([] : List Int), r3)) else
 (match_most fu a0 a1 a2).bind fun r10 =>
 (mkLen a0).bind fun n27 =>
 (mkLen a1).bind fun n32 =>
 Let (([] : List Bool), (List.replicate n32 false), (List.replicate n27 false)) fun (l46, l49, l51) =>
 (upTo a0).bind fun nn171 =>
 (rangeF (match_Cover_B0 fu r10) nn171 0 (l49, l51)).bind fun (l167, l168) =>
 (rangeF (match_Cover_B2 l168) l168.length 0 ([] : List Int)).bind fun l185 =>
 (rangeF (match_Cover_B4 l167) l167.length 0 ([] : List Int)).bind fun l199 =>
 some (l185, l199, (0 : Int))
def slices_Index_api_Pair_api_Pair_B0 (a0 : List Pair) (a1 : Pair) (i3 : Nat) (z3 : Unit) : Option (Ctl Unit Int) :=
 (lat a0 (i3 : Int)).bind fun x6 =>
 bif decide (a1 = x6) then (some (.ret (i3 : Int))) else
 some (.go ())
def slices_Index_api_Pair_api_Pair (a0 : List Pair) (a1 : Pair) : Option Int :=
 andThen (rangeM (slices_Index_api_Pair_api_Pair_B0 a0 a1) a0.length 0 ()) fun _ =>
 some (-1 : Int)
def slices_Contains_api_Pair_api_Pair (a0 : List Pair) (a1 : Pair) : Option Bool :=
 (slices_Index_api_Pair_api_Pair a0 a1).bind fun r3 =>
 some (decide (r3 ≥ (0 : Int)))
def partref_Most_1 (a0 : Int) (a1 : Int) (a2 : List Pair) : Option Bool :=
 (slices_Contains_api_Pair_api_Pair a2 ({ Pair.zero with A := a0, B := a1 } : Pair)).bind fun r2 =>
 some r2
def partref_Most_2_B0 (a0 : Int) (a2 : Int) (a3_c0 : List Pair) (rc : Int → (List Bool) → Int → (List Pair) → (List Int) → Option ((List Bool) × (List Int) × Bool)) (i8 : Nat) (z8 : (List Bool) × (List Int)) : Option (Ctl ((List Bool) × (List Int)) ((List Bool) × (List Int) × Bool)) :=
 (partref_Most_1 a0 (i8 : Int) a3_c0).bind fun r14 =>
 (bif !r14 then (some true) else
 (lat z8.1 (i8 : Int)).bind fun x21 =>
 some x21).bind fun y19 =>
 bif y19 then (some (.go (z8.1, z8.2))) else
 (lat z8.1 (i8 : Int)).bind fun x27 =>
 Let (z8.1.set (i8 : Int).toNat true) fun p30 =>
 (slices_Index_int_int z8.2 (i8 : Int)).bind fun r32 =>
 bif decide (r32 ≥ (0 : Int)) then ((rc r32 p30 a2 a3_c0 z8.2).bind fun r45 =>
 bif !r45.2.2 then (some (.go (r45.1, r45.2.1))) else
 ((lat r45.2.1 r32).bind fun x52 =>
 bif x52 == (i8 : Int) then ((lat r45.2.1 r32).bind fun x56 =>
 Let (r45.2.1.set r32.toNat (-1 : Int)) fun p59 =>
 some p59) else
 some r45.2.1).bind fun l50 =>
 (lat l50 a0).bind fun x63 =>
 Let (l50.set a0.toNat (i8 : Int)) fun p66 =>
 some (.ret (r45.1, p66, true))) else
 (some ()).bind fun _ =>
 (lat z8.2 a0).bind fun x40 =>
 Let (z8.2.set a0.toNat (i8 : Int)) fun p43 =>
 some (.ret (p30, p43, true))
def partref_Most_2_R (rc : Int → (List Bool) → Int → (List Pair) → (List Int) → Option ((List Bool) × (List Int) × Bool)) (a0 : Int) (a1 : List Bool) (a2 : Int) (a3_c0 : List Pair) (a4 : List Int) : Option ((List Bool) × (List Int) × Bool) :=
 (upTo a2).bind fun nn13 =>
 andThen (rangeM (partref_Most_2_B0 a0 a2 a3_c0 rc) nn13 0 (a1, a4)) fun (l9, l10) =>
 some (l9, l10, false)
def partref_Most_2 : (fu : Nat) → (a0 : Int) → (a1 : List Bool) → (a2 : Int) → (a3_c0 : List Pair) → (a4 : List Int) → Option ((List Bool) × (List Int) × Bool)
  | 0, _, _, _, _, _ => none
  | fu + 1, a0, a1, a2, a3_c0, a4 => partref_Most_2_R (partref_Most_2 fu) a0 a1 a2 a3_c0 a4
def partref_Most_B0 (fu : Nat) (a1 : Int) (a2 : List Pair) (i21 : Nat) (z21 : (List Int)) : Option (List Int) :=
 (mkLen a1).bind fun n26 =>
 Let (List.replicate n26 false) fun l33 =>
 (partref_Most_2 fu (i21 : Int) l33 a1 a2 z21).bind fun r40 =>
 some r40.2.1
def partref_Most (fu : Nat) (a0 : Int) (a1 : Int) (a2 : List Pair) : Option (List Int) :=
 (slices_Repeat_int_int fu ([(-1 : Int)] : List Int) a0).bind fun r10 =>
 (upTo a0).bind fun nn25 =>
 (rangeF (partref_Most_B0 fu a1 a2) nn25 0 r10).bind fun l22 =>
 some l22
def partref_Cover_B6 (r3 : (List Int)) (l56 : List Bool) (i78 : Nat) (z78 : (List Bool)) : Option (List Bool) :=
 (lat r3 (i78 : Int)).bind fun x82 =>
 (lat z78 (i78 : Int)).bind fun x85 =>
 bif x85 then ((lat z78 (i78 : Int)).bind fun x89 =>
 Let (z78.set (i78 : Int).toNat true) fun p92 =>
 some p92) else
 (bif decide (x82 ≥ (0 : Int)) then ((lat l56 x82).bind fun x97 =>
 some x97) else
 some false).bind fun y95 =>
 (lat z78 (i78 : Int)).bind fun x102 =>
 Let (z78.set (i78 : Int).toNat y95) fun p105 =>
 some p105
def partref_Cover_B4 (a2 : List Pair) (l51 : List Bool) (i55 : Nat) (z55 : (List Bool)) : Option (List Bool) :=
 (lat a2 (i55 : Int)).bind fun x59 =>
 (lat z55 x59.B).bind fun x64 =>
 (bif x64 then (some true) else
 (lat l51 x59.A).bind fun x70 =>
 some x70).bind fun y68 =>
 (lat z55 x59.B).bind fun x73 =>
 Let (z55.set x59.B.toNat y68) fun p76 =>
 some p76
def partref_Cover_B10 (l50 : List Bool) (i126 : Nat) (z126 : (List Int)) : Option (List Int) :=
 (lat l50 (i126 : Int)).bind fun x132 =>
 bif x132 then ((room z126 ([(i126 : Int)] : List Int)).bind fun u138 =>
 some (z126 ++ ([(i126 : Int)] : List Int))) else
 some z126
def partref_Cover_B8 (l51 : List Bool) (i111 : Nat) (z111 : (List Int)) : Option (List Int) :=
 (lat l51 (i111 : Int)).bind fun x117 =>
 bif !x117 then ((room z111 ([(i111 : Int)] : List Int)).bind fun u123 =>
 some (z111 ++ ([(i111 : Int)] : List Int))) else
 some z111
def partref_Cover_B2 (a2 : List Pair) (r3 : (List Int)) (i49 : Nat) (z49 : (List Bool) × (List Bool)) : Option ((List Bool) × (List Bool)) :=
 (rangeF (partref_Cover_B4 a2 z49.2) a2.length 0 z49.1).bind fun l56 =>
 (rangeF (partref_Cover_B6 r3 l56) r3.length 0 z49.2).bind fun l79 =>
 some (l56, l79)
def partref_Cover_B0 (r3 : (List Int)) (i36 : Nat) (z36 : (List Bool)) : Option (List Bool) :=
 (lat r3 (i36 : Int)).bind fun x41 =>
 (lat z36 (i36 : Int)).bind fun x44 =>
 Let (z36.set (i36 : Int).toNat (decide (x41 < (0 : Int)))) fun p47 =>
 some p47
def partref_Cover (fu : Nat) (a0 : Int) (a1 : Int) (a2 : List Pair) : Option ((List Int) × (List Int)) :=
 (partref_Most fu a0 a1 a2).bind fun r3 =>
 (mkLen a0).bind fun n9 =>
 (mkLen a1).bind fun n14 =>
 Let ((List.replicate n14 false), (List.replicate n9 false)) fun (l21, l23) =>
 (upTo a0).bind fun nn40 =>
 (rangeF (partref_Cover_B0 r3) nn40 0 l23).bind fun l37 =>
 (upTo (w64 ((w64 (a0 + a1)) + (1 : Int)))).bind fun nn54 =>
 (rangeF (partref_Cover_B2 a2 r3) nn54 0 (l21, l37)).bind fun (l50, l51) =>
 (upTo a0).bind fun nn116 =>
 (rangeF (partref_Cover_B8 l51) nn116 0 ([] : List Int)).bind fun l113 =>
 (upTo a1).bind fun nn131 =>
 (rangeF (partref_Cover_B10 l50) nn131 0 ([] : List Int)).bind fun l128 =>
 some (l113, l128)
def partref_PairsOf_B0 (a0 : List Int) (i3 : Nat) (z3 : (List Pair)) : Option (List Pair) :=
 (lat a0 (i3 : Int)).bind fun x8 =>
 bif decide (x8 ≥ (0 : Int)) then ((room z3 ([({ Pair.zero with A := (i3 : Int), B := x8 } : Pair)] : List Pair)).bind fun u14 =>
 some (z3 ++ ([({ Pair.zero with A := (i3 : Int), B := x8 } : Pair)] : List Pair))) else
 some z3
def partref_PairsOf (a0 : List Int) : Option (List Pair) :=
 (rangeF (partref_PairsOf_B0 a0) a0.length 0 ([] : List Pair)).bind fun l5 =>
 some l5
def slices_Equal_api_Pair_api_Pair_B0 (a0 : List Pair) (a1 : List Pair) (i2 : Nat) (z2 : Unit) : Option (Ctl Unit Bool) :=
 (lat a0 (i2 : Int)).bind fun x5 =>
 (lat a1 (i2 : Int)).bind fun x8 =>
 bif !(decide (x5 = x8)) then (some (.ret false)) else
 some (.go ())
def slices_Equal_api_Pair_api_Pair (a0 : List Pair) (a1 : List Pair) : Option Bool :=
 bif (a0.length : Int) != (a1.length : Int) then (some false) else
 andThen (rangeM (slices_Equal_api_Pair_api_Pair_B0 a0 a1) a0.length 0 ()) fun _ =>
 some true
def slices_Equal_int_int_B0 (a0 : List Int) (a1 : List Int) (i2 : Nat) (z2 : Unit) : Option (Ctl Unit Bool) :=
 (lat a0 (i2 : Int)).bind fun x5 =>
 (lat a1 (i2 : Int)).bind fun x8 =>
 bif x5 != x8 then (some (.ret false)) else
 some (.go ())
def slices_Equal_int_int (a0 : List Int) (a1 : List Int) : Option Bool :=
 bif (a0.length : Int) != (a1.length : Int) then (some false) else
 andThen (rangeM (slices_Equal_int_int_B0 a0 a1) a0.length 0 ()) fun _ =>
 some true
def partlaw_MatchSays (fu : Nat) (a0 : Int) (a1 : Int) (a2 : List Pair) : Option Bool :=
 (partref_PairsErr a0 a1 a2).bind fun r1 =>
 (match_Most fu a0 a1 a2).bind fun r5 =>
 (match_Cover fu a0 a1 a2).bind fun r11 =>
 (match_Check a0 a1 a2).bind fun r19 =>
 bif r19 != r1 then (some false) else
 bif r1 != (0 : Int) then ((bif (r5.1.length : Int) == (0 : Int) then (some (r5.2 == r1)) else
 some false).bind fun y26 =>
 (bif y26 then (some ((r11.1.length : Int) == (0 : Int))) else
 some false).bind fun y31 =>
 (bif y31 then (some ((r11.2.1.length : Int) == (0 : Int))) else
 some false).bind fun y36 =>
 (bif y36 then (some (r11.2.2 == r1)) else
 some false).bind fun y41 =>
 some y41) else
 (partref_Cover fu a0 a1 a2).bind fun r45 =>
 (partref_Most fu a0 a1 a2).bind fun r53 =>
 (partref_PairsOf r53).bind fun r59 =>
 (slices_Equal_api_Pair_api_Pair r5.1 r59).bind fun r65 =>
 (bif r65 then (some (r5.2 == (0 : Int))) else
 some false).bind fun y70 =>
 (bif y70 then ((slices_Equal_int_int r11.1 r45.1).bind fun r77 =>
 some r77) else
 some false).bind fun y75 =>
 (bif y75 then ((slices_Equal_int_int r11.2.1 r45.2).bind fun r86 =>
 some r86) else
 some false).bind fun y84 =>
 (bif y84 then (some (r11.2.2 == (0 : Int))) else
 some false).bind fun y93 =>
 some y93
end Go.Proofs.Yticifbmaapnfbaa
