/-
  What the functions compute, typed; printed by a program.
-/
import Derived.Test.YtobikknjaomalaaGoI
namespace Go.Proofs.Ytobikknjaomalaa
open Go.RowKit Enc
set_option linter.unusedVariables false
set_option linter.unusedSimpArgs false
structure Hand where
  Busy : Bool
  Boss : Int
  Owed : Int
instance : DecidableEq Hand := fun a b => decidable_of_iff (a.Busy = b.Busy ∧ a.Boss = b.Boss ∧ a.Owed = b.Owed) (by cases a; cases b; simp)
def Hand.zero : Hand := ⟨false, (0 : Int), (0 : Int)⟩
instance : Enc Hand := ⟨fun p => enc p.Busy ++ (enc p.Boss ++ (enc p.Owed)), 3, fun p => by simp only [List.length_append, Enc.len]; rfl, fun p => by simp only [List.all_append, Enc.one, Bool.and_self]⟩
theorem Hand.get_Busy {p : Hand} {k : Nat} {ch : List Value} (h : Get (enc p.Busy) k ch) : Get (enc p) (0 + k) ch := Get.off (Get.left h) (by omega)
theorem Hand.put_Busy {p : Hand} {k : Nat} {vs : List Value} {y : Bool} (h : Put (enc p.Busy) k vs (enc y)) : Put (enc p) (0 + k) vs (enc ({ p with Busy := y } : Hand)) := Put.off (cs' := enc ({ p with Busy := y } : Hand)) (Put.left h) (by omega)
theorem Hand.get_Boss {p : Hand} {k : Nat} {ch : List Value} (h : Get (enc p.Boss) k ch) : Get (enc p) (1 + k) ch := Get.off (Get.right (m := 1) (Enc.len _) (Get.left h)) (by omega)
theorem Hand.put_Boss {p : Hand} {k : Nat} {vs : List Value} {y : Int} (h : Put (enc p.Boss) k vs (enc y)) : Put (enc p) (1 + k) vs (enc ({ p with Boss := y } : Hand)) := Put.off (cs' := enc ({ p with Boss := y } : Hand)) (Put.right (m := 1) (Enc.len _) (Put.left h)) (by omega)
theorem Hand.get_Owed {p : Hand} {k : Nat} {ch : List Value} (h : Get (enc p.Owed) k ch) : Get (enc p) (2 + k) ch := Get.off (Get.right (m := 1) (Enc.len _) (Get.right (m := 1) (Enc.len _) h)) (by omega)
theorem Hand.put_Owed {p : Hand} {k : Nat} {vs : List Value} {y : Int} (h : Put (enc p.Owed) k vs (enc y)) : Put (enc p) (2 + k) vs (enc ({ p with Owed := y } : Hand)) := Put.off (cs' := enc ({ p with Owed := y } : Hand)) (Put.right (m := 1) (Enc.len _) (Put.right (m := 1) (Enc.len _) h)) (by omega)
instance : Rng Hand := ⟨fun p => Rng.ok p.Busy ∧ Rng.ok p.Boss ∧ Rng.ok p.Owed⟩
structure Word where
  From : Int
  To : Int
  At : Int
instance : DecidableEq Word := fun a b => decidable_of_iff (a.From = b.From ∧ a.To = b.To ∧ a.At = b.At) (by cases a; cases b; simp)
def Word.zero : Word := ⟨(0 : Int), (0 : Int), (0 : Int)⟩
instance : Enc Word := ⟨fun p => enc p.From ++ (enc p.To ++ (enc p.At)), 3, fun p => by simp only [List.length_append, Enc.len]; rfl, fun p => by simp only [List.all_append, Enc.one, Bool.and_self]⟩
theorem Word.get_From {p : Word} {k : Nat} {ch : List Value} (h : Get (enc p.From) k ch) : Get (enc p) (0 + k) ch := Get.off (Get.left h) (by omega)
theorem Word.put_From {p : Word} {k : Nat} {vs : List Value} {y : Int} (h : Put (enc p.From) k vs (enc y)) : Put (enc p) (0 + k) vs (enc ({ p with From := y } : Word)) := Put.off (cs' := enc ({ p with From := y } : Word)) (Put.left h) (by omega)
theorem Word.get_To {p : Word} {k : Nat} {ch : List Value} (h : Get (enc p.To) k ch) : Get (enc p) (1 + k) ch := Get.off (Get.right (m := 1) (Enc.len _) (Get.left h)) (by omega)
theorem Word.put_To {p : Word} {k : Nat} {vs : List Value} {y : Int} (h : Put (enc p.To) k vs (enc y)) : Put (enc p) (1 + k) vs (enc ({ p with To := y } : Word)) := Put.off (cs' := enc ({ p with To := y } : Word)) (Put.right (m := 1) (Enc.len _) (Put.left h)) (by omega)
theorem Word.get_At {p : Word} {k : Nat} {ch : List Value} (h : Get (enc p.At) k ch) : Get (enc p) (2 + k) ch := Get.off (Get.right (m := 1) (Enc.len _) (Get.right (m := 1) (Enc.len _) h)) (by omega)
theorem Word.put_At {p : Word} {k : Nat} {vs : List Value} {y : Int} (h : Put (enc p.At) k vs (enc y)) : Put (enc p) (2 + k) vs (enc ({ p with At := y } : Word)) := Put.off (cs' := enc ({ p with At := y } : Word)) (Put.right (m := 1) (Enc.len _) (Put.right (m := 1) (Enc.len _) h)) (by omega)
instance : Rng Word := ⟨fun p => Rng.ok p.From ∧ Rng.ok p.To ∧ Rng.ok p.At⟩
structure Over where
  Hands : List Hand
  Way : List Word
instance : DecidableEq Over := fun a b => decidable_of_iff (a.Hands = b.Hands ∧ a.Way = b.Way) (by cases a; cases b; simp)
def Over.zero : Over := ⟨[], []⟩
instance : Rng Over := ⟨fun p => Rng.ok p.Hands ∧ Rng.ok p.Way⟩
def partref_wordsErr_B0 (a0 : Int) (a1 : List Word) (a2 : Int) (i2 : Nat) (z2 : Unit) : Option (Ctl Unit Int) :=
 (lat a1 (i2 : Int)).bind fun x5 =>
 (bif decide ((min x5.From x5.To) < (0 : Int)) then (some true) else
 some (decide ((max x5.From x5.To) ≥ a0))).bind fun y11 =>
 bif y11 then (some (.ret (1 : Int))) else
 bif decide (a2 > (1 : Int)) then ((bif decide (x5.At < (0 : Int)) then (some true) else
 some (decide (x5.At > a2))).bind fun y29 =>
 bif y29 then (some (.ret (1 : Int))) else
 (bif x5.From == x5.To then (some true) else
 some (decide (x5.At < (0 : Int)))).bind fun y35 =>
 (bif y35 then (some true) else
 some (decide (x5.At > a2))).bind fun y40 =>
 bif y40 then (some (.ret (4 : Int))) else
 some (.go ())) else
 (bif x5.From == x5.To then (some true) else
 some (decide (x5.At < (0 : Int)))).bind fun y18 =>
 (bif y18 then (some true) else
 some (decide (x5.At > a2))).bind fun y23 =>
 bif y23 then (some (.ret (4 : Int))) else
 some (.go ())
def partref_wordsErr (a0 : Int) (a1 : List Word) (a2 : Int) : Option Int :=
 bif decide ((a1.length : Int) > (100 : Int)) then (some (2 : Int)) else
 andThen (rangeM (partref_wordsErr_B0 a0 a1 a2) a1.length 0 ()) fun _ =>
 some (0 : Int)
def partref_OverErr_B0 (a0 : Over) (i9 : Nat) (z9 : Unit) : Option (Ctl Unit Int) :=
 (lat a0.Hands (i9 : Int)).bind fun x12 =>
 (bif decide (x12.Boss < (-1 : Int)) then (some true) else
 some (decide (x12.Boss ≥ (a0.Hands.length : Int)))).bind fun y18 =>
 (bif y18 then (some true) else
 some (decide (x12.Owed < (0 : Int)))).bind fun y23 =>
 (bif y23 then (some true) else
 some (decide (x12.Owed > (16777215 : Int)))).bind fun y28 =>
 bif y28 then (some (.ret (1 : Int))) else
 bif x12.Boss == (i9 : Int) then (some (.ret (4 : Int))) else
 (bif (i9 : Int) == (0 : Int) then (some (!(x12.Boss == (-1 : Int)))) else
 some false).bind fun y35 =>
 bif y35 then (some (.ret (4 : Int))) else
 (bif (i9 : Int) != (0 : Int) then (some (x12.Boss == (-1 : Int))) else
 some false).bind fun y41 =>
 bif y41 then ((bif x12.Busy then (some true) else
 some (x12.Owed != (0 : Int))).bind fun y47 =>
 bif y47 then (some (.ret (4 : Int))) else
 some (.go ())) else
 some (.go ())
def partref_OverErr (a0 : Over) : Option Int :=
 (bif decide ((a0.Hands.length : Int) < (1 : Int)) then (some true) else
 some (decide ((a0.Hands.length : Int) > (6 : Int)))).bind fun y4 =>
 bif y4 then (some (1 : Int)) else
 andThen (rangeM (partref_OverErr_B0 a0) a0.Hands.length 0 ()) fun _ =>
 (partref_wordsErr (a0.Hands.length : Int) a0.Way (1 : Int)).bind fun r52 =>
 some r52
def over_in (a0 : Int) (a1 : Int) (a2 : Int) : Option Bool :=
 (bif decide (a0 ≥ a1) then (some (decide (a0 ≤ a2))) else
 some false).bind fun y2 =>
 some y2
def math_bits_Mul64 (a0 : BitVec 64) (a1 : BitVec 64) : Option ((BitVec 64) × (BitVec 64)) :=
 some ((((a0 >>> 32) * (a1 >>> 32)) + ((((a0 >>> 32) * (a1 &&& (4294967295 : BitVec 64))) + (((a0 &&& (4294967295 : BitVec 64)) * (a1 &&& (4294967295 : BitVec 64))) >>> 32)) >>> 32)) + ((((((a0 >>> 32) * (a1 &&& (4294967295 : BitVec 64))) + (((a0 &&& (4294967295 : BitVec 64)) * (a1 &&& (4294967295 : BitVec 64))) >>> 32)) &&& (4294967295 : BitVec 64)) + ((a0 &&& (4294967295 : BitVec 64)) * (a1 >>> 32))) >>> 32), a0 * a1)
def math_bits_Mul (a0 : BitVec 64) (a1 : BitVec 64) : Option ((BitVec 64) × (BitVec 64)) :=
 (math_bits_Mul64 a0 a1).bind fun r1 =>
 some (r1.1, r1.2)
def slices_Repeat_api_Hand_api_Hand_B0 (z20 : Int × (List Hand)) : Option (Ctl (Int × (List Hand)) (List Hand)) :=
 bif decide (z20.1 < (z20.2.length : Int)) then ((cutL z20.2 z20.1 (z20.2.length : Int)).bind fun m27 =>
 (cutL z20.2 0 z20.1).bind fun m31 =>
 Let (copyL z20.2 ((z20.1 : Int).toNat) (((z20.2.length : Int) : Int).toNat) m31) fun p35 =>
 Let p35 fun l39 =>
 some (.go (w64 (z20.1 + (copyN ((z20.1 : Int).toNat) (((z20.2.length : Int) : Int).toNat) m31)), l39))) else
 some (.brk (z20.1, z20.2))
def slices_Repeat_api_Hand_api_Hand (fu : Nat) (a0 : List Hand) (a1 : Int) : Option (List Hand) :=
 bif decide (a1 < (0 : Int)) then (none) else
 (math_bits_Mul (BitVec.ofInt 64 (a0.length : Int)) (BitVec.ofInt 64 a1)).bind fun r3 =>
 (bif decide ((r3.1.toNat : Int) > ((0 : BitVec 64).toNat : Int)) then (some true) else
 some (decide ((r3.2.toNat : Int) > ((9223372036854775807 : BitVec 64).toNat : Int)))).bind fun y8 =>
 bif y8 then (none) else
 (mkLen (w64 (r3.2.toNat : Int))).bind fun n13 =>
 Let (copyL (List.replicate n13 Hand.zero) 0 ((List.replicate n13 Hand.zero).length) a0) fun p18 =>
 andThen (whileM (slices_Repeat_api_Hand_api_Hand_B0) fu (copyN 0 ((List.replicate n13 Hand.zero).length) a0, p18)) fun (y21, l23) =>
 some l23
def over_New (fu : Nat) (a0 : Int) : Option (Over × Int) :=
 (over_in a0 (1 : Int) (6 : Int)).bind fun r5 =>
 bif !r5 then (some (({ Over.zero with Hands := ([] : List Hand) } : Over), (1 : Int))) else
 (slices_Repeat_api_Hand_api_Hand fu ([({ Hand.zero with Boss := (-1 : Int) } : Hand)] : List Hand) a0).bind fun r13 =>
 (lat r13 (0 : Int)).bind fun x23 =>
 Let (r13.set (0 : Int).toNat ({ x23 with Busy := true } : Hand)) fun p26 =>
 some (({ Over.zero with Hands := p26 } : Over), (0 : Int))
def over_hand (a0 : Hand) (a1 : Int) (a2 : Int) : Option Int :=
 (over_in a0.Boss (-1 : Int) (w64 (a2 - (1 : Int)))).bind fun r3 =>
 (bif !r3 then (some true) else
 (over_in a0.Owed (0 : Int) (16777215 : Int)).bind fun r10 =>
 some (!r10)).bind fun y8 =>
 bif y8 then (some (1 : Int)) else
 bif a0.Boss == a1 then (some (4 : Int)) else
 (bif a1 == (0 : Int) then (some (a0.Boss != (-1 : Int))) else
 some false).bind fun y19 =>
 bif y19 then (some (4 : Int)) else
 (bif a1 != (0 : Int) then (some (a0.Boss == (-1 : Int))) else
 some false).bind fun y25 =>
 bif y25 then ((bif a0.Busy then (some true) else
 some (decide (a0.Owed > (0 : Int)))).bind fun y31 =>
 bif y31 then (some (4 : Int)) else
 some (0 : Int)) else
 some (0 : Int)
def over_Check_B2 (a0 : Over) (i22 : Nat) (z22 : Unit) : Option (Ctl Unit Int) :=
 (lat a0.Way (i22 : Int)).bind fun x25 =>
 (over_in x25.From (0 : Int) (w64 ((a0.Hands.length : Int) - (1 : Int)))).bind fun r30 =>
 (bif !r30 then (some true) else
 (over_in x25.To (0 : Int) (w64 ((a0.Hands.length : Int) - (1 : Int)))).bind fun r37 =>
 some (!r37)).bind fun y35 =>
 bif y35 then (some (.ret (1 : Int))) else
 (bif x25.From == x25.To then (some true) else
 (over_in x25.At (0 : Int) (1 : Int)).bind fun r47 =>
 some (!r47)).bind fun y45 =>
 bif y45 then (some (.ret (4 : Int))) else
 some (.go ())
def over_Check_B0 (a0 : Over) (i8 : Nat) (z8 : Unit) : Option (Ctl Unit Int) :=
 (lat a0.Hands (i8 : Int)).bind fun x11 =>
 (over_hand x11 (i8 : Int) (a0.Hands.length : Int)).bind fun r16 =>
 bif r16 != (0 : Int) then (some (.ret r16)) else
 some (.go ())
def over_Check (a0 : Over) : Option Int :=
 (over_in (a0.Hands.length : Int) (1 : Int) (6 : Int)).bind fun r3 =>
 bif !r3 then (some (1 : Int)) else
 andThen (rangeM (over_Check_B0 a0) a0.Hands.length 0 ()) fun _ =>
 bif decide ((a0.Way.length : Int) > (100 : Int)) then (some (2 : Int)) else
 andThen (rangeM (over_Check_B2 a0) a0.Way.length 0 ()) fun _ =>
 some (0 : Int)
def slices_Clone_api_Hand_api_Hand (a0 : List Hand) : Option (List Hand) :=
 (room ([] : List Hand) a0).bind fun u5 =>
 some (([] : List Hand) ++ a0)
def slices_Clone_api_Word_api_Word (a0 : List Word) : Option (List Word) :=
 (room ([] : List Word) a0).bind fun u5 =>
 some (([] : List Word) ++ a0)
def over_clone (a0 : Over) : Option Over :=
 (slices_Clone_api_Hand_api_Hand a0.Hands).bind fun r7 =>
 Let (a0.Way, r7) fun (l15, l18) =>
 (slices_Clone_api_Word_api_Word l15).bind fun r26 =>
 some ({ Over.zero with Hands := l18, Way := r26 } : Over)
def over_Give (a0 : Over) (a1 : Int) (a2 : Int) : Option (Over × Int) :=
 (over_Check a0).bind fun r7 =>
 bif r7 != (0 : Int) then (some (({ Over.zero with Hands := ([] : List Hand), Way := ([] : List Word) } : Over), r7)) else
 (over_in a1 (0 : Int) (w64 ((a0.Hands.length : Int) - (1 : Int)))).bind fun r14 =>
 (bif !r14 then (some true) else
 (over_in a2 (0 : Int) (w64 ((a0.Hands.length : Int) - (1 : Int)))).bind fun r21 =>
 some (!r21)).bind fun y19 =>
 (bif y19 then (some true) else
 some (a1 == a2)).bind fun y28 =>
 bif y28 then (some (({ Over.zero with Hands := ([] : List Hand), Way := ([] : List Word) } : Over), (1 : Int))) else
 (lat a0.Hands a1).bind fun x35 =>
 bif !x35.Busy then (some (({ Over.zero with Hands := ([] : List Hand), Way := ([] : List Word) } : Over), (11 : Int))) else
 (lat a0.Hands a1).bind fun x41 =>
 (bif x41.Owed == (16777215 : Int) then (some true) else
 some ((a0.Way.length : Int) == (100 : Int))).bind fun y45 =>
 bif y45 then (some (({ Over.zero with Hands := ([] : List Hand), Way := ([] : List Word) } : Over), (8 : Int))) else
 (over_clone a0).bind fun r52 =>
 (lat r52.Hands a1).bind fun x64 =>
 (lat r52.Hands a1).bind fun x67 =>
 Let (r52.Hands.set a1.toNat ({ x67 with Owed := w64 (x64.Owed + (1 : Int)) } : Hand)) fun p70 =>
 (room r52.Way ([({ Word.zero with From := a1, To := a2, At := (1 : Int) } : Word)] : List Word)).bind fun u74 =>
 some (({ r52 with Hands := p70, Way := r52.Way ++ ([({ Word.zero with From := a1, To := a2, At := (1 : Int) } : Word)] : List Word) } : Over), (0 : Int))
def slices_Delete_api_Word_api_Word (a0 : List Word) (a1 : Int) (a2 : Int) : Option (List Word) :=
 (cutL a0 a1 a2).bind fun m3 =>
 bif a1 == a2 then (some a0) else
 (cutL a0 0 a1).bind fun m9 =>
 (cutL a0 a2 (a0.length : Int)).bind fun m13 =>
 some (a0.take ((a1 : Int).toNat) ++ a0.drop ((a2 : Int).toNat))
def over_detach (a0 : Over) (a1 : Int) : Option ((List Hand) × (List Word) × Over) :=
 (lat a0.Hands a1).bind fun x4 =>
 (bif a1 == (0 : Int) then (some true) else
 some (x4.Boss == (-1 : Int))).bind fun y8 =>
 (bif y8 then (some true) else
 some x4.Busy).bind fun y13 =>
 (bif y13 then (some true) else
 some (decide (x4.Owed > (0 : Int)))).bind fun y18 =>
 bif y18 then (some (a0.Hands, a0.Way, a0)) else
 (room a0.Way ([({ Word.zero with From := a1, To := x4.Boss } : Word)] : List Word)).bind fun u25 =>
 Let (([({ Word.zero with From := a1, To := x4.Boss } : Word)] : List Word), a0.Way ++ ([({ Word.zero with From := a1, To := x4.Boss } : Word)] : List Word), a0) fun (l30, l32, y33) =>
 Let (a0.Hands.set a1.toNat ({ x4 with Boss := (-1 : Int) } : Hand)) fun p43 =>
 some (p43, l32, ({ y33 with Hands := p43, Way := l32 } : Over))
def over_Take (a0 : Over) (a1 : Int) : Option (Over × Int) :=
 (over_Check a0).bind fun r7 =>
 bif r7 != (0 : Int) then (some (({ Over.zero with Hands := ([] : List Hand), Way := ([] : List Word) } : Over), r7)) else
 (over_in a1 (0 : Int) (w64 ((a0.Way.length : Int) - (1 : Int)))).bind fun r14 =>
 bif !r14 then (some (({ Over.zero with Hands := ([] : List Hand), Way := ([] : List Word) } : Over), (6 : Int))) else
 (over_clone a0).bind fun r21 =>
 (lat r21.Way a1).bind fun x33 =>
 (slices_Delete_api_Word_api_Word r21.Way a1 (w64 (a1 + (1 : Int)))).bind fun r38 =>
 (lat r21.Hands x33.To).bind fun x44 =>
 bif x33.At == (0 : Int) then (Let (r21.Hands.set x33.To.toNat ({ x44 with Owed := max (w64 (x44.Owed - (1 : Int))) (0 : Int) } : Hand)) fun p48 =>
 (over_detach ({ r21 with Hands := p48, Way := r38 } : Over) x33.To).bind fun r50 =>
 some (({ r50.2.2 with Hands := r50.1, Way := r50.2.1 } : Over), (0 : Int))) else
 Let (r21.Hands.set x33.To.toNat ({ x44 with Busy := true } : Hand)) fun p56 =>
 ((bif x33.To != (0 : Int) then ((lat p56 x33.To).bind fun x67 =>
 some (x67.Boss == (-1 : Int))) else
 some false).bind fun y65 =>
 bif y65 then ((lat p56 x33.To).bind fun x73 =>
 Let (p56.set x33.To.toNat ({ x73 with Boss := x33.From } : Hand)) fun p76 =>
 some (({ r21 with Hands := p76, Way := r38 } : Over), r38, p76)) else
 (room r38 ([({ Word.zero with From := x33.To, To := x33.From } : Word)] : List Word)).bind fun u80 =>
 some (({ r21 with Hands := p56, Way := r38 ++ ([({ Word.zero with From := x33.To, To := x33.From } : Word)] : List Word) } : Over), r38 ++ ([({ Word.zero with From := x33.To, To := x33.From } : Word)] : List Word), p56)).bind fun (y58, l60, l62) =>
 some (({ y58 with Hands := l62, Way := l60 } : Over), (0 : Int))
def over_Rest (a0 : Over) (a1 : Int) : Option (Over × Int) :=
 (over_Check a0).bind fun r7 =>
 bif r7 != (0 : Int) then (some (({ Over.zero with Hands := ([] : List Hand), Way := ([] : List Word) } : Over), r7)) else
 (over_in a1 (0 : Int) (w64 ((a0.Hands.length : Int) - (1 : Int)))).bind fun r14 =>
 bif !r14 then (some (({ Over.zero with Hands := ([] : List Hand), Way := ([] : List Word) } : Over), (1 : Int))) else
 (lat a0.Hands a1).bind fun x21 =>
 bif !x21.Busy then (some (({ Over.zero with Hands := ([] : List Hand), Way := ([] : List Word) } : Over), (11 : Int))) else
 bif (a0.Way.length : Int) == (100 : Int) then (some (({ Over.zero with Hands := ([] : List Hand), Way := ([] : List Word) } : Over), (8 : Int))) else
 (over_clone a0).bind fun r30 =>
 (lat r30.Hands a1).bind fun x42 =>
 Let (r30.Hands.set a1.toNat ({ x42 with Busy := false } : Hand)) fun p45 =>
 (over_detach ({ r30 with Hands := p45 } : Over) a1).bind fun r47 =>
 some (({ r47.2.2 with Hands := r47.1, Way := r47.2.1 } : Over), (0 : Int))
def over_Done (a0 : Over) : Option (Bool × Int) :=
 (over_Check a0).bind fun r3 =>
 bif r3 != (0 : Int) then (some (false, r3)) else
 (lat a0.Hands (0 : Int)).bind fun x8 =>
 (bif !x8.Busy then ((lat a0.Hands (0 : Int)).bind fun x14 =>
 some (x14.Owed == (0 : Int))) else
 some false).bind fun y12 =>
 some (y12, (0 : Int))
def slices_Equal_api_Hand_api_Hand_B0 (a0 : List Hand) (a1 : List Hand) (i2 : Nat) (z2 : Unit) : Option (Ctl Unit Bool) :=
 (lat a0 (i2 : Int)).bind fun x5 =>
 (lat a1 (i2 : Int)).bind fun x8 =>
 bif !(decide (x5 = x8)) then (some (.ret false)) else
 some (.go ())
def slices_Equal_api_Hand_api_Hand (a0 : List Hand) (a1 : List Hand) : Option Bool :=
 bif (a0.length : Int) != (a1.length : Int) then (some false) else
 andThen (rangeM (slices_Equal_api_Hand_api_Hand_B0 a0 a1) a0.length 0 ()) fun _ =>
 some true
def slices_Equal_api_Word_api_Word_B0 (a0 : List Word) (a1 : List Word) (i2 : Nat) (z2 : Unit) : Option (Ctl Unit Bool) :=
 (lat a0 (i2 : Int)).bind fun x5 =>
 (lat a1 (i2 : Int)).bind fun x8 =>
 bif !(decide (x5 = x8)) then (some (.ret false)) else
 some (.go ())
def slices_Equal_api_Word_api_Word (a0 : List Word) (a1 : List Word) : Option Bool :=
 bif (a0.length : Int) != (a1.length : Int) then (some false) else
 andThen (rangeM (slices_Equal_api_Word_api_Word_B0 a0 a1) a0.length 0 ()) fun _ =>
 some true
def partref_SameOver (a0 : Over) (a1 : Over) : Option Bool :=
 (slices_Equal_api_Hand_api_Hand a0.Hands a1.Hands).bind fun r5 =>
 (bif r5 then ((slices_Equal_api_Word_api_Word a0.Way a1.Way).bind fun r12 =>
 some r12) else
 some false).bind fun y10 =>
 some y10
def slices_Grow_api_Word_api_Word (a1 : Int) : Option (List Word) :=
 bif decide (a1 < (0 : Int)) then (none) else
 (bif decide ((w64 (a1 - (w64 ((0 : Int) - (0 : Int))))) > (0 : Int)) then ((mkLen (w64 (a1 - (w64 ((0 : Int) - (0 : Int)))))).bind fun n10 =>
 (cutL (List.replicate n10 Word.zero) 0 (0 : Int)).bind fun m14 =>
 some m14) else
 some ([] : List Word)).bind fun l4 =>
 some l4
def slices_Concat_api_Word_api_Word_B2 (a0 : List (List Word)) (i19 : Nat) (z19 : (List Word)) : Option (List Word) :=
 (lat a0 (i19 : Int)).bind fun x24 =>
 (room z19 x24).bind fun u28 =>
 some (z19 ++ x24)
def slices_Concat_api_Word_api_Word_B0 (a0 : List (List Word)) (i3 : Nat) (z3 : Int) : Option Int :=
 (lat a0 (i3 : Int)).bind fun x7 =>
 bif decide ((w64 (z3 + (x7.length : Int))) < (0 : Int)) then (none) else
 some (w64 (z3 + (x7.length : Int)))
def slices_Concat_api_Word_api_Word (a0 : List (List Word)) : Option (List Word) :=
 (rangeF (slices_Concat_api_Word_api_Word_B0 a0) a0.length 0 (0 : Int)).bind fun y4 =>
 (slices_Grow_api_Word_api_Word y4).bind fun r12 =>
 (rangeF (slices_Concat_api_Word_api_Word_B2 a0) a0.length 0 r12).bind fun l21 =>
 some l21
def partref_overThanks (a0 : Over) (a1 : Int) : Option Over :=
 (lat a0.Hands a1).bind fun x9 =>
 ((bif a1 != (0 : Int) then (some (x9.Boss != (-1 : Int))) else
 some false).bind fun y21 =>
 (bif y21 then (some (!x9.Busy)) else
 some false).bind fun y26 =>
 (bif y26 then (some (x9.Owed == (0 : Int))) else
 some false).bind fun y31 =>
 bif y31 then ((room a0.Way ([({ Word.zero with From := a1, To := x9.Boss } : Word)] : List Word)).bind fun u38 =>
 (lat a0.Hands a1).bind fun x41 =>
 Let (a0.Hands.set a1.toNat ({ x41 with Boss := (-1 : Int) } : Hand)) fun p44 =>
 some (({ a0 with Hands := p44, Way := a0.Way ++ ([({ Word.zero with From := a1, To := x9.Boss } : Word)] : List Word) } : Over), p44, a0.Way ++ ([({ Word.zero with From := a1, To := x9.Boss } : Word)] : List Word))) else
 some (a0, a0.Hands, a0.Way)).bind fun (y14, l16, l18) =>
 some ({ y14 with Hands := l16, Way := l18 } : Over)
def partref_OverTake (a0 : Over) (a1 : Int) : Option Over :=
 (lat a0.Way a1).bind fun x7 =>
 (slices_Clone_api_Hand_api_Hand a0.Hands).bind fun r12 =>
 (cutL a0.Way 0 a1).bind fun m18 =>
 (cutL a0.Way (w64 (a1 + (1 : Int))) (a0.Way.length : Int)).bind fun m23 =>
 (slices_Concat_api_Word_api_Word ([m18, m23] : List (List Word))).bind fun r32 =>
 Let (([] : List Word), ([] : List Hand), r32, ([m18, m23] : List (List Word)), r12) fun (l45, l47, l49, l51, l56) =>
 (lat l56 x7.To).bind fun x128 =>
 bif x7.At == (0 : Int) then ((bif decide (x128.Owed > (0 : Int)) then (Let (l56.set x7.To.toNat ({ x128 with Owed := w64 (x128.Owed - (1 : Int)) } : Hand)) fun p137 =>
 some (({ Over.zero with Hands := p137, Way := l49 } : Over), p137)) else
 some (({ Over.zero with Hands := l56, Way := l49 } : Over), l56)).bind fun (y132, l134) =>
 (partref_overThanks ({ y132 with Hands := l134, Way := l49 } : Over) x7.To).bind fun r141 =>
 some r141) else
 Let (l56.set x7.To.toNat ({ x128 with Busy := true } : Hand)) fun p149 =>
 (bif x7.To != (0 : Int) then ((lat p149 x7.To).bind fun x154 =>
 some (x154.Boss == (-1 : Int))) else
 some false).bind fun y152 =>
 bif y152 then ((lat p149 x7.To).bind fun x160 =>
 Let (p149.set x7.To.toNat ({ x160 with Boss := x7.From } : Hand)) fun p163 =>
 some ({ Over.zero with Hands := p163, Way := l49 } : Over)) else
 (room l49 ([({ Word.zero with From := x7.To, To := x7.From } : Word)] : List Word)).bind fun u167 =>
 some ({ Over.zero with Hands := p149, Way := l49 ++ ([({ Word.zero with From := x7.To, To := x7.From } : Word)] : List Word) } : Over)
def partref_OverRest (a0 : Over) (a1 : Int) : Option (Over × Int) :=
 (lat a0.Hands a1).bind fun x7 =>
 bif !x7.Busy then (some (({ Over.zero with Hands := ([] : List Hand), Way := ([] : List Word) } : Over), (11 : Int))) else
 bif (a0.Way.length : Int) == (100 : Int) then (some (({ Over.zero with Hands := ([] : List Hand), Way := ([] : List Word) } : Over), (8 : Int))) else
 (slices_Clone_api_Hand_api_Hand a0.Hands).bind fun r16 =>
 (slices_Clone_api_Word_api_Word a0.Way).bind fun r22 =>
 Let (([] : List Word), ([] : List Hand), r22, r16) fun (l35, l37, l39, l41) =>
 (lat l41 a1).bind fun x64 =>
 Let (l41.set a1.toNat ({ x64 with Busy := false } : Hand)) fun p67 =>
 (partref_overThanks ({ Over.zero with Hands := p67, Way := l39 } : Over) a1).bind fun r69 =>
 some (r69, (0 : Int))
def partref_OverGive (a0 : Over) (a1 : Int) (a2 : Int) : Option (Over × Int) :=
 (lat a0.Hands a1).bind fun x7 =>
 bif !x7.Busy then (some (({ Over.zero with Hands := ([] : List Hand), Way := ([] : List Word) } : Over), (11 : Int))) else
 (lat a0.Hands a1).bind fun x13 =>
 (bif x13.Owed == (16777215 : Int) then (some true) else
 some ((a0.Way.length : Int) == (100 : Int))).bind fun y17 =>
 bif y17 then (some (({ Over.zero with Hands := ([] : List Hand), Way := ([] : List Word) } : Over), (8 : Int))) else
 (slices_Clone_api_Hand_api_Hand a0.Hands).bind fun r24 =>
 (slices_Clone_api_Word_api_Word a0.Way).bind fun r30 =>
 (room r30 ([({ Word.zero with From := a1, To := a2, At := (1 : Int) } : Word)] : List Word)).bind fun u38 =>
 Let (([] : List Word), ([] : List Hand), ([({ Word.zero with From := a1, To := a2, At := (1 : Int) } : Word)] : List Word), r30 ++ ([({ Word.zero with From := a1, To := a2, At := (1 : Int) } : Word)] : List Word), r24) fun (l48, l50, l52, l54, l56) =>
 (lat l56 a1).bind fun x145 =>
 (lat l56 a1).bind fun x148 =>
 Let (l56.set a1.toNat ({ x148 with Owed := w64 (x145.Owed + (1 : Int)) } : Hand)) fun p151 =>
 some (({ Over.zero with Hands := p151, Way := l54 } : Over), (0 : Int))
def partlaw_OverSays (fu : Nat) (a0 : Over) (a1 : Int) (a2 : Int) (a3 : Int) (a4 : Int) : Option Bool :=
 (partref_OverErr a0).bind fun r3 =>
 (over_New fu a1).bind fun r11 =>
 (over_Give a0 a2 a3).bind fun r23 =>
 (over_Take a0 a4).bind fun r35 =>
 (over_Rest a0 a2).bind fun r47 =>
 (over_Done a0).bind fun r59 =>
 andThen ((bif decide (a1 < (1 : Int)) then (some true) else
 some (decide (a1 > (6 : Int)))).bind fun y65 =>
 bif y65 then ((partref_SameOver r11.1 Over.zero).bind fun r70 =>
 (bif !r70 then (some true) else
 some (r11.2 != (1 : Int))).bind fun y75 =>
 bif y75 then (some (.inr false)) else
 some (.inl ())) else
 (slices_Repeat_api_Hand_api_Hand fu ([({ Hand.zero with Boss := (-1 : Int) } : Hand)] : List Hand) a1).bind fun r82 =>
 (lat r82 (0 : Int)).bind fun x88 =>
 Let (r82.set (0 : Int).toNat ({ x88 with Busy := true } : Hand)) fun p91 =>
 (partref_SameOver r11.1 ({ Over.zero with Hands := p91 } : Over)).bind fun r93 =>
 (bif !r93 then (some true) else
 some (r11.2 != (0 : Int))).bind fun y98 =>
 bif y98 then (some (.inr false)) else
 some (.inl ())) fun _ =>
 (over_Check a0).bind fun r105 =>
 bif r105 != r3 then (some false) else
 bif r3 != (0 : Int) then ((partref_SameOver r23.1 Over.zero).bind fun r111 =>
 (bif r111 then (some (r23.2 == r3)) else
 some false).bind fun y116 =>
 (bif y116 then ((partref_SameOver r35.1 Over.zero).bind fun r123 =>
 some r123) else
 some false).bind fun y121 =>
 (bif y121 then (some (r35.2 == r3)) else
 some false).bind fun y130 =>
 (bif y130 then ((partref_SameOver r47.1 Over.zero).bind fun r137 =>
 some r137) else
 some false).bind fun y135 =>
 (bif y135 then (some (r47.2 == r3)) else
 some false).bind fun y144 =>
 (bif y144 then (some (!r59.1)) else
 some false).bind fun y149 =>
 (bif y149 then (some (r59.2 == r3)) else
 some false).bind fun y154 =>
 some y154) else
 (lat a0.Hands (0 : Int)).bind fun x158 =>
 (bif !x158.Busy then ((lat a0.Hands (0 : Int)).bind fun x164 =>
 some (x164.Owed == (0 : Int))) else
 some false).bind fun y162 =>
 (bif r59.1 != y162 then (some true) else
 some (r59.2 != (0 : Int))).bind fun y170 =>
 bif y170 then (some false) else
 andThen ((bif decide (a4 < (0 : Int)) then (some true) else
 some (decide (a4 ≥ (a0.Way.length : Int)))).bind fun y177 =>
 bif y177 then ((partref_SameOver r35.1 Over.zero).bind fun r182 =>
 (bif !r182 then (some true) else
 some (r35.2 != (6 : Int))).bind fun y187 =>
 bif y187 then (some (.inr false)) else
 some (.inl ())) else
 (partref_OverTake a0 a4).bind fun r192 =>
 Let (r192.Hands, r192.Way) fun (l202, l204) =>
 (partref_SameOver r35.1 ({ r192 with Hands := l202, Way := l204 } : Over)).bind fun r213 =>
 (bif !r213 then (some true) else
 some (r35.2 != (0 : Int))).bind fun y218 =>
 bif y218 then (some (.inr false)) else
 some (.inl ())) fun _ =>
 (bif decide (a2 < (0 : Int)) then (some true) else
 some (decide (a2 ≥ (a0.Hands.length : Int)))).bind fun y226 =>
 bif y226 then ((partref_SameOver r23.1 Over.zero).bind fun r231 =>
 (bif r231 then (some (r23.2 == (1 : Int))) else
 some false).bind fun y236 =>
 (bif y236 then ((partref_SameOver r47.1 Over.zero).bind fun r243 =>
 some r243) else
 some false).bind fun y241 =>
 (bif y241 then (some (r47.2 == (1 : Int))) else
 some false).bind fun y250 =>
 some y250) else
 (partref_OverRest a0 a2).bind fun r254 =>
 (partref_SameOver r47.1 r254.1).bind fun r266 =>
 (bif !r266 then (some true) else
 some (r47.2 != r254.2)).bind fun y271 =>
 bif y271 then (some false) else
 (bif decide (a3 < (0 : Int)) then (some true) else
 some (decide (a3 ≥ (a0.Hands.length : Int)))).bind fun y277 =>
 (bif y277 then (some true) else
 some (a2 == a3)).bind fun y282 =>
 bif y282 then ((partref_SameOver r23.1 Over.zero).bind fun r287 =>
 (bif r287 then (some (r23.2 == (1 : Int))) else
 some false).bind fun y292 =>
 some y292) else
 (partref_OverGive a0 a2 a3).bind fun r296 =>
 (partref_SameOver r23.1 r296.1).bind fun r308 =>
 (bif r308 then (some (r23.2 == r296.2)) else
 some false).bind fun y313 =>
 some y313
end Go.Proofs.Ytobikknjaomalaa
