/-
  What the functions compute, typed; printed by a program.
-/
import Derived.Test.YtilflhdhcleneaaGoC
namespace Go.Proofs.Ytilflhdhcleneaa
open Go.RowKit Enc
set_option linter.unusedVariables false
set_option linter.unusedSimpArgs false
structure Pulse where
  Me : Int
  Now : Int
  Last : Vector Int 6
  Wait : Vector Int 6
  Doubt : Vector Bool 6
instance : DecidableEq Pulse := fun a b => decidable_of_iff (a.Me = b.Me ∧ a.Now = b.Now ∧ a.Last = b.Last ∧ a.Wait = b.Wait ∧ a.Doubt = b.Doubt) (by cases a; cases b; simp)
def Pulse.zero : Pulse := ⟨(0 : Int), (0 : Int), (Vector.replicate 6 (0 : Int)), (Vector.replicate 6 (0 : Int)), (Vector.replicate 6 false)⟩
instance : Enc Pulse := ⟨fun p => enc p.Me ++ (enc p.Now ++ (enc p.Last ++ (enc p.Wait ++ (enc p.Doubt)))), 20, fun p => by simp only [List.length_append, Enc.len]; rfl, fun p => by simp only [List.all_append, Enc.one, Bool.and_self]⟩
instance : Rng Pulse := ⟨fun p => Rng.ok p.Me ∧ Rng.ok p.Now ∧ Rng.ok p.Last ∧ Rng.ok p.Wait ∧ Rng.ok p.Doubt⟩
theorem Pulse.get_Me {p : Pulse} {k : Nat} {ch : List Value} (h : Get (enc p.Me) k ch) : Get (enc p) (0 + k) ch := Get.off (Get.left h) (by omega)
theorem Pulse.put_Me {p : Pulse} {k : Nat} {vs : List Value} {y : Int} (h : Put (enc p.Me) k vs (enc y)) : Put (enc p) (0 + k) vs (enc { p with Me := y }) := Put.off (cs' := enc { p with Me := y }) (Put.left h) (by omega)
theorem Pulse.get_Now {p : Pulse} {k : Nat} {ch : List Value} (h : Get (enc p.Now) k ch) : Get (enc p) (1 + k) ch := Get.off (Get.right (m := 1) (Enc.len _) (Get.left h)) (by omega)
theorem Pulse.put_Now {p : Pulse} {k : Nat} {vs : List Value} {y : Int} (h : Put (enc p.Now) k vs (enc y)) : Put (enc p) (1 + k) vs (enc { p with Now := y }) := Put.off (cs' := enc { p with Now := y }) (Put.right (m := 1) (Enc.len _) (Put.left h)) (by omega)
theorem Pulse.get_Last {p : Pulse} {k : Nat} {ch : List Value} (h : Get (enc p.Last) k ch) : Get (enc p) (2 + k) ch := Get.off (Get.right (m := 1) (Enc.len _) (Get.right (m := 1) (Enc.len _) (Get.left h))) (by omega)
theorem Pulse.put_Last {p : Pulse} {k : Nat} {vs : List Value} {y : Vector Int 6} (h : Put (enc p.Last) k vs (enc y)) : Put (enc p) (2 + k) vs (enc { p with Last := y }) := Put.off (cs' := enc { p with Last := y }) (Put.right (m := 1) (Enc.len _) (Put.right (m := 1) (Enc.len _) (Put.left h))) (by omega)
theorem Pulse.get_Wait {p : Pulse} {k : Nat} {ch : List Value} (h : Get (enc p.Wait) k ch) : Get (enc p) (8 + k) ch := Get.off (Get.right (m := 1) (Enc.len _) (Get.right (m := 1) (Enc.len _) (Get.right (m := 6) (Enc.len _) (Get.left h)))) (by omega)
theorem Pulse.put_Wait {p : Pulse} {k : Nat} {vs : List Value} {y : Vector Int 6} (h : Put (enc p.Wait) k vs (enc y)) : Put (enc p) (8 + k) vs (enc { p with Wait := y }) := Put.off (cs' := enc { p with Wait := y }) (Put.right (m := 1) (Enc.len _) (Put.right (m := 1) (Enc.len _) (Put.right (m := 6) (Enc.len _) (Put.left h)))) (by omega)
theorem Pulse.get_Doubt {p : Pulse} {k : Nat} {ch : List Value} (h : Get (enc p.Doubt) k ch) : Get (enc p) (14 + k) ch := Get.off (Get.right (m := 1) (Enc.len _) (Get.right (m := 1) (Enc.len _) (Get.right (m := 6) (Enc.len _) (Get.right (m := 6) (Enc.len _) h)))) (by omega)
theorem Pulse.put_Doubt {p : Pulse} {k : Nat} {vs : List Value} {y : Vector Bool 6} (h : Put (enc p.Doubt) k vs (enc y)) : Put (enc p) (14 + k) vs (enc { p with Doubt := y }) := Put.off (cs' := enc { p with Doubt := y }) (Put.right (m := 1) (Enc.len _) (Put.right (m := 1) (Enc.len _) (Put.right (m := 6) (Enc.len _) (Put.right (m := 6) (Enc.len _) h)))) (by omega)
def partref_PulseErr_L14 (a0 : Pulse) (i14 : Nat) (z14 : Unit) : Option (Ctl Unit Int) :=
 ((vat a0.Last (i14 : Int)).bind fun x16 =>
 bif decide (x16 < (0 : Int)) then (some true) else
 (vat a0.Last (i14 : Int)).bind fun x21 =>
 bif decide (x21 > a0.Now) then (some true) else
 (vat a0.Wait (i14 : Int)).bind fun x26 =>
 bif decide (x26 < (1 : Int)) then (some true) else
 (vat a0.Wait (i14 : Int)).bind fun x31 =>
 some (decide (x31 > (1000 : Int)))).bind fun y35 =>
 bif y35 then (some (.ret (1 : Int))) else
 ((vat a0.Doubt (i14 : Int)).bind fun x39 =>
 bif x39 then (some ((i14 : Int) == a0.Me)) else
 some false).bind fun y45 =>
 bif y45 then (some (.ret (4 : Int))) else
 some (.go ())
def partref_PulseErr (a0 : Pulse) : Option Int :=
 (bif decide (a0.Me < (0 : Int)) then (some true) else
 bif decide (a0.Me > (5 : Int)) then (some true) else
 bif decide (a0.Now < (0 : Int)) then (some true) else
 some (decide (a0.Now > (16777215 : Int)))).bind fun y11 =>
 bif y11 then (some (1 : Int)) else
 andThen (rangeM (partref_PulseErr_L14 a0) 6 0 ()) fun _ =>
 some (0 : Int)
def pulse_in (a0 : Int) (a1 : Int) (a2 : Int) : Option Bool :=
 (bif decide (a0 ≥ a1) then (some (decide (a0 ≤ a2))) else
 some false).bind fun y5 =>
 some y5
def pulse_Check_L14 (a0 : Pulse) (i14 : Nat) (z14 : Unit) : Option (Ctl Unit Int) :=
 ((vat a0.Last (i14 : Int)).bind fun x16 =>
 (pulse_in x16 (0 : Int) a0.Now).bind fun r19 =>
 bif !r19 then (some true) else
 (vat a0.Wait (i14 : Int)).bind fun x23 =>
 (pulse_in x23 (1 : Int) (1000 : Int)).bind fun r26 =>
 some (!r26)).bind fun y29 =>
 bif y29 then (some (.ret (1 : Int))) else
 (bif (i14 : Int) == a0.Me then ((vat a0.Doubt (i14 : Int)).bind fun x35 =>
 some x35) else
 some false).bind fun y39 =>
 bif y39 then (some (.ret (4 : Int))) else
 some (.go ())
def pulse_Check (a0 : Pulse) : Option Int :=
 ((pulse_in a0.Me (0 : Int) (5 : Int)).bind fun r4 =>
 bif !r4 then (some true) else
 (pulse_in a0.Now (0 : Int) (16777215 : Int)).bind fun r8 =>
 some (!r8)).bind fun y11 =>
 bif y11 then (some (1 : Int)) else
 andThen (rangeM (pulse_Check_L14 a0) 6 0 ()) fun _ =>
 some (0 : Int)
def pulse_New_L5 (a1 : Int) (i5 : Nat) (z5 : Pulse) : Option Pulse :=
 (vat z5.Wait (i5 : Int)).bind fun x7 =>
 Let ({ z5 with Wait := z5.Wait.setIfInBounds (i5 : Int).toNat a1 }) fun p10 =>
 some p10
def pulse_New (a0 : Int) (a1 : Int) : Option (Pulse × Int) :=
 (rangeF (pulse_New_L5 a1) 6 0 ({ Pulse.zero with Me := a0 } : Pulse)).bind fun y6 =>
 (pulse_Check y6).bind fun r12 =>
 bif r12 != (0 : Int) then (some ((Pulse.zero : Pulse), r12)) else
 some (y6, (0 : Int))
def pulse_Tick_L20 (i20 : Nat) (z20 : (List Int) × Pulse) : Option ((List Int) × Pulse) :=
 (bif (i20 : Int) != z20.2.Me then ((vat z20.2.Doubt (i20 : Int)).bind fun x27 =>
 bif !x27 then ((vat z20.2.Last (i20 : Int)).bind fun x32 =>
 (vat z20.2.Wait (i20 : Int)).bind fun x35 =>
 some (decide ((w64 (z20.2.Now - x32)) > x35))) else
 some false) else
 some false).bind fun y39 =>
 bif y39 then ((vat z20.2.Doubt (i20 : Int)).bind fun x42 =>
 Let ({ z20.2 with Doubt := z20.2.Doubt.setIfInBounds (i20 : Int).toNat true }) fun p45 =>
 (room z20.1 ([(i20 : Int)] : List Int)).bind fun u49 =>
 some (z20.1 ++ ([(i20 : Int)] : List Int), p45)) else
 some (z20.1, z20.2)
def pulse_Tick (a0 : Pulse) : Option (Pulse × (List Int) × Int) :=
 (pulse_Check a0).bind fun r6 =>
 bif r6 != (0 : Int) then (some ((Pulse.zero : Pulse), ([] : List Int), r6)) else
 bif a0.Now == (16777215 : Int) then (some ((Pulse.zero : Pulse), ([] : List Int), (8 : Int))) else
 Let ({ a0 with Now := w64 (a0.Now + (1 : Int)) }) fun p12 =>
 (vat p12.Last p12.Me).bind fun x14 =>
 Let ({ p12 with Last := p12.Last.setIfInBounds p12.Me.toNat p12.Now }) fun p17 =>
 (rangeF (pulse_Tick_L20) 6 0 (([] : List Int), p17)).bind fun (l22, y23) =>
 some (y23, l22, (0 : Int))
def pulse_Hear (a0 : Pulse) (a1 : Int) : Option (Pulse × Bool × Int) :=
 (pulse_Check a0).bind fun r5 =>
 bif r5 != (0 : Int) then (some ((Pulse.zero : Pulse), false, r5)) else
 ((pulse_in a1 (0 : Int) (5 : Int)).bind fun r9 =>
 bif !r9 then (some true) else
 some (a1 == a0.Me)).bind fun y14 =>
 bif y14 then (some ((Pulse.zero : Pulse), false, (1 : Int))) else
 (vat a0.Last a1).bind fun x17 =>
 Let ({ a0 with Last := a0.Last.setIfInBounds a1.toNat a0.Now }) fun p20 =>
 (vat p20.Doubt a1).bind fun x22 =>
 bif !x22 then (some (p20, false, (0 : Int))) else
 (vat p20.Doubt a1).bind fun x26 =>
 Let ({ p20 with Doubt := p20.Doubt.setIfInBounds a1.toNat false }) fun p29 =>
 (vat p29.Wait a1).bind fun x31 =>
 (vat p29.Wait a1).bind fun x34 =>
 Let ({ p29 with Wait := p29.Wait.setIfInBounds a1.toNat (min (w64 (x31 + (1 : Int))) (1000 : Int)) }) fun p37 =>
 some (p37, true, (0 : Int))
def pulse_Lead_L6 (a0 : Pulse) (z6 : Int) : Option (Ctl Int (Int × Int)) :=
 (vat a0.Doubt z6).bind fun x8 =>
 bif x8 then (some (.go (w64 (z6 + (1 : Int))))) else
 some (.brk z6)
def pulse_Lead (fu : Nat) (a0 : Pulse) : Option (Int × Int) :=
 (pulse_Check a0).bind fun r3 =>
 bif r3 != (0 : Int) then (some ((0 : Int), r3)) else
 andThen (whileM (pulse_Lead_L6 a0) fu (0 : Int)) fun y7 =>
 some (y7, (0 : Int))
def slices_Index_bool_bool_L1 (a0 : List Bool) (a1 : Bool) (i1 : Nat) (z1 : Unit) : Option (Ctl Unit Int) :=
 (lat a0 (i1 : Int)).bind fun x2 =>
 bif a1 == x2 then (some (.ret (i1 : Int))) else
 some (.go ())
def slices_Index_bool_bool (a0 : List Bool) (a1 : Bool) : Option Int :=
 andThen (rangeM (slices_Index_bool_bool_L1 a0 a1) a0.length 0 ()) fun _ =>
 some (-1 : Int)
def slices_Equal_int_int_L2 (a0 : List Int) (a1 : List Int) (i2 : Nat) (z2 : Unit) : Option (Ctl Unit Bool) :=
 (lat a0 (i2 : Int)).bind fun x3 =>
 (lat a1 (i2 : Int)).bind fun x6 =>
 bif x3 != x6 then (some (.ret false)) else
 some (.go ())
def slices_Equal_int_int (a0 : List Int) (a1 : List Int) : Option Bool :=
 bif (a0.length : Int) != (a1.length : Int) then (some false) else
 andThen (rangeM (slices_Equal_int_int_L2 a0 a1) a0.length 0 ()) fun _ =>
 some true
def partlaw_PulseSays_L85 (a0 : Pulse) (i85 : Nat) (z85 : (List Int) × Pulse) : Option ((List Int) × Pulse) :=
 (bif (i85 : Int) != a0.Me then ((vat a0.Doubt (i85 : Int)).bind fun x92 =>
 bif !x92 then ((vat a0.Last (i85 : Int)).bind fun x97 =>
 (vat a0.Wait (i85 : Int)).bind fun x100 =>
 some (decide ((w64 (z85.2.Now - x97)) > x100))) else
 some false) else
 some false).bind fun y104 =>
 bif y104 then ((vat z85.2.Doubt (i85 : Int)).bind fun x107 =>
 Let ({ z85.2 with Doubt := z85.2.Doubt.setIfInBounds (i85 : Int).toNat true }) fun p110 =>
 (room z85.1 ([(i85 : Int)] : List Int)).bind fun u114 =>
 some (z85.1 ++ ([(i85 : Int)] : List Int), p110)) else
 some (z85.1, z85.2)
def partlaw_PulseSays (fu : Nat) (a0 : Pulse) (a1 : Int) (a2 : Int) (a3 : Int) : Option Bool :=
 (partref_PulseErr a0).bind fun r3 =>
 (pulse_New a1 a2).bind fun r7 =>
 (pulse_Tick a0).bind fun r11 =>
 (pulse_Hear a0 a3).bind fun r17 =>
 (pulse_Lead fu a0).bind fun r21 =>
 andThen ((partref_PulseErr ({ ({ Pulse.zero with Me := a1 } : Pulse) with Wait := (#v[a2, a2, a2, a2, a2, a2] : Vector Int 6) } : Pulse)).bind fun r26 =>
 bif r26 != (0 : Int) then ((bif !(decide (r7.1 = (Pulse.zero : Pulse))) then (some true) else
 some (r7.2 != (1 : Int))).bind fun y33 =>
 bif y33 then (some (.inr false)) else
 some (.inl ())) else
 (bif !(decide (r7.1 = ({ ({ Pulse.zero with Me := a1 } : Pulse) with Wait := (#v[a2, a2, a2, a2, a2, a2] : Vector Int 6) } : Pulse))) then (some true) else
 some (r7.2 != (0 : Int))).bind fun y40 =>
 bif y40 then (some (.inr false)) else
 some (.inl ())) fun _ =>
 (pulse_Check a0).bind fun r44 =>
 bif r44 != r3 then (some false) else
 bif r3 != (0 : Int) then ((bif decide (r11.1 = (Pulse.zero : Pulse)) then (bif (r11.2.1.length : Int) == (0 : Int) then (bif r11.2.2 == r3 then (bif decide (r17.1 = (Pulse.zero : Pulse)) then (bif !r17.2.1 then (bif r17.2.2 == r3 then (bif r21.1 == (0 : Int) then (some (r21.2 == r3)) else
 some false) else
 some false) else
 some false) else
 some false) else
 some false) else
 some false) else
 some false).bind fun y64 =>
 some y64) else
 (slices_Index_bool_bool a0.Doubt.toList false).bind fun r66 =>
 (bif r21.1 != r66 then (some true) else
 some (r21.2 != (0 : Int))).bind fun y72 =>
 bif y72 then (some false) else
 Let ({ a0 with Now := w64 (a0.Now + (1 : Int)) }) fun p77 =>
 (vat p77.Last a0.Me).bind fun x79 =>
 Let ({ p77 with Last := p77.Last.setIfInBounds a0.Me.toNat p77.Now }) fun p82 =>
 (rangeF (partlaw_PulseSays_L85 a0) 6 0 (([] : List Int), p82)).bind fun (l87, y88) =>
 andThen (bif a0.Now == (16777215 : Int) then ((bif !(decide (r11.1 = (Pulse.zero : Pulse))) then (some true) else
 bif decide ((r11.2.1.length : Int) > (0 : Int)) then (some true) else
 some (r11.2.2 != (8 : Int))).bind fun y125 =>
 bif y125 then (some (.inr false)) else
 some (.inl ())) else
 (bif !(decide (r11.1 = y88)) then (some true) else
 (slices_Equal_int_int r11.2.1 l87).bind fun r131 =>
 bif !r131 then (some true) else
 some (r11.2.2 != (0 : Int))).bind fun y136 =>
 bif y136 then (some (.inr false)) else
 some (.inl ())) fun _ =>
 (bif decide (a3 < (0 : Int)) then (some true) else
 bif decide (a3 > (5 : Int)) then (some true) else
 some (a3 == a0.Me)).bind fun y146 =>
 bif y146 then ((bif decide (r17.1 = (Pulse.zero : Pulse)) then (bif !r17.2.1 then (some (r17.2.2 == (1 : Int))) else
 some false) else
 some false).bind fun y155 =>
 some y155) else
 (vat a0.Last a3).bind fun x159 =>
 Let ({ a0 with Last := a0.Last.setIfInBounds a3.toNat a0.Now }) fun p162 =>
 ((vat a0.Doubt a3).bind fun x165 =>
 bif x165 then ((vat p162.Doubt a3).bind fun x170 =>
 Let ({ p162 with Doubt := p162.Doubt.setIfInBounds a3.toNat false }) fun p173 =>
 (vat a0.Wait a3).bind fun x175 =>
 (vat p173.Wait a3).bind fun x178 =>
 Let ({ p173 with Wait := p173.Wait.setIfInBounds a3.toNat (min (w64 (x175 + (1 : Int))) (1000 : Int)) }) fun p181 =>
 some p181) else
 some p162).bind fun y184 =>
 (bif decide (r17.1 = y184) then ((vat a0.Doubt a3).bind fun x189 =>
 bif r17.2.1 == x189 then (some (r17.2.2 == (0 : Int))) else
 some false) else
 some false).bind fun y195 =>
 some y195
end Go.Proofs.Ytilflhdhcleneaa
