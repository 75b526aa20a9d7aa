/-
  What the functions compute, typed; printed by a program.
-/
import Derived.Test.YtobikknjaomalaaGoI
namespace Go.Proofs.Ytobikknjaomalaa
open Go.RowKit Enc
set_option linter.unusedVariables false
set_option linter.unusedSimpArgs false
structure Mail where
  From : Int
  At : Vector Int 6
  Text : Str
instance : DecidableEq Mail := fun a b => decidable_of_iff (a.From = b.From ∧ a.At = b.At ∧ a.Text = b.Text) (by cases a; cases b; simp)
def Mail.zero : Mail := ⟨(0 : Int), (Vector.replicate 6 (0 : Int)), ([] : Str)⟩
instance : Enc Mail := ⟨fun p => enc p.From ++ (enc p.At ++ (enc p.Text)), 8, fun p => by simp only [List.length_append, Enc.len]; rfl, fun p => by simp only [List.all_append, Enc.one, Bool.and_self]⟩
theorem Mail.get_From {p : Mail} {k : Nat} {ch : List Value} (h : Get (enc p.From) k ch) : Get (enc p) (0 + k) ch := Get.off (Get.left h) (by omega)
theorem Mail.put_From {p : Mail} {k : Nat} {vs : List Value} {y : Int} (h : Put (enc p.From) k vs (enc y)) : Put (enc p) (0 + k) vs (enc ({ p with From := y } : Mail)) := Put.off (cs' := enc ({ p with From := y } : Mail)) (Put.left h) (by omega)
theorem Mail.get_At {p : Mail} {k : Nat} {ch : List Value} (h : Get (enc p.At) k ch) : Get (enc p) (1 + k) ch := Get.off (Get.right (m := 1) (Enc.len _) (Get.left h)) (by omega)
theorem Mail.put_At {p : Mail} {k : Nat} {vs : List Value} {y : Vector Int 6} (h : Put (enc p.At) k vs (enc y)) : Put (enc p) (1 + k) vs (enc ({ p with At := y } : Mail)) := Put.off (cs' := enc ({ p with At := y } : Mail)) (Put.right (m := 1) (Enc.len _) (Put.left h)) (by omega)
theorem Mail.get_Text {p : Mail} {k : Nat} {ch : List Value} (h : Get (enc p.Text) k ch) : Get (enc p) (7 + k) ch := Get.off (Get.right (m := 1) (Enc.len _) (Get.right (m := 6) (Enc.len _) h)) (by omega)
theorem Mail.put_Text {p : Mail} {k : Nat} {vs : List Value} {y : Str} (h : Put (enc p.Text) k vs (enc y)) : Put (enc p) (7 + k) vs (enc ({ p with Text := y } : Mail)) := Put.off (cs' := enc ({ p with Text := y } : Mail)) (Put.right (m := 1) (Enc.len _) (Put.right (m := 6) (Enc.len _) h)) (by omega)
instance : Rng Mail := ⟨fun p => Rng.ok p.From ∧ Rng.ok p.At ∧ Rng.ok p.Text⟩
structure Causal where
  Me : Int
  Seen : Vector Int 6
  Hold : List Mail
instance : DecidableEq Causal := fun a b => decidable_of_iff (a.Me = b.Me ∧ a.Seen = b.Seen ∧ a.Hold = b.Hold) (by cases a; cases b; simp)
def Causal.zero : Causal := ⟨(0 : Int), (Vector.replicate 6 (0 : Int)), []⟩
instance : Rng Causal := ⟨fun p => Rng.ok p.Me ∧ Rng.ok p.Seen ∧ Rng.ok p.Hold⟩
def slices_Min_int_int_B0 (a0 : List Int) (z5 : Int × Int) : Option (Ctl (Int × Int) Int) :=
 bif decide (z5.2 < (a0.length : Int)) then ((lat a0 z5.2).bind fun x11 =>
 some (.go (min z5.1 x11, w64 (z5.2 + (1 : Int))))) else
 some (.brk (z5.1, z5.2))
def slices_Min_int_int (fu : Nat) (a0 : List Int) : Option Int :=
 bif decide ((a0.length : Int) < (1 : Int)) then (none) else
 (lat a0 (0 : Int)).bind fun x2 =>
 andThen (whileM (slices_Min_int_int_B0 a0) fu (x2, (1 : Int))) fun (y6, y7) =>
 some y6
def partref_MailRight (fu : Nat) (a0 : Mail) : Option Bool :=
 (bif decide (a0.From ≥ (0 : Int)) then (some (decide (a0.From ≤ (5 : Int)))) else
 some false).bind fun y4 =>
 (bif y4 then ((slices_Min_int_int fu a0.At.toList).bind fun r11 =>
 some (decide (r11 ≥ (0 : Int)))) else
 some false).bind fun y9 =>
 (bif y9 then ((vat a0.At a0.From).bind fun x20 =>
 some (decide (x20 > (0 : Int)))) else
 some false).bind fun y18 =>
 some y18
def partref_MailReady_B0 (a0 : Vector Int 6) (a1 : Mail) (i5 : Nat) (z5 : Unit) : Option (Ctl Unit Bool) :=
 (bif (i5 : Int) == a1.From then ((vat a1.At (i5 : Int)).bind fun x11 =>
 (vat a0 (i5 : Int)).bind fun x14 =>
 some (x11 != (w64 (x14 + (1 : Int))))) else
 some false).bind fun y9 =>
 (bif y9 then (some true) else
 (bif (i5 : Int) != a1.From then ((vat a1.At (i5 : Int)).bind fun x23 =>
 (vat a0 (i5 : Int)).bind fun x26 =>
 some (decide (x23 > x26))) else
 some false).bind fun y21 =>
 some y21).bind fun y18 =>
 bif y18 then (some (.ret false)) else
 some (.go ())
def partref_MailReady (a0 : Vector Int 6) (a1 : Mail) : Option Bool :=
 andThen (rangeM (partref_MailReady_B0 a0 a1) 6 0 ()) fun _ =>
 some true
def partref_sameMail (a0 : Mail) (a1 : Mail) : Option Bool :=
 (bif a0.From == a1.From then ((vat a0.At a0.From).bind fun x8 =>
 (vat a1.At a1.From).bind fun x11 =>
 some (x8 == x11)) else
 some false).bind fun y6 =>
 some y6
def partref_CausalErr_1 (a0 : Mail) (a1 : Mail) : Option Bool :=
 (partref_sameMail a0 a1).bind fun r4 =>
 some r4
def slices_IndexFunc_api_Mail_api_Mail_CausalErr_1_B0 (a0 : List Mail) (a1_c0 : Mail) (i2 : Nat) (z2 : Unit) : Option (Ctl Unit Int) :=
 (lat a0 (i2 : Int)).bind fun x5 =>
 (partref_CausalErr_1 x5 a1_c0).bind fun r8 =>
 bif r8 then (some (.ret (i2 : Int))) else
 some (.go ())
def slices_IndexFunc_api_Mail_api_Mail_CausalErr_1 (a0 : List Mail) (a1_c0 : Mail) : Option Int :=
 andThen (rangeM (slices_IndexFunc_api_Mail_api_Mail_CausalErr_1_B0 a0 a1_c0) a0.length 0 ()) fun _ =>
 some (-1 : Int)
def slices_ContainsFunc_api_Mail_api_Mail_CausalErr_1 (a0 : List Mail) (a1_c0 : Mail) : Option Bool :=
 (slices_IndexFunc_api_Mail_api_Mail_CausalErr_1 a0 a1_c0).bind fun r2 =>
 some (decide (r2 ≥ (0 : Int)))
def partref_CausalErr_B0 (fu : Nat) (a0 : Causal) (i19 : Nat) (z19 : Unit) : Option (Ctl Unit Int) :=
 (lat a0.Hold (i19 : Int)).bind fun x22 =>
 (partref_MailRight fu x22).bind fun r27 =>
 (bif !r27 then (some true) else
 some (x22.From == a0.Me)).bind fun y32 =>
 (bif y32 then (some true) else
 (vat x22.At x22.From).bind fun x37 =>
 (vat a0.Seen x22.From).bind fun x40 =>
 some (decide (x37 ≤ x40))).bind fun y35 =>
 (bif y35 then (some true) else
 (partref_MailReady a0.Seen x22).bind fun r46 =>
 some r46).bind fun y44 =>
 (bif y44 then (some true) else
 (cutL a0.Hold 0 (i19 : Int)).bind fun m53 =>
 (slices_ContainsFunc_api_Mail_api_Mail_CausalErr_1 m53 x22).bind fun r58 =>
 some r58).bind fun y51 =>
 bif y51 then (some (.ret (4 : Int))) else
 some (.go ())
def partref_CausalErr (fu : Nat) (a0 : Causal) : Option Int :=
 (bif decide (a0.Me < (0 : Int)) then (some true) else
 some (decide (a0.Me > (5 : Int)))).bind fun y4 =>
 (bif y4 then (some true) else
 (slices_Min_int_int fu a0.Seen.toList).bind fun r11 =>
 some (decide (r11 < (0 : Int)))).bind fun y9 =>
 bif y9 then (some (1 : Int)) else
 bif decide ((a0.Hold.length : Int) > (40 : Int)) then (some (2 : Int)) else
 andThen (rangeM (partref_CausalErr_B0 fu a0) a0.Hold.length 0 ()) fun _ =>
 some (0 : Int)
def causal_in (a0 : Int) (a1 : Int) (a2 : Int) : Option Bool :=
 (bif decide (a0 ≥ a1) then (some (decide (a0 ≤ a2))) else
 some false).bind fun y2 =>
 some y2
def causal_Check_1 (a0 : Int) : Option Bool :=
 some (decide (a0 < (0 : Int)))
def slices_IndexFunc_int_int_Check_1_B0 (a0 : List Int) (i1 : Nat) (z1 : Unit) : Option (Ctl Unit Int) :=
 (lat a0 (i1 : Int)).bind fun x4 =>
 (causal_Check_1 x4).bind fun r7 =>
 bif r7 then (some (.ret (i1 : Int))) else
 some (.go ())
def slices_IndexFunc_int_int_Check_1 (a0 : List Int) : Option Int :=
 andThen (rangeM (slices_IndexFunc_int_int_Check_1_B0 a0) a0.length 0 ()) fun _ =>
 some (-1 : Int)
def slices_ContainsFunc_int_int_Check_1 (a0 : List Int) : Option Bool :=
 (slices_IndexFunc_int_int_Check_1 a0).bind fun r1 =>
 some (decide (r1 ≥ (0 : Int)))
def causal_formed_1 (a0 : Int) : Option Bool :=
 some (decide (a0 < (0 : Int)))
def slices_IndexFunc_int_int_formed_1_B0 (a0 : List Int) (i1 : Nat) (z1 : Unit) : Option (Ctl Unit Int) :=
 (lat a0 (i1 : Int)).bind fun x4 =>
 (causal_formed_1 x4).bind fun r7 =>
 bif r7 then (some (.ret (i1 : Int))) else
 some (.go ())
def slices_IndexFunc_int_int_formed_1 (a0 : List Int) : Option Int :=
 andThen (rangeM (slices_IndexFunc_int_int_formed_1_B0 a0) a0.length 0 ()) fun _ =>
 some (-1 : Int)
def slices_ContainsFunc_int_int_formed_1 (a0 : List Int) : Option Bool :=
 (slices_IndexFunc_int_int_formed_1 a0).bind fun r1 =>
 some (decide (r1 ≥ (0 : Int)))
def causal_formed (a0 : Mail) : Option Bool :=
 (causal_in a0.From (0 : Int) (5 : Int)).bind fun r3 =>
 (bif r3 then ((slices_ContainsFunc_int_int_formed_1 a0.At.toList).bind fun r10 =>
 some (!r10)) else
 some false).bind fun y8 =>
 (bif y8 then ((vat a0.At a0.From).bind fun x19 =>
 some (decide (x19 > (0 : Int)))) else
 some false).bind fun y17 =>
 some y17
def causal_deliverable_B0 (a0 : Vector Int 6) (a1 : Mail) (i5 : Nat) (z5 : Unit) : Option (Ctl Unit Bool) :=
 (vat a1.At (i5 : Int)).bind fun x8 =>
 (bif (i5 : Int) == a1.From then ((vat a0 (i5 : Int)).bind fun x14 =>
 some (x8 != (w64 (x14 + (1 : Int))))) else
 some false).bind fun y12 =>
 bif y12 then (some (.ret false)) else
 (bif (i5 : Int) != a1.From then ((vat a0 (i5 : Int)).bind fun x23 =>
 some (decide (x8 > x23))) else
 some false).bind fun y21 =>
 bif y21 then (some (.ret false)) else
 some (.go ())
def causal_deliverable (a0 : Vector Int 6) (a1 : Mail) : Option Bool :=
 andThen (rangeM (causal_deliverable_B0 a0 a1) 6 0 ()) fun _ =>
 some true
def causal_same (a0 : Mail) (a1 : Mail) : Option Bool :=
 (bif a0.From == a1.From then ((vat a0.At a0.From).bind fun x8 =>
 (vat a1.At a1.From).bind fun x11 =>
 some (x8 == x11)) else
 some false).bind fun y6 =>
 some y6
def causal_Check_2 (a0 : Mail) (a1 : Mail) : Option Bool :=
 (causal_same a0 a1).bind fun r4 =>
 some r4
def slices_IndexFunc_api_Mail_api_Mail_Check_2_B0 (a0 : List Mail) (a1_c0 : Mail) (i2 : Nat) (z2 : Unit) : Option (Ctl Unit Int) :=
 (lat a0 (i2 : Int)).bind fun x5 =>
 (causal_Check_2 x5 a1_c0).bind fun r8 =>
 bif r8 then (some (.ret (i2 : Int))) else
 some (.go ())
def slices_IndexFunc_api_Mail_api_Mail_Check_2 (a0 : List Mail) (a1_c0 : Mail) : Option Int :=
 andThen (rangeM (slices_IndexFunc_api_Mail_api_Mail_Check_2_B0 a0 a1_c0) a0.length 0 ()) fun _ =>
 some (-1 : Int)
def slices_ContainsFunc_api_Mail_api_Mail_Check_2 (a0 : List Mail) (a1_c0 : Mail) : Option Bool :=
 (slices_IndexFunc_api_Mail_api_Mail_Check_2 a0 a1_c0).bind fun r2 =>
 some (decide (r2 ≥ (0 : Int)))
def causal_Check_B1 (a0 : Causal) (i18 : Nat) (z18 : Unit) : Option (Ctl Unit Int) :=
 (lat a0.Hold (i18 : Int)).bind fun x21 =>
 (causal_formed x21).bind fun r26 =>
 (bif !r26 then (some true) else
 some (x21.From == a0.Me)).bind fun y31 =>
 (bif y31 then (some true) else
 (vat x21.At x21.From).bind fun x36 =>
 (vat a0.Seen x21.From).bind fun x39 =>
 some (decide (x36 ≤ x39))).bind fun y34 =>
 (bif y34 then (some true) else
 (causal_deliverable a0.Seen x21).bind fun r45 =>
 some r45).bind fun y43 =>
 (bif y43 then (some true) else
 (cutL a0.Hold 0 (i18 : Int)).bind fun m52 =>
 (slices_ContainsFunc_api_Mail_api_Mail_Check_2 m52 x21).bind fun r57 =>
 some r57).bind fun y50 =>
 bif y50 then (some (.ret (4 : Int))) else
 some (.go ())
def causal_Check (a0 : Causal) : Option Int :=
 (causal_in a0.Me (0 : Int) (5 : Int)).bind fun r3 =>
 (bif !r3 then (some true) else
 (slices_ContainsFunc_int_int_Check_1 a0.Seen.toList).bind fun r10 =>
 some r10).bind fun y8 =>
 bif y8 then (some (1 : Int)) else
 bif decide ((a0.Hold.length : Int) > (40 : Int)) then (some (2 : Int)) else
 andThen (rangeM (causal_Check_B1 a0) a0.Hold.length 0 ()) fun _ =>
 some (0 : Int)
def slices_Clone_api_Mail_api_Mail (a0 : List Mail) : Option (List Mail) :=
 (room ([] : List Mail) a0).bind fun u5 =>
 some (([] : List Mail) ++ a0)
def causal_clone (a0 : Causal) : Option Causal :=
 (slices_Clone_api_Mail_api_Mail a0.Hold).bind fun r6 =>
 some ({ a0 with Hold := r6 } : Causal)
def causal_Cast (a0 : Causal) (a1 : Str) : Option (Causal × Mail × Int) :=
 (causal_Check a0).bind fun r8 =>
 bif r8 != (0 : Int) then (some (({ Causal.zero with Hold := ([] : List Mail) } : Causal), Mail.zero, r8)) else
 (vat a0.Seen a0.Me).bind fun x14 =>
 bif decide (x14 ≥ (16777215 : Int)) then (some (({ Causal.zero with Hold := ([] : List Mail) } : Causal), Mail.zero, (8 : Int))) else
 (causal_clone a0).bind fun r19 =>
 (vat r19.Seen a0.Me).bind fun x28 =>
 (vat r19.Seen a0.Me).bind fun x31 =>
 Let (r19.Seen.setIfInBounds a0.Me.toNat (w64 (x28 + (1 : Int)))) fun p34 =>
 some (({ r19 with Seen := p34 } : Causal), ({ Mail.zero with From := a0.Me, At := p34, Text := a1 } : Mail), (0 : Int))
def causal_Hear_1 (a0 : Mail) (a1 : Mail) : Option Bool :=
 (causal_same a0 a1).bind fun r4 =>
 some r4
def slices_IndexFunc_api_Mail_api_Mail_Hear_1_B0 (a0 : List Mail) (a1_c0 : Mail) (i2 : Nat) (z2 : Unit) : Option (Ctl Unit Int) :=
 (lat a0 (i2 : Int)).bind fun x5 =>
 (causal_Hear_1 x5 a1_c0).bind fun r8 =>
 bif r8 then (some (.ret (i2 : Int))) else
 some (.go ())
def slices_IndexFunc_api_Mail_api_Mail_Hear_1 (a0 : List Mail) (a1_c0 : Mail) : Option Int :=
 andThen (rangeM (slices_IndexFunc_api_Mail_api_Mail_Hear_1_B0 a0 a1_c0) a0.length 0 ()) fun _ =>
 some (-1 : Int)
def slices_ContainsFunc_api_Mail_api_Mail_Hear_1 (a0 : List Mail) (a1_c0 : Mail) : Option Bool :=
 (slices_IndexFunc_api_Mail_api_Mail_Hear_1 a0 a1_c0).bind fun r2 =>
 some (decide (r2 ≥ (0 : Int)))
def causal_Hear_2 (a0 : Mail) (a1 : Causal) : Option Bool :=
 (causal_deliverable a1.Seen a0).bind fun r4 =>
 some r4
def slices_IndexFunc_api_Mail_api_Mail_Hear_2_B0 (a0 : List Mail) (a1_c0 : Causal) (i2 : Nat) (z2 : Unit) : Option (Ctl Unit Int) :=
 (lat a0 (i2 : Int)).bind fun x5 =>
 (causal_Hear_2 x5 a1_c0).bind fun r8 =>
 bif r8 then (some (.ret (i2 : Int))) else
 some (.go ())
def slices_IndexFunc_api_Mail_api_Mail_Hear_2 (a0 : List Mail) (a1_c0 : Causal) : Option Int :=
 andThen (rangeM (slices_IndexFunc_api_Mail_api_Mail_Hear_2_B0 a0 a1_c0) a0.length 0 ()) fun _ =>
 some (-1 : Int)
def slices_Delete_api_Mail_api_Mail (a0 : List Mail) (a1 : Int) (a2 : Int) : Option (List Mail) :=
 (cutL a0 a1 a2).bind fun m3 =>
 bif a1 == a2 then (some a0) else
 (cutL a0 0 a1).bind fun m9 =>
 (cutL a0 a2 (a0.length : Int)).bind fun m13 =>
 some (a0.take ((a1 : Int).toNat) ++ a0.drop ((a2 : Int).toNat))
def causal_Hear_3 (a0 : Mail) (a1 : Causal) : Option Bool :=
 (vat a0.At a0.From).bind fun x4 =>
 (vat a1.Seen a0.From).bind fun x7 =>
 some (decide (x4 ≤ x7))
def slices_IndexFunc_api_Mail_api_Mail_Hear_3_B0 (a0 : List Mail) (a1_c0 : Causal) (i2 : Nat) (z2 : Unit) : Option (Ctl Unit Int) :=
 (lat a0 (i2 : Int)).bind fun x5 =>
 (causal_Hear_3 x5 a1_c0).bind fun r8 =>
 bif r8 then (some (.ret (i2 : Int))) else
 some (.go ())
def slices_IndexFunc_api_Mail_api_Mail_Hear_3 (a0 : List Mail) (a1_c0 : Causal) : Option Int :=
 andThen (rangeM (slices_IndexFunc_api_Mail_api_Mail_Hear_3_B0 a0 a1_c0) a0.length 0 ()) fun _ =>
 some (-1 : Int)
def slices_DeleteFunc_api_Mail_api_Mail_Hear_3_B0 (a1_c0 : Causal) (z9 : Int × Int × (List Mail)) : Option (Ctl (Int × Int × (List Mail)) (List Mail)) :=
 bif decide (z9.2.1 < (z9.2.2.length : Int)) then ((lat z9.2.2 z9.2.1).bind fun x26 =>
 (causal_Hear_3 x26 a1_c0).bind fun r31 =>
 bif !r31 then ((lat z9.2.2 z9.1).bind fun x36 =>
 Let (z9.2.2.set z9.1.toNat x26) fun p39 =>
 some (.go (w64 (z9.1 + (1 : Int)), w64 (z9.2.1 + (1 : Int)), p39))) else
 some (.go (z9.1, w64 (z9.2.1 + (1 : Int)), z9.2.2))) else
 some (.brk (z9.1, z9.2.1, z9.2.2))
def slices_DeleteFunc_api_Mail_api_Mail_Hear_3 (fu : Nat) (a0 : List Mail) (a1_c0 : Causal) : Option (List Mail) :=
 (slices_IndexFunc_api_Mail_api_Mail_Hear_3 a0 a1_c0).bind fun r4 =>
 bif r4 == (-1 : Int) then (some a0) else
 andThen (whileM (slices_DeleteFunc_api_Mail_api_Mail_Hear_3_B0 a1_c0) fu (r4, w64 (r4 + (1 : Int)), a0)) fun (y10, y11, l13) =>
 (cutL l13 y10 (l13.length : Int)).bind fun m17 =>
 (cutL (clearL l13 (y10 : Int).toNat ((l13.length : Int) : Int).toNat Mail.zero) 0 y10).bind fun m21 =>
 some m21
def causal_Hear_3_v2 (a0 : Mail) (a1 : Causal) : Option Bool :=
 (vat a0.At a0.From).bind fun x4 =>
 (vat a1.Seen a0.From).bind fun x7 =>
 some (decide (x4 ≤ x7))
def slices_IndexFunc_api_Mail_api_Mail_Hear_3_v2_B0 (a0 : List Mail) (a1_c0 : Causal) (i2 : Nat) (z2 : Unit) : Option (Ctl Unit Int) :=
 (lat a0 (i2 : Int)).bind fun x5 =>
 (causal_Hear_3_v2 x5 a1_c0).bind fun r8 =>
 bif r8 then (some (.ret (i2 : Int))) else
 some (.go ())
def slices_IndexFunc_api_Mail_api_Mail_Hear_3_v2 (a0 : List Mail) (a1_c0 : Causal) : Option Int :=
 andThen (rangeM (slices_IndexFunc_api_Mail_api_Mail_Hear_3_v2_B0 a0 a1_c0) a0.length 0 ()) fun _ =>
 some (-1 : Int)
def slices_DeleteFunc_api_Mail_api_Mail_Hear_3_v2_B0 (a1_c0 : Causal) (z9 : Int × Int × (List Mail)) : Option (Ctl (Int × Int × (List Mail)) (List Mail)) :=
 bif decide (z9.2.1 < (z9.2.2.length : Int)) then ((lat z9.2.2 z9.2.1).bind fun x26 =>
 (causal_Hear_3_v2 x26 a1_c0).bind fun r31 =>
 bif !r31 then ((lat z9.2.2 z9.1).bind fun x36 =>
 Let (z9.2.2.set z9.1.toNat x26) fun p39 =>
 some (.go (w64 (z9.1 + (1 : Int)), w64 (z9.2.1 + (1 : Int)), p39))) else
 some (.go (z9.1, w64 (z9.2.1 + (1 : Int)), z9.2.2))) else
 some (.brk (z9.1, z9.2.1, z9.2.2))
def slices_DeleteFunc_api_Mail_api_Mail_Hear_3_v2 (fu : Nat) (a0 : List Mail) (a1_c0 : Causal) : Option (List Mail) :=
 (slices_IndexFunc_api_Mail_api_Mail_Hear_3_v2 a0 a1_c0).bind fun r4 =>
 bif r4 == (-1 : Int) then (some a0) else
 andThen (whileM (slices_DeleteFunc_api_Mail_api_Mail_Hear_3_v2_B0 a1_c0) fu (r4, w64 (r4 + (1 : Int)), a0)) fun (y10, y11, l13) =>
 (cutL l13 y10 (l13.length : Int)).bind fun m17 =>
 (cutL (clearL l13 (y10 : Int).toNat ((l13.length : Int) : Int).toNat Mail.zero) 0 y10).bind fun m21 =>
 some m21
def causal_Hear_B0 (z65 : Causal × Mail × (List Mail)) : Option (Ctl (Causal × Mail × (List Mail)) (Causal × (List Mail) × Int)) :=
 (vat z65.1.Seen z65.2.1.From).bind fun x74 =>
 (vat z65.1.Seen z65.2.1.From).bind fun x77 =>
 Let (z65.1.Seen.setIfInBounds z65.2.1.From.toNat (w64 (x74 + (1 : Int)))) fun p80 =>
 (room z65.2.2 ([z65.2.1] : List Mail)).bind fun u84 =>
 (slices_IndexFunc_api_Mail_api_Mail_Hear_2 z65.1.Hold ({ z65.1 with Seen := p80 } : Causal)).bind fun r87 =>
 bif decide (r87 < (0 : Int)) then (some (.brk (({ z65.1 with Seen := p80 } : Causal), z65.2.1, z65.2.2 ++ ([z65.2.1] : List Mail)))) else
 (lat z65.1.Hold r87).bind fun x98 =>
 (slices_Delete_api_Mail_api_Mail z65.1.Hold r87 (w64 (r87 + (1 : Int)))).bind fun r101 =>
 some (.go (({ z65.1 with Seen := p80, Hold := r101 } : Causal), x98, z65.2.2 ++ ([z65.2.1] : List Mail)))
def causal_Hear (fu : Nat) (a0 : Causal) (a1 : Mail) : Option (Causal × (List Mail) × Int) :=
 (causal_Check a0).bind fun r9 =>
 bif r9 != (0 : Int) then (some (({ Causal.zero with Hold := ([] : List Mail) } : Causal), ([] : List Mail), r9)) else
 (causal_formed a1).bind fun r16 =>
 bif !r16 then (some (({ Causal.zero with Hold := ([] : List Mail) } : Causal), ([] : List Mail), (1 : Int))) else
 (causal_clone a0).bind fun r23 =>
 (bif a1.From == a0.Me then (some true) else
 (vat a1.At a1.From).bind fun x35 =>
 (vat a0.Seen a1.From).bind fun x38 =>
 some (decide (x35 ≤ x38))).bind fun y33 =>
 (bif y33 then (some true) else
 (slices_ContainsFunc_api_Mail_api_Mail_Hear_1 a0.Hold a1).bind fun r44 =>
 some r44).bind fun y42 =>
 bif y42 then (some (r23, ([] : List Mail), (0 : Int))) else
 (causal_deliverable a0.Seen a1).bind fun r50 =>
 bif !r50 then (bif (a0.Hold.length : Int) == (40 : Int) then (some (({ Causal.zero with Hold := ([] : List Mail) } : Causal), ([] : List Mail), (8 : Int))) else
 (room r23.Hold ([a1] : List Mail)).bind fun u60 =>
 some (({ r23 with Hold := r23.Hold ++ ([a1] : List Mail) } : Causal), ([] : List Mail), (0 : Int))) else
 andThen (whileM (causal_Hear_B0) fu (r23, a1, ([] : List Mail))) fun (y66, y69, l71) =>
 (slices_DeleteFunc_api_Mail_api_Mail_Hear_3_v2 fu y66.Hold y66).bind fun r107 =>
 some (({ y66 with Hold := r107 } : Causal), l71, (0 : Int))
def slices_Equal_api_Mail_api_Mail_B0 (a0 : List Mail) (a1 : List Mail) (i2 : Nat) (z2 : Unit) : Option (Ctl Unit Bool) :=
 (lat a0 (i2 : Int)).bind fun x5 =>
 (lat a1 (i2 : Int)).bind fun x8 =>
 bif !(decide (x5 = x8)) then (some (.ret false)) else
 some (.go ())
def slices_Equal_api_Mail_api_Mail (a0 : List Mail) (a1 : List Mail) : Option Bool :=
 bif (a0.length : Int) != (a1.length : Int) then (some false) else
 andThen (rangeM (slices_Equal_api_Mail_api_Mail_B0 a0 a1) a0.length 0 ()) fun _ =>
 some true
def partref_SameCausal (a0 : Causal) (a1 : Causal) : Option Bool :=
 (bif a0.Me == a1.Me then (some (decide (a0.Seen = a1.Seen))) else
 some false).bind fun y6 =>
 (bif y6 then ((slices_Equal_api_Mail_api_Mail a0.Hold a1.Hold).bind fun r13 =>
 some r13) else
 some false).bind fun y11 =>
 some y11
def partref_HearMail_1 (a0 : Mail) (a1 : Mail) : Option Bool :=
 (partref_sameMail a0 a1).bind fun r4 =>
 some r4
def slices_IndexFunc_api_Mail_api_Mail_HearMail_1_B0 (a0 : List Mail) (a1_c0 : Mail) (i2 : Nat) (z2 : Unit) : Option (Ctl Unit Int) :=
 (lat a0 (i2 : Int)).bind fun x5 =>
 (partref_HearMail_1 x5 a1_c0).bind fun r8 =>
 bif r8 then (some (.ret (i2 : Int))) else
 some (.go ())
def slices_IndexFunc_api_Mail_api_Mail_HearMail_1 (a0 : List Mail) (a1_c0 : Mail) : Option Int :=
 andThen (rangeM (slices_IndexFunc_api_Mail_api_Mail_HearMail_1_B0 a0 a1_c0) a0.length 0 ()) fun _ =>
 some (-1 : Int)
def slices_ContainsFunc_api_Mail_api_Mail_HearMail_1 (a0 : List Mail) (a1_c0 : Mail) : Option Bool :=
 (slices_IndexFunc_api_Mail_api_Mail_HearMail_1 a0 a1_c0).bind fun r2 =>
 some (decide (r2 ≥ (0 : Int)))
def partref_HearMail_2 (a0 : Mail) (a1 : Causal) : Option Bool :=
 (partref_MailReady a1.Seen a0).bind fun r4 =>
 some r4
def slices_IndexFunc_api_Mail_api_Mail_HearMail_2_B0 (a0 : List Mail) (a1_c0 : Causal) (i2 : Nat) (z2 : Unit) : Option (Ctl Unit Int) :=
 (lat a0 (i2 : Int)).bind fun x5 =>
 (partref_HearMail_2 x5 a1_c0).bind fun r8 =>
 bif r8 then (some (.ret (i2 : Int))) else
 some (.go ())
def slices_IndexFunc_api_Mail_api_Mail_HearMail_2 (a0 : List Mail) (a1_c0 : Causal) : Option Int :=
 andThen (rangeM (slices_IndexFunc_api_Mail_api_Mail_HearMail_2_B0 a0 a1_c0) a0.length 0 ()) fun _ =>
 some (-1 : Int)
def partref_HearMail_B2 (l73 : List Mail) (i83 : Nat) (z83 : Causal × (List Mail)) : Option (Causal × (List Mail)) :=
 (lat l73 (i83 : Int)).bind fun x89 =>
 (vat x89.At x89.From).bind fun x94 =>
 (vat z83.1.Seen x89.From).bind fun x97 =>
 bif decide (x94 > x97) then ((room z83.2 ([x89] : List Mail)).bind fun u103 =>
 some (({ z83.1 with Hold := z83.2 ++ ([x89] : List Mail) } : Causal), z83.2 ++ ([x89] : List Mail))) else
 some (({ z83.1 with Hold := z83.2 } : Causal), z83.2)
def partref_HearMail_B2x (l73 : List Mail) (i136 : Nat) (z136 : Causal × (List Mail)) : Option (Causal × (List Mail)) :=
 (lat l73 (i136 : Int)).bind fun x142 =>
 (vat x142.At x142.From).bind fun x147 =>
 (vat z136.1.Seen x142.From).bind fun x150 =>
 bif decide (x147 > x150) then ((room z136.2 ([x142] : List Mail)).bind fun u156 =>
 some (({ z136.1 with Hold := z136.2 ++ ([x142] : List Mail) } : Causal), z136.2 ++ ([x142] : List Mail))) else
 some (({ z136.1 with Hold := z136.2 } : Causal), z136.2)
def partref_HearMail_B0 (r9 : (List Mail)) (z71 : (List Mail) × Int × Causal × (List Mail)) : Option (Ctl ((List Mail) × Int × Causal × (List Mail)) (Causal × (List Mail) × Int)) :=
 bif decide (z71.2.1 ≥ (0 : Int)) then ((lat z71.1 z71.2.1).bind fun x107 =>
 (room z71.2.2.2 ([x107] : List Mail)).bind fun u114 =>
 (vat z71.2.2.1.Seen x107.From).bind fun x117 =>
 (vat z71.2.2.1.Seen x107.From).bind fun x120 =>
 Let (z71.2.2.1.Seen.setIfInBounds x107.From.toNat (w64 (x117 + (1 : Int)))) fun p123 =>
 (slices_Delete_api_Mail_api_Mail z71.1 z71.2.1 (w64 (z71.2.1 + (1 : Int)))).bind fun r125 =>
 (slices_IndexFunc_api_Mail_api_Mail_HearMail_2 r125 ({ z71.2.2.1 with Seen := p123, Hold := r9 } : Causal)).bind fun r131 =>
 some (.go (r125, r131, ({ z71.2.2.1 with Seen := p123, Hold := r9 } : Causal), z71.2.2.2 ++ ([x107] : List Mail)))) else
 some (.brk (z71.1, z71.2.1, ({ z71.2.2.1 with Hold := r9 } : Causal), z71.2.2.2))
def partref_HearMail (fu : Nat) (a0 : Causal) (a1 : Mail) : Option (Causal × (List Mail) × Int) :=
 (slices_Clone_api_Mail_api_Mail a0.Hold).bind fun r9 =>
 (bif a1.From == a0.Me then (some true) else
 (vat a1.At a1.From).bind fun x18 =>
 (vat a0.Seen a1.From).bind fun x21 =>
 some (decide (x18 ≤ x21))).bind fun y16 =>
 (bif y16 then (some true) else
 (slices_ContainsFunc_api_Mail_api_Mail_HearMail_1 r9 a1).bind fun r27 =>
 some r27).bind fun y25 =>
 bif y25 then (some (({ a0 with Hold := r9 } : Causal), ([] : List Mail), (0 : Int))) else
 (slices_Clone_api_Mail_api_Mail r9).bind fun r33 =>
 Let (([a1] : List Mail), r33) fun (l43, l45) =>
 (room l45 l43).bind fun u58 =>
 (partref_MailReady a0.Seen a1).bind fun r61 =>
 bif !r61 then (bif decide (((l45 ++ l43).length : Int) > (40 : Int)) then (some (({ Causal.zero with Hold := ([] : List Mail) } : Causal), ([] : List Mail), (8 : Int))) else
 some (({ a0 with Hold := l45 ++ l43 } : Causal), ([] : List Mail), (0 : Int))) else
 andThen (whileM (partref_HearMail_B0 r9) fu (l45 ++ l43, w64 (((l45 ++ l43).length : Int) - (1 : Int)), ({ a0 with Hold := r9 } : Causal), ([] : List Mail))) fun (l73, y75, y76, l78) =>
 (rangeF (partref_HearMail_B2x l73) l73.length 0 (({ y76 with Hold := ([] : List Mail) } : Causal), ([] : List Mail))).bind fun (y137, l139) =>
 some (({ y137 with Hold := l139 } : Causal), l78, (0 : Int))
def partlaw_CausalSays (fu : Nat) (a0 : Causal) (a1 : Str) (a2 : Mail) : Option Bool :=
 (partref_CausalErr fu a0).bind fun r5 =>
 (causal_Cast a0 a1).bind fun r9 =>
 (causal_Hear fu a0 a2).bind fun r20 =>
 (causal_Check a0).bind fun r34 =>
 bif r34 != r5 then (some false) else
 bif r5 != (0 : Int) then ((partref_SameCausal r9.1 Causal.zero).bind fun r40 =>
 (bif r40 then (some (decide (r9.2.1 = Mail.zero))) else
 some false).bind fun y45 =>
 (bif y45 then (some (r9.2.2 == r5)) else
 some false).bind fun y50 =>
 (bif y50 then ((partref_SameCausal r20.1 Causal.zero).bind fun r57 =>
 some r57) else
 some false).bind fun y55 =>
 (bif y55 then (some ((r20.2.1.length : Int) == (0 : Int))) else
 some false).bind fun y64 =>
 (bif y64 then (some (r20.2.2 == r5)) else
 some false).bind fun y69 =>
 some y69) else
 andThen ((vat a0.Seen a0.Me).bind fun x74 =>
 bif decide (x74 ≥ (16777215 : Int)) then ((partref_SameCausal r9.1 Causal.zero).bind fun r78 =>
 (bif !r78 then (some true) else
 some (!(decide (r9.2.1 = Mail.zero)))).bind fun y83 =>
 (bif y83 then (some true) else
 some (r9.2.2 != (8 : Int))).bind fun y88 =>
 bif y88 then (some (.inr false)) else
 some (.inl ())) else
 (vat a0.Seen a0.Me).bind fun x96 =>
 (vat a0.Seen a0.Me).bind fun x99 =>
 Let (a0.Seen.setIfInBounds a0.Me.toNat (w64 (x96 + (1 : Int)))) fun p102 =>
 (partref_SameCausal r9.1 ({ a0 with Seen := p102 } : Causal)).bind fun r104 =>
 (bif !r104 then (some true) else
 some (!(decide (r9.2.1 = ({ Mail.zero with From := a0.Me, At := p102, Text := a1 } : Mail))))).bind fun y109 =>
 (bif y109 then (some true) else
 some (r9.2.2 != (0 : Int))).bind fun y114 =>
 bif y114 then (some (.inr false)) else
 some (.inl ())) fun _ =>
 (partref_MailRight fu a2).bind fun r121 =>
 bif !r121 then ((partref_SameCausal r20.1 Causal.zero).bind fun r126 =>
 (bif r126 then (some ((r20.2.1.length : Int) == (0 : Int))) else
 some false).bind fun y131 =>
 (bif y131 then (some (r20.2.2 == (1 : Int))) else
 some false).bind fun y136 =>
 some y136) else
 (partref_HearMail fu a0 a2).bind fun r140 =>
 (partref_SameCausal r20.1 r140.1).bind fun r151 =>
 (bif r151 then ((slices_Equal_api_Mail_api_Mail r20.2.1 r140.2.1).bind fun r158 =>
 some r158) else
 some false).bind fun y156 =>
 (bif y156 then (some (r20.2.2 == r140.2.2)) else
 some false).bind fun y165 =>
 some y165
end Go.Proofs.Ytobikknjaomalaa
