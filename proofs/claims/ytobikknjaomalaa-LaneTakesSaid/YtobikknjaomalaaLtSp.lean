/-
  What the functions compute, typed; printed by a program.
-/
import Derived.Test.YtobikknjaomalaaGoI
import Derived.Test.YtobikknjaomalaaGoM
import Derived.Test.YtobikknjaomalaaGoS
namespace Go.Proofs.Ytobikknjaomalaa
open Go.RowKit Enc
set_option linter.unusedVariables false
set_option linter.unusedSimpArgs false
structure Parcel where
  Seq : Int
  Text : Str
instance : DecidableEq Parcel := fun a b => decidable_of_iff (a.Seq = b.Seq ∧ a.Text = b.Text) (by cases a; cases b; simp)
def Parcel.zero : Parcel := ⟨(0 : Int), ([] : Str)⟩
instance : Enc Parcel := ⟨fun p => enc p.Seq ++ (enc p.Text), 2, fun p => by simp only [List.length_append, Enc.len]; rfl, fun p => by simp only [List.all_append, Enc.one, Bool.and_self]⟩
theorem Parcel.get_Seq {p : Parcel} {k : Nat} {ch : List Value} (h : Get (enc p.Seq) k ch) : Get (enc p) (0 + k) ch := Get.off (Get.left h) (by omega)
theorem Parcel.put_Seq {p : Parcel} {k : Nat} {vs : List Value} {y : Int} (h : Put (enc p.Seq) k vs (enc y)) : Put (enc p) (0 + k) vs (enc ({ p with Seq := y } : Parcel)) := Put.off (cs' := enc ({ p with Seq := y } : Parcel)) (Put.left h) (by omega)
theorem Parcel.get_Text {p : Parcel} {k : Nat} {ch : List Value} (h : Get (enc p.Text) k ch) : Get (enc p) (1 + k) ch := Get.off (Get.right (m := 1) (Enc.len _) h) (by omega)
theorem Parcel.put_Text {p : Parcel} {k : Nat} {vs : List Value} {y : Str} (h : Put (enc p.Text) k vs (enc y)) : Put (enc p) (1 + k) vs (enc ({ p with Text := y } : Parcel)) := Put.off (cs' := enc ({ p with Text := y } : Parcel)) (Put.right (m := 1) (Enc.len _) h) (by omega)
instance : Rng Parcel := ⟨fun p => Rng.ok p.Seq ∧ Rng.ok p.Text⟩
structure To where
  Next : Int
  Early : List Parcel
instance : DecidableEq To := fun a b => decidable_of_iff (a.Next = b.Next ∧ a.Early = b.Early) (by cases a; cases b; simp)
def To.zero : To := ⟨(0 : Int), []⟩
instance : Rng To := ⟨fun p => Rng.ok p.Next ∧ Rng.ok p.Early⟩
def partref_ToErr_B0 (a0 : To) (i10 : Nat) (z10 : Unit) : Option (Ctl Unit Int) :=
 (lat a0.Early (i10 : Int)).bind fun x13 =>
 (bif decide (x13.Seq ≤ a0.Next) then (some true) else
 some (decide (x13.Seq > (w64 (a0.Next + (15 : Int)))))).bind fun y19 =>
 (bif y19 then (some true) else
 (bif decide ((i10 : Int) > (0 : Int)) then ((lat a0.Early (w64 ((i10 : Int) - (1 : Int)))).bind fun x27 =>
 some (decide (x13.Seq ≤ x27.Seq))) else
 some false).bind fun y25 =>
 some y25).bind fun y22 =>
 (bif y22 then (some true) else
 some (decide ((x13.Text.length : Int) > (200 : Int)))).bind fun y31 =>
 bif y31 then (some (.ret (4 : Int))) else
 some (.go ())
def partref_ToErr (a0 : To) : Option Int :=
 (bif decide (a0.Next < (0 : Int)) then (some true) else
 some (decide (a0.Next > (16777215 : Int)))).bind fun y4 =>
 bif y4 then (some (1 : Int)) else
 bif decide ((a0.Early.length : Int) > (16 : Int)) then (some (2 : Int)) else
 andThen (rangeM (partref_ToErr_B0 a0) a0.Early.length 0 ()) fun _ =>
 some (0 : Int)
def lane_in (a0 : Int) (a1 : Int) (a2 : Int) : Option Bool :=
 (bif decide (a0 ≥ a1) then (some (decide (a0 ≤ a2))) else
 some false).bind fun y2 =>
 some y2
def lane_long (a0 : Str) : Option Bool :=
 some (decide ((a0.length : Int) > (200 : Int)))
def lane_CheckTo_B1 (a0 : To) (i9 : Nat) (z9 : Int) : Option (Ctl Int Int) :=
 (lat a0.Early (i9 : Int)).bind fun x13 =>
 (bif decide (x13.Seq ≤ z9) then (some true) else
 some (decide (x13.Seq ≥ (w64 (a0.Next + (16 : Int)))))).bind fun y19 =>
 (bif y19 then (some true) else
 (lane_long x13.Text).bind fun r26 =>
 some r26).bind fun y24 =>
 bif y24 then (some (.ret (4 : Int))) else
 some (.go x13.Seq)
def lane_CheckTo (a0 : To) : Option Int :=
 (lane_in a0.Next (0 : Int) (16777215 : Int)).bind fun r3 =>
 bif !r3 then (some (1 : Int)) else
 bif decide ((a0.Early.length : Int) > (16 : Int)) then (some (2 : Int)) else
 andThen (rangeM (lane_CheckTo_B1 a0) a0.Early.length 0 a0.Next) fun y10 =>
 some (0 : Int)
def slices_Clone_api_Parcel_api_Parcel (a0 : List Parcel) : Option (List Parcel) :=
 (room ([] : List Parcel) a0).bind fun u5 =>
 some (([] : List Parcel) ++ a0)
def lane_Take_1 (a0 : Parcel) (a1 : Int) : Option Int :=
 some (w64 (a0.Seq - a1))
def slices_BinarySearchFunc_api_Parcel_api_Parcel_int_Take_1_B0 (a0 : List Parcel) (a1 : Int) (z1 : Int × Int) : Option (Ctl (Int × Int) (Int × Bool)) :=
 bif decide (z1.1 < z1.2) then ((lat a0 (w64 (((BitVec.ofInt 64 (w64 (z1.1 + z1.2))) >>> 1).toNat : Int))).bind fun x19 =>
 (lane_Take_1 x19 a1).bind fun r22 =>
 bif decide (r22 < (0 : Int)) then (some (.go (w64 ((w64 (((BitVec.ofInt 64 (w64 (z1.1 + z1.2))) >>> 1).toNat : Int)) + (1 : Int)), z1.2))) else
 some (.go (z1.1, w64 (((BitVec.ofInt 64 (w64 (z1.1 + z1.2))) >>> 1).toNat : Int)))) else
 some (.brk (z1.1, z1.2))
def slices_BinarySearchFunc_api_Parcel_api_Parcel_int_Take_1 (fu : Nat) (a0 : List Parcel) (a1 : Int) : Option (Int × Bool) :=
 andThen (whileM (slices_BinarySearchFunc_api_Parcel_api_Parcel_int_Take_1_B0 a0 a1) fu ((0 : Int), (a0.length : Int))) fun (y2, y3) =>
 (bif decide (y2 < (a0.length : Int)) then ((lat a0 y2).bind fun x10 =>
 (lane_Take_1 x10 a1).bind fun r13 =>
 some (r13 == (0 : Int))) else
 some false).bind fun y8 =>
 some (y2, y8)
def slices_Insert_api_Parcel_api_Parcel (a0 : List Parcel) (a1 : Int) (a2 : List Parcel) : Option (List Parcel) :=
 (cutL a0 a1 (a0.length : Int)).bind fun _ =>
 (room a0 a2).bind fun _ =>
 some (a0.take a1.toNat ++ a2 ++ a0.drop a1.toNat)
def lane_Take_B1 (z87 : To × (List Str) × (List Parcel)) : Option (Ctl (To × (List Str) × (List Parcel)) (To × (List Str) × Int)) :=
 (bif decide ((z87.2.2.length : Int) > (0 : Int)) then ((lat z87.2.2 (0 : Int)).bind fun x98 =>
 some (x98.Seq == z87.1.Next)) else
 some false).bind fun y96 =>
 bif y96 then ((lat z87.2.2 (0 : Int)).bind fun x108 =>
 (room z87.2.1 ([x108.Text] : List Str)).bind fun u113 =>
 (cutL z87.2.2 (1 : Int) (z87.2.2.length : Int)).bind fun m116 =>
 Let (w64 (z87.1.Next + (1 : Int))) fun p121 =>
 some (.go (({ z87.1 with Next := p121, Early := m116 } : To), z87.2.1 ++ ([x108.Text] : List Str), m116))) else
 some (.brk (({ z87.1 with Early := z87.2.2 } : To), z87.2.1, z87.2.2))
def lane_Take (fu : Nat) (a0 : To) (a1 : Parcel) : Option (To × (List Str) × Int) :=
 (lane_CheckTo a0).bind fun r9 =>
 bif r9 != (0 : Int) then (some (({ To.zero with Early := ([] : List Parcel) } : To), ([] : List Str), r9)) else
 (lane_in a1.Seq (0 : Int) (16777214 : Int)).bind fun r16 =>
 bif !r16 then (some (({ To.zero with Early := ([] : List Parcel) } : To), ([] : List Str), (1 : Int))) else
 (lane_long a1.Text).bind fun r23 =>
 bif r23 then (some (({ To.zero with Early := ([] : List Parcel) } : To), ([] : List Str), (2 : Int))) else
 (slices_Clone_api_Parcel_api_Parcel a0.Early).bind fun r30 =>
 Let (([] : List Parcel), r30) fun (l42, l44) =>
 (slices_BinarySearchFunc_api_Parcel_api_Parcel_int_Take_1 fu l44 a1.Seq).bind fun r57 =>
 (bif decide (a1.Seq < a0.Next) then (some true) else
 some (decide (a1.Seq ≥ (w64 (a0.Next + (16 : Int)))))).bind fun y62 =>
 (bif y62 then (some true) else
 some r57.2).bind fun y67 =>
 bif y67 then (some (({ To.zero with Next := a0.Next, Early := l44 } : To), ([] : List Str), (0 : Int))) else
 bif decide (a1.Seq > a0.Next) then ((slices_Insert_api_Parcel_api_Parcel l44 r57.1 ([a1] : List Parcel)).bind fun r76 =>
 some (({ To.zero with Next := a0.Next, Early := r76 } : To), ([] : List Str), (0 : Int))) else
 Let (w64 (a0.Next + (1 : Int))) fun p85 =>
 andThen (whileM (lane_Take_B1) fu (({ To.zero with Next := p85, Early := l44 } : To), ([a1.Text] : List Str), l44)) fun (y88, l90, l92) =>
 (slices_Clone_api_Parcel_api_Parcel l92).bind fun r123 =>
 some (({ y88 with Early := r123 } : To), l90, (0 : Int))
def slices_Equal_api_Parcel_api_Parcel_B0 (a0 : List Parcel) (a1 : List Parcel) (i2 : Nat) (z2 : Unit) : Option (Ctl Unit Bool) :=
 (lat a0 (i2 : Int)).bind fun x5 =>
 (lat a1 (i2 : Int)).bind fun x8 =>
 bif !(decide (x5 = x8)) then (some (.ret false)) else
 some (.go ())
def slices_Equal_api_Parcel_api_Parcel (a0 : List Parcel) (a1 : List Parcel) : Option Bool :=
 bif (a0.length : Int) != (a1.length : Int) then (some false) else
 andThen (rangeM (slices_Equal_api_Parcel_api_Parcel_B0 a0 a1) a0.length 0 ()) fun _ =>
 some true
def partref_SameTo (a0 : To) (a1 : To) : Option Bool :=
 (bif a0.Next == a1.Next then ((slices_Equal_api_Parcel_api_Parcel a0.Early a1.Early).bind fun r8 =>
 some r8) else
 some false).bind fun y6 =>
 some y6
def partref_TakeParcel_B4 (a0 : To) (l22 : List (Int × Str)) (z50 : Int × To) : Option (Ctl (Int × To) (To × (List Str))) :=
 bif decide (z50.1 < (w64 (a0.Next + (16 : Int)))) then (bif (mget l22 z50.1).isSome then ((room z50.2.Early ([({ Parcel.zero with Seq := z50.1, Text := (mget l22 z50.1).getD ([] : Str) } : Parcel)] : List Parcel)).bind fun u62 =>
 some (.go (w64 (z50.1 + (1 : Int)), ({ z50.2 with Early := z50.2.Early ++ ([({ Parcel.zero with Seq := z50.1, Text := (mget l22 z50.1).getD ([] : Str) } : Parcel)] : List Parcel) } : To)))) else
 some (.go (w64 (z50.1 + (1 : Int)), z50.2))) else
 some (.brk (z50.1, z50.2))
def partref_TakeParcel_B4x (a0 : To) (l22 : List (Int × Str)) (z72 : Int × To) : Option (Ctl (Int × To) (To × (List Str))) :=
 bif decide (z72.1 < (w64 (a0.Next + (16 : Int)))) then (bif (mget l22 z72.1).isSome then ((room z72.2.Early ([({ Parcel.zero with Seq := z72.1, Text := (mget l22 z72.1).getD ([] : Str) } : Parcel)] : List Parcel)).bind fun u84 =>
 some (.go (w64 (z72.1 + (1 : Int)), ({ z72.2 with Early := z72.2.Early ++ ([({ Parcel.zero with Seq := z72.1, Text := (mget l22 z72.1).getD ([] : Str) } : Parcel)] : List Parcel) } : To)))) else
 some (.go (w64 (z72.1 + (1 : Int)), z72.2))) else
 some (.brk (z72.1, z72.2))
def partref_TakeParcel_B2 (l22 : List (Int × Str)) (z43 : To × (List Str)) : Option (Ctl (To × (List Str)) (To × (List Str))) :=
 bif !((mget l22 z43.1.Next).isSome) then (some (.brk (({ z43.1 with Early := [] } : To), z43.2))) else
 (room z43.2 ([(mget l22 z43.1.Next).getD ([] : Str)] : List Str)).bind fun u67 =>
 Let (w64 (z43.1.Next + (1 : Int))) fun p70 =>
 some (.go (({ z43.1 with Next := p70, Early := [] } : To), z43.2 ++ ([(mget l22 z43.1.Next).getD ([] : Str)] : List Str)))
def partref_TakeParcel_B0 (a0 : To) (i11 : Nat) (z11 : (List (Int × Str))) : Option (List (Int × Str)) :=
 (lat a0.Early (i11 : Int)).bind fun x15 =>
 Let (mset z11 x15.Seq x15.Text) fun m20 =>
 some m20
def partref_TakeParcel (fu : Nat) (a0 : To) (a1 : Parcel) : Option (To × (List Str)) :=
 (rangeF (partref_TakeParcel_B0 a0) a0.Early.length 0 ([] : List (Int × Str))).bind fun l12 =>
 ((bif !((mget l12 a1.Seq).isSome) then (some (decide (a1.Seq ≥ a0.Next))) else
 some false).bind fun y25 =>
 (bif y25 then (some (decide (a1.Seq < (w64 (a0.Next + (16 : Int)))))) else
 some false).bind fun y30 =>
 bif y30 then (Let (mset l12 a1.Seq a1.Text) fun m35 =>
 some m35) else
 some l12).bind fun l22 =>
 andThen (whileM (partref_TakeParcel_B2 l22) fu (({ To.zero with Next := a0.Next } : To), ([] : List Str))) fun (y44, l46) =>
 andThen (whileM (partref_TakeParcel_B4x a0 l22) fu (w64 (y44.Next + (1 : Int)), ({ y44 with Early := ([] : List Parcel) } : To))) fun (y74, y75) =>
 some (y75, l46)
def slices_Equal_string_string_B0 (a0 : List Str) (a1 : List Str) (i2 : Nat) (z2 : Unit) : Option (Ctl Unit Bool) :=
 (lat a0 (i2 : Int)).bind fun x5 =>
 (lat a1 (i2 : Int)).bind fun x8 =>
 bif !(decide (x5 = x8)) then (some (.ret false)) else
 some (.go ())
def slices_Equal_string_string (a0 : List Str) (a1 : List Str) : Option Bool :=
 bif (a0.length : Int) != (a1.length : Int) then (some false) else
 andThen (rangeM (slices_Equal_string_string_B0 a0 a1) a0.length 0 ()) fun _ =>
 some true
def partlaw_LaneTakes (fu : Nat) (a0 : To) (a1 : Parcel) : Option Bool :=
 (partref_ToErr a0).bind fun r5 =>
 (lane_Take fu a0 a1).bind fun r9 =>
 (lane_CheckTo a0).bind fun r20 =>
 bif r20 != r5 then (some false) else
 (bif r5 == (0 : Int) then ((bif decide (a1.Seq < (0 : Int)) then (some true) else
 some (decide (a1.Seq ≥ (16777215 : Int)))).bind fun y29 =>
 bif y29 then (some (1 : Int)) else
 bif decide ((a1.Text.length : Int) > (200 : Int)) then (some (2 : Int)) else
 some r5) else
 some r5).bind fun y25 =>
 bif y25 != (0 : Int) then ((partref_SameTo r9.1 To.zero).bind fun r38 =>
 (bif r38 then (some ((r9.2.1.length : Int) == (0 : Int))) else
 some false).bind fun y43 =>
 (bif y43 then (some (r9.2.2 == y25)) else
 some false).bind fun y48 =>
 some y48) else
 (partref_TakeParcel fu a0 a1).bind fun r52 =>
 (partref_SameTo r9.1 r52.1).bind fun r63 =>
 (bif r63 then ((slices_Equal_string_string r9.2.1 r52.2).bind fun r70 =>
 some r70) else
 some false).bind fun y68 =>
 (bif y68 then (some (r9.2.2 == (0 : Int))) else
 some false).bind fun y77 =>
 some y77
end Go.Proofs.Ytobikknjaomalaa
