/-
  What the functions compute, typed; printed by a program.
-/
import Derived.Test.YtobikknjaomalaaGoI
namespace Go.Proofs.Ytobikknjaomalaa
open Go.RowKit Enc
set_option linter.unusedVariables false
set_option linter.unusedSimpArgs false
structure Door where
  Clock : Int
  Wish : Int
  Yes : BitVec 8
  In : Bool
  Later : List Int
instance : DecidableEq Door := fun a b => decidable_of_iff (a.Clock = b.Clock ∧ a.Wish = b.Wish ∧ a.Yes = b.Yes ∧ a.In = b.In ∧ a.Later = b.Later) (by cases a; cases b; simp)
def Door.zero : Door := ⟨(0 : Int), (0 : Int), (0 : BitVec 8), false, []⟩
instance : Rng Door := ⟨fun p => Rng.ok p.Clock ∧ Rng.ok p.Wish ∧ Rng.ok p.Yes ∧ Rng.ok p.In ∧ Rng.ok p.Later⟩
structure Word where
  From : Int
  To : Int
  At : Int
instance : DecidableEq Word := fun a b => decidable_of_iff (a.From = b.From ∧ a.To = b.To ∧ a.At = b.At) (by cases a; cases b; simp)
def Word.zero : Word := ⟨(0 : Int), (0 : Int), (0 : Int)⟩
instance : Enc Word := ⟨fun p => enc p.From ++ (enc p.To ++ (enc p.At)), 3, fun p => by simp only [List.length_append, Enc.len]; rfl, fun p => by simp only [List.all_append, Enc.one, Bool.and_self]⟩
theorem Word.get_From {p : Word} {k : Nat} {ch : List Value} (h : Get (enc p.From) k ch) : Get (enc p) (0 + k) ch := Get.off (Get.left h) (by omega)
theorem Word.put_From {p : Word} {k : Nat} {vs : List Value} {y : Int} (h : Put (enc p.From) k vs (enc y)) : Put (enc p) (0 + k) vs (enc ({ p with From := y } : Word)) := Put.off (cs' := enc ({ p with From := y } : Word)) (Put.left h) (by omega)
theorem Word.get_To {p : Word} {k : Nat} {ch : List Value} (h : Get (enc p.To) k ch) : Get (enc p) (1 + k) ch := Get.off (Get.right (m := 1) (Enc.len _) (Get.left h)) (by omega)
theorem Word.put_To {p : Word} {k : Nat} {vs : List Value} {y : Int} (h : Put (enc p.To) k vs (enc y)) : Put (enc p) (1 + k) vs (enc ({ p with To := y } : Word)) := Put.off (cs' := enc ({ p with To := y } : Word)) (Put.right (m := 1) (Enc.len _) (Put.left h)) (by omega)
theorem Word.get_At {p : Word} {k : Nat} {ch : List Value} (h : Get (enc p.At) k ch) : Get (enc p) (2 + k) ch := Get.off (Get.right (m := 1) (Enc.len _) (Get.right (m := 1) (Enc.len _) h)) (by omega)
theorem Word.put_At {p : Word} {k : Nat} {vs : List Value} {y : Int} (h : Put (enc p.At) k vs (enc y)) : Put (enc p) (2 + k) vs (enc ({ p with At := y } : Word)) := Put.off (cs' := enc ({ p with At := y } : Word)) (Put.right (m := 1) (Enc.len _) (Put.right (m := 1) (Enc.len _) h)) (by omega)
instance : Rng Word := ⟨fun p => Rng.ok p.From ∧ Rng.ok p.To ∧ Rng.ok p.At⟩
structure Enter where
  Doors : List Door
  Way : List Word
instance : DecidableEq Enter := fun a b => decidable_of_iff (a.Doors = b.Doors ∧ a.Way = b.Way) (by cases a; cases b; simp)
def Enter.zero : Enter := ⟨[], []⟩
instance : Rng Enter := ⟨fun p => Rng.ok p.Doors ∧ Rng.ok p.Way⟩
def partref_size_B0 (z1 : (BitVec 16) × Int) : Option (Ctl ((BitVec 16) × Int) Int) :=
 bif decide ((z1.1.toNat : Int) > ((0 : BitVec 16).toNat : Int)) then (some (.go (z1.1 / (2 : BitVec 16), w64 (z1.2 + ((z1.1 % (2 : BitVec 16)).toNat : Int))))) else
 some (.brk (z1.1, z1.2))
def partref_size (fu : Nat) (a0 : BitVec 16) : Option Int :=
 andThen (whileM (partref_size_B0) fu (a0, (0 : Int))) fun (y2, y3) =>
 some y3
def slices_Index_int_int_B0 (a0 : List Int) (a1 : Int) (i1 : Nat) (z1 : Unit) : Option (Ctl Unit Int) :=
 (lat a0 (i1 : Int)).bind fun x4 =>
 bif a1 == x4 then (some (.ret (i1 : Int))) else
 some (.go ())
def slices_Index_int_int (a0 : List Int) (a1 : Int) : Option Int :=
 andThen (rangeM (slices_Index_int_int_B0 a0 a1) a0.length 0 ()) fun _ =>
 some (-1 : Int)
def partref_wordsErr_B0 (a0 : Int) (a1 : List Word) (a2 : Int) (i2 : Nat) (z2 : Unit) : Option (Ctl Unit Int) :=
 (lat a1 (i2 : Int)).bind fun x5 =>
 (bif decide ((min x5.From x5.To) < (0 : Int)) then (some true) else
 some (decide ((max x5.From x5.To) ≥ a0))).bind fun y11 =>
 bif y11 then (some (.ret (1 : Int))) else
 bif decide (a2 > (1 : Int)) then ((bif decide (x5.At < (0 : Int)) then (some true) else
 some (decide (x5.At > a2))).bind fun y29 =>
 bif y29 then (some (.ret (1 : Int))) else
 (bif x5.From == x5.To then (some true) else
 some (decide (x5.At < (0 : Int)))).bind fun y35 =>
 (bif y35 then (some true) else
 some (decide (x5.At > a2))).bind fun y40 =>
 bif y40 then (some (.ret (4 : Int))) else
 some (.go ())) else
 (bif x5.From == x5.To then (some true) else
 some (decide (x5.At < (0 : Int)))).bind fun y18 =>
 (bif y18 then (some true) else
 some (decide (x5.At > a2))).bind fun y23 =>
 bif y23 then (some (.ret (4 : Int))) else
 some (.go ())
def partref_wordsErr (a0 : Int) (a1 : List Word) (a2 : Int) : Option Int :=
 bif decide ((a1.length : Int) > (100 : Int)) then (some (2 : Int)) else
 andThen (rangeM (partref_wordsErr_B0 a0 a1 a2) a1.length 0 ()) fun _ =>
 some (0 : Int)
def partref_EnterErr_B2 (a0 : Enter) (i11 : Nat) (x14 : Door) (i74 : Nat) (z74 : Unit) : Option (Ctl Unit (Ctl Unit Int)) :=
 (lat x14.Later (i74 : Int)).bind fun x77 =>
 (bif decide (x77 < (0 : Int)) then (some true) else
 some (decide (x77 ≥ (a0.Doors.length : Int)))).bind fun y81 =>
 (bif y81 then (some true) else
 some (x77 == (i11 : Int))).bind fun y86 =>
 (bif y86 then (some true) else
 (slices_Index_int_int x14.Later x77).bind fun r93 =>
 some (r93 != (i74 : Int))).bind fun y91 =>
 bif y91 then (some (.ret (.ret (4 : Int)))) else
 some (.go ())
def partref_EnterErr_B0 (fu : Nat) (a0 : Enter) (i11 : Nat) (z11 : Unit) : Option (Ctl Unit Int) :=
 (lat a0.Doors (i11 : Int)).bind fun x14 =>
 (bif decide (x14.Clock < (0 : Int)) then (some true) else
 some (decide (x14.Clock > (16777215 : Int)))).bind fun y22 =>
 (bif y22 then (some true) else
 some (decide (x14.Wish < (0 : Int)))).bind fun y27 =>
 (bif y27 then (some true) else
 some (decide (x14.Wish > x14.Clock))).bind fun y32 =>
 (bif y32 then (some true) else
 some (decide ((x14.Later.length : Int) > (6 : Int)))).bind fun y37 =>
 bif y37 then (some (.ret (1 : Int))) else
 (cnt (a0.Doors.length : Int)).bind fun n42 =>
 (bif decide ((x14.Yes.toNat : Int) ≥ (w64 ((1 : Int) * 2 ^ (min n42 64)))) then (some true) else
 (cnt (i11 : Int)).bind fun n48 =>
 some ((((x14.Yes >>> n48) % (2 : BitVec 8)).toNat : Int) == ((1 : BitVec 8).toNat : Int))).bind fun y46 =>
 (bif y46 then (some true) else
 (bif x14.Wish == (0 : Int) then ((bif decide ((x14.Yes.toNat : Int) > ((0 : BitVec 8).toNat : Int)) then (some true) else
 some x14.In).bind fun y58 =>
 (bif y58 then (some true) else
 some (decide ((x14.Later.length : Int) > (0 : Int)))).bind fun y61 =>
 some y61) else
 some false).bind fun y55 =>
 some y55).bind fun y52 =>
 (bif y52 then (some true) else
 (bif x14.In then ((partref_size fu (BitVec.ofInt 16 (x14.Yes.toNat : Int))).bind fun r69 =>
 some (r69 != (w64 ((a0.Doors.length : Int) - (1 : Int))))) else
 some false).bind fun y67 =>
 some y67).bind fun y64 =>
 bif y64 then (some (.ret (4 : Int))) else
 andThen (rangeM (partref_EnterErr_B2 a0 i11 x14) x14.Later.length 0 ()) fun _ =>
 some (.go ())
def partref_EnterErr (fu : Nat) (a0 : Enter) : Option Int :=
 (bif decide ((a0.Doors.length : Int) < (1 : Int)) then (some true) else
 some (decide ((a0.Doors.length : Int) > (6 : Int)))).bind fun y5 =>
 bif y5 then (some (1 : Int)) else
 andThen (rangeM (partref_EnterErr_B0 fu a0) a0.Doors.length 0 ()) fun _ =>
 (partref_wordsErr (a0.Doors.length : Int) a0.Way (16777215 : Int)).bind fun r101 =>
 some r101
def enter_in (a0 : Int) (a1 : Int) (a2 : Int) : Option Bool :=
 (bif decide (a0 ≥ a1) then (some (decide (a0 ≤ a2))) else
 some false).bind fun y2 =>
 some y2
def enter_New (a0 : Int) : Option (Enter × Int) :=
 (enter_in a0 (1 : Int) (6 : Int)).bind fun r6 =>
 bif !r6 then (some (({ Enter.zero with Doors := ([] : List Door) } : Enter), (1 : Int))) else
 (mkLen a0).bind fun n14 =>
 some (({ Enter.zero with Doors := (List.replicate n14 Door.zero) } : Enter), (0 : Int))
def enter_others (a0 : Int) (a1 : Int) : Option (BitVec 8) :=
 (cnt a0).bind fun n1 =>
 (cnt a1).bind fun n4 =>
 some ((((1 : BitVec 8) <<< n1) - (1 : BitVec 8)) &&& ~~~((1 : BitVec 8) <<< n4))
def slices_Contains_int_int (a0 : List Int) (a1 : Int) : Option Bool :=
 (slices_Index_int_int a0 a1).bind fun r1 =>
 some (decide (r1 ≥ (0 : Int)))
def enter_door_B1 (a0 : Door) (a1 : Int) (a2 : Int) (i47 : Nat) (z47 : Unit) : Option (Ctl Unit Int) :=
 (lat a0.Later (i47 : Int)).bind fun x50 =>
 (enter_in x50 (0 : Int) (w64 (a2 - (1 : Int)))).bind fun r53 =>
 (bif !r53 then (some true) else
 some (x50 == a1)).bind fun y58 =>
 (bif y58 then (some true) else
 (cutL a0.Later 0 (i47 : Int)).bind fun m65 =>
 (slices_Contains_int_int m65 x50).bind fun r70 =>
 some r70).bind fun y63 =>
 bif y63 then (some (.ret (4 : Int))) else
 some (.go ())
def enter_door (a0 : Door) (a1 : Int) (a2 : Int) : Option Int :=
 (enter_in a0.Clock (0 : Int) (16777215 : Int)).bind fun r3 =>
 (bif !r3 then (some true) else
 (enter_in a0.Wish (0 : Int) a0.Clock).bind fun r10 =>
 some (!r10)).bind fun y8 =>
 (bif y8 then (some true) else
 some (decide ((a0.Later.length : Int) > (6 : Int)))).bind fun y17 =>
 bif y17 then (some (1 : Int)) else
 (enter_others a2 a1).bind fun r22 =>
 bif ((a0.Yes &&& ~~~r22).toNat : Int) != ((0 : BitVec 8).toNat : Int) then (some (4 : Int)) else
 (bif a0.Wish == (0 : Int) then ((bif (a0.Yes.toNat : Int) != ((0 : BitVec 8).toNat : Int) then (some true) else
 some a0.In).bind fun y31 =>
 (bif y31 then (some true) else
 some (decide ((a0.Later.length : Int) > (0 : Int)))).bind fun y34 =>
 some y34) else
 some false).bind fun y28 =>
 (bif y28 then (some true) else
 (bif a0.In then ((enter_others a2 a1).bind fun r42 =>
 some ((a0.Yes.toNat : Int) != (r42.toNat : Int))) else
 some false).bind fun y40 =>
 some y40).bind fun y37 =>
 bif y37 then (some (4 : Int)) else
 andThen (rangeM (enter_door_B1 a0 a1 a2) a0.Later.length 0 ()) fun _ =>
 some (0 : Int)
def enter_Check_B2 (a0 : Enter) (i26 : Nat) (z26 : Unit) : Option (Ctl Unit Int) :=
 (lat a0.Way (i26 : Int)).bind fun x29 =>
 (enter_in x29.From (0 : Int) (w64 ((a0.Doors.length : Int) - (1 : Int)))).bind fun r34 =>
 (bif !r34 then (some true) else
 (enter_in x29.To (0 : Int) (w64 ((a0.Doors.length : Int) - (1 : Int)))).bind fun r41 =>
 some (!r41)).bind fun y39 =>
 (bif y39 then (some true) else
 (enter_in x29.At (0 : Int) (16777215 : Int)).bind fun r50 =>
 some (!r50)).bind fun y48 =>
 bif y48 then (some (.ret (1 : Int))) else
 bif x29.From == x29.To then (some (.ret (4 : Int))) else
 some (.go ())
def enter_Check_B0 (a0 : Enter) (i10 : Nat) (z10 : Unit) : Option (Ctl Unit Int) :=
 (lat a0.Doors (i10 : Int)).bind fun x13 =>
 (enter_door x13 (i10 : Int) (a0.Doors.length : Int)).bind fun r20 =>
 bif r20 != (0 : Int) then (some (.ret r20)) else
 some (.go ())
def enter_Check (a0 : Enter) : Option Int :=
 (enter_in (a0.Doors.length : Int) (1 : Int) (6 : Int)).bind fun r4 =>
 bif !r4 then (some (1 : Int)) else
 andThen (rangeM (enter_Check_B0 a0) a0.Doors.length 0 ()) fun _ =>
 bif decide ((a0.Way.length : Int) > (100 : Int)) then (some (2 : Int)) else
 andThen (rangeM (enter_Check_B2 a0) a0.Way.length 0 ()) fun _ =>
 some (0 : Int)
def slices_Clone_api_Word_api_Word (a0 : List Word) : Option (List Word) :=
 (room ([] : List Word) a0).bind fun u5 =>
 some (([] : List Word) ++ a0)
def slices_Clone_int_int (a0 : List Int) : Option (List Int) :=
 (room ([] : List Int) a0).bind fun u5 =>
 some (([] : List Int) ++ a0)
def enter_clone_B0 (a0 : Enter) (r8 : (List Word)) (i20 : Nat) (z20 : Enter) : Option Enter :=
 (lat a0.Doors (i20 : Int)).bind fun x32 =>
 (slices_Clone_int_int x32.Later).bind fun r39 =>
 (room z20.Doors ([({ x32 with Later := r39 } : Door)] : List Door)).bind fun u49 =>
 some ({ z20 with Doors := z20.Doors ++ ([({ x32 with Later := r39 } : Door)] : List Door), Way := r8 } : Enter)
def enter_clone (a0 : Enter) : Option Enter :=
 (slices_Clone_api_Word_api_Word a0.Way).bind fun r8 =>
 (rangeF (enter_clone_B0 a0 r8) a0.Doors.length 0 ({ Enter.zero with Doors := ([] : List Door), Way := r8 } : Enter)).bind fun y24 =>
 some ({ y24 with Way := r8 } : Enter)
def enter_Wish_B1 (a1 : Int) (p88 : List Door) (i91 : Nat) (z91 : Enter × (List Word)) : Option (Enter × (List Word)) :=
 bif (i91 : Int) != a1 then ((lat p88 a1).bind fun x98 =>
 Let ([({ Word.zero with From := a1, To := (i91 : Int), At := x98.Wish } : Word)] : List Word) fun l106 =>
 (room z91.2 l106).bind fun u114 =>
 some (({ z91.1 with Doors := p88, Way := z91.2 ++ l106 } : Enter), z91.2 ++ l106)) else
 some (({ z91.1 with Doors := p88, Way := z91.2 } : Enter), z91.2)
def enter_Wish (a0 : Enter) (a1 : Int) : Option (Enter × Int) :=
 (enter_Check a0).bind fun r8 =>
 bif r8 != (0 : Int) then (some (({ Enter.zero with Doors := ([] : List Door), Way := ([] : List Word) } : Enter), r8)) else
 (enter_in a1 (0 : Int) (w64 ((a0.Doors.length : Int) - (1 : Int)))).bind fun r18 =>
 bif !r18 then (some (({ Enter.zero with Doors := ([] : List Door), Way := ([] : List Word) } : Enter), (1 : Int))) else
 (lat a0.Doors a1).bind fun x27 =>
 bif decide (x27.Wish > (0 : Int)) then (some (({ Enter.zero with Doors := ([] : List Door), Way := ([] : List Word) } : Enter), (11 : Int))) else
 (lat a0.Doors a1).bind fun x36 =>
 (bif x36.Clock == (16777215 : Int) then (some true) else
 some (decide ((w64 ((w64 ((a0.Way.length : Int) + (a0.Doors.length : Int))) - (1 : Int))) > (100 : Int)))).bind fun y41 =>
 bif y41 then (some (({ Enter.zero with Doors := ([] : List Door), Way := ([] : List Word) } : Enter), (8 : Int))) else
 (enter_clone a0).bind fun r50 =>
 (lat r50.Doors a1).bind fun x66 =>
 Let (r50.Doors.set a1.toNat ({ x66 with Clock := w64 (x66.Clock + (1 : Int)) } : Door)) fun p70 =>
 (lat p70 a1).bind fun x73 =>
 (lat p70 a1).bind fun x77 =>
 Let (p70.set a1.toNat ({ x77 with Wish := x73.Clock } : Door)) fun p81 =>
 (lat p81 a1).bind fun x84 =>
 Let (p81.set a1.toNat ({ x84 with In := (a0.Doors.length : Int) == (1 : Int) } : Door)) fun p88 =>
 (rangeF (enter_Wish_B1 a1 p88) a0.Doors.length 0 (({ r50 with Doors := p88 } : Enter), r50.Way)).bind fun (y92, l94) =>
 some (({ y92 with Doors := p88, Way := l94 } : Enter), (0 : Int))
def slices_Delete_api_Word_api_Word (a0 : List Word) (a1 : Int) (a2 : Int) : Option (List Word) :=
 (cutL a0 a1 a2).bind fun m3 =>
 bif a1 == a2 then (some a0) else
 (cutL a0 0 a1).bind fun m9 =>
 (cutL a0 a2 (a0.length : Int)).bind fun m13 =>
 some (a0.take ((a1 : Int).toNat) ++ a0.drop ((a2 : Int).toNat))
def enter_Take (a0 : Enter) (a1 : Int) : Option (Enter × Int) :=
 (enter_Check a0).bind fun r8 =>
 bif r8 != (0 : Int) then (some (({ Enter.zero with Doors := ([] : List Door), Way := ([] : List Word) } : Enter), r8)) else
 (enter_in a1 (0 : Int) (w64 ((a0.Way.length : Int) - (1 : Int)))).bind fun r17 =>
 bif !r17 then (some (({ Enter.zero with Doors := ([] : List Door), Way := ([] : List Word) } : Enter), (6 : Int))) else
 (enter_clone a0).bind fun r26 =>
 (lat r26.Way a1).bind fun x42 =>
 (slices_Delete_api_Word_api_Word r26.Way a1 (w64 (a1 + (1 : Int)))).bind fun r47 =>
 (lat r26.Doors x42.To).bind fun x53 =>
 bif x42.At == (0 : Int) then ((bif decide (x53.Wish > (0 : Int)) then ((cnt x42.From).bind fun n64 =>
 Let (r26.Doors.set x42.To.toNat ({ x53 with Yes := x53.Yes ||| ((1 : BitVec 8) <<< n64) } : Door)) fun p67 =>
 (lat p67 x42.To).bind fun x70 =>
 (enter_others (p67.length : Int) x42.To).bind fun r75 =>
 (lat p67 x42.To).bind fun x79 =>
 Let (p67.set x42.To.toNat ({ x79 with In := (x70.Yes.toNat : Int) == (r75.toNat : Int) } : Door)) fun p83 =>
 some (({ r26 with Doors := p83, Way := r47 } : Enter), p83)) else
 some (({ r26 with Way := r47 } : Enter), r26.Doors)).bind fun (y58, l59) =>
 some (({ y58 with Doors := l59, Way := r47 } : Enter), (0 : Int))) else
 Let (r26.Doors.set x42.To.toNat ({ x53 with Clock := max x53.Clock x42.At } : Door)) fun p88 =>
 (lat p88 x42.To).bind fun x91 =>
 (bif decide (x91.Wish > (0 : Int)) then ((lat p88 x42.To).bind fun x98 =>
 (bif decide (x98.Wish < x42.At) then (some true) else
 (lat p88 x42.To).bind fun x105 =>
 (bif x105.Wish == x42.At then (some (decide (x42.To < x42.From))) else
 some false).bind fun y110 =>
 some y110).bind fun y103 =>
 some y103) else
 some false).bind fun y96 =>
 ((lat p88 x42.To).bind fun x119 =>
 (bif !x119.In then (some (!y96)) else
 some false).bind fun y124 =>
 bif y124 then ((room r47 ([({ Word.zero with From := x42.To, To := x42.From } : Word)] : List Word)).bind fun u131 =>
 some (({ r26 with Doors := p88, Way := r47 ++ ([({ Word.zero with From := x42.To, To := x42.From } : Word)] : List Word) } : Enter), r47 ++ ([({ Word.zero with From := x42.To, To := x42.From } : Word)] : List Word), p88)) else
 (lat p88 x42.To).bind fun x134 =>
 (slices_Contains_int_int x134.Later x42.From).bind fun r138 =>
 bif !r138 then ((lat p88 x42.To).bind fun x143 =>
 (room x143.Later ([x42.From] : List Int)).bind fun u150 =>
 Let (x143.Later ++ ([x42.From] : List Int)) fun l155 =>
 (lat p88 x42.To).bind fun x164 =>
 Let (p88.set x42.To.toNat ({ x164 with Later := l155 } : Door)) fun p168 =>
 some (({ r26 with Doors := p168, Way := r47 } : Enter), r47, p168)) else
 some (({ r26 with Doors := p88, Way := r47 } : Enter), r47, p88)).bind fun (y112, l114, l115) =>
 some (({ y112 with Doors := l115, Way := l114 } : Enter), (0 : Int))
def enter_Leave_B1 (a1 : Int) (r45 : Enter) (x61 : Door) (i65 : Nat) (z65 : Enter × (List Word)) : Option (Enter × (List Word)) :=
 (lat x61.Later (i65 : Int)).bind fun x71 =>
 (room z65.2 ([({ Word.zero with From := a1, To := x71 } : Word)] : List Word)).bind fun u76 =>
 some (({ z65.1 with Doors := r45.Doors, Way := z65.2 ++ ([({ Word.zero with From := a1, To := x71 } : Word)] : List Word) } : Enter), z65.2 ++ ([({ Word.zero with From := a1, To := x71 } : Word)] : List Word))
def enter_Leave (a0 : Enter) (a1 : Int) : Option (Enter × Int) :=
 (enter_Check a0).bind fun r8 =>
 bif r8 != (0 : Int) then (some (({ Enter.zero with Doors := ([] : List Door), Way := ([] : List Word) } : Enter), r8)) else
 (enter_in a1 (0 : Int) (w64 ((a0.Doors.length : Int) - (1 : Int)))).bind fun r18 =>
 bif !r18 then (some (({ Enter.zero with Doors := ([] : List Door), Way := ([] : List Word) } : Enter), (1 : Int))) else
 (lat a0.Doors a1).bind fun x27 =>
 bif !x27.In then (some (({ Enter.zero with Doors := ([] : List Door), Way := ([] : List Word) } : Enter), (11 : Int))) else
 (lat a0.Doors a1).bind fun x36 =>
 bif decide ((w64 ((a0.Way.length : Int) + (x36.Later.length : Int))) > (100 : Int)) then (some (({ Enter.zero with Doors := ([] : List Door), Way := ([] : List Word) } : Enter), (8 : Int))) else
 (enter_clone a0).bind fun r45 =>
 (lat r45.Doors a1).bind fun x61 =>
 (rangeF (enter_Leave_B1 a1 r45 x61) x61.Later.length 0 (r45, r45.Way)).bind fun (y66, l68) =>
 (lat a0.Doors a1).bind fun x79 =>
 (lat r45.Doors a1).bind fun x83 =>
 Let (r45.Doors.set a1.toNat ({ Door.zero with Clock := x79.Clock } : Door)) fun p88 =>
 some (({ y66 with Doors := p88, Way := l68 } : Enter), (0 : Int))
def slices_Equal_int_int_B0 (a0 : List Int) (a1 : List Int) (i2 : Nat) (z2 : Unit) : Option (Ctl Unit Bool) :=
 (lat a0 (i2 : Int)).bind fun x5 =>
 (lat a1 (i2 : Int)).bind fun x8 =>
 bif x5 != x8 then (some (.ret false)) else
 some (.go ())
def slices_Equal_int_int (a0 : List Int) (a1 : List Int) : Option Bool :=
 bif (a0.length : Int) != (a1.length : Int) then (some false) else
 andThen (rangeM (slices_Equal_int_int_B0 a0 a1) a0.length 0 ()) fun _ =>
 some true
def partref_SameEnter_1 (a0 : Door) (a1 : Door) : Option Bool :=
 (bif a0.Clock == a1.Clock then (some (a0.Wish == a1.Wish)) else
 some false).bind fun y6 =>
 (bif y6 then (some ((a0.Yes.toNat : Int) == (a1.Yes.toNat : Int))) else
 some false).bind fun y11 =>
 (bif y11 then (some (a0.In == a1.In)) else
 some false).bind fun y16 =>
 (bif y16 then ((slices_Equal_int_int a0.Later a1.Later).bind fun r23 =>
 some r23) else
 some false).bind fun y21 =>
 some y21
def slices_EqualFunc_api_Door_api_Door_api_Door_api_Door_SameEnter_1_B0 (a0 : List Door) (a1 : List Door) (i5 : Nat) (z5 : Unit) : Option (Ctl Unit Bool) :=
 (lat a0 (i5 : Int)).bind fun x8 =>
 (lat a1 (i5 : Int)).bind fun x15 =>
 (partref_SameEnter_1 x8 x15).bind fun r22 =>
 bif !r22 then (some (.ret false)) else
 some (.go ())
def slices_EqualFunc_api_Door_api_Door_api_Door_api_Door_SameEnter_1 (a0 : List Door) (a1 : List Door) : Option Bool :=
 bif (a0.length : Int) != (a1.length : Int) then (some false) else
 andThen (rangeM (slices_EqualFunc_api_Door_api_Door_api_Door_api_Door_SameEnter_1_B0 a0 a1) a0.length 0 ()) fun _ =>
 some true
def slices_Equal_api_Word_api_Word_B0 (a0 : List Word) (a1 : List Word) (i2 : Nat) (z2 : Unit) : Option (Ctl Unit Bool) :=
 (lat a0 (i2 : Int)).bind fun x5 =>
 (lat a1 (i2 : Int)).bind fun x8 =>
 bif !(decide (x5 = x8)) then (some (.ret false)) else
 some (.go ())
def slices_Equal_api_Word_api_Word (a0 : List Word) (a1 : List Word) : Option Bool :=
 bif (a0.length : Int) != (a1.length : Int) then (some false) else
 andThen (rangeM (slices_Equal_api_Word_api_Word_B0 a0 a1) a0.length 0 ()) fun _ =>
 some true
def partref_SameEnter (a0 : Enter) (a1 : Enter) : Option Bool :=
 (slices_EqualFunc_api_Door_api_Door_api_Door_api_Door_SameEnter_1 a0.Doors a1.Doors).bind fun r5 =>
 (bif r5 then ((slices_Equal_api_Word_api_Word a0.Way a1.Way).bind fun r12 =>
 some r12) else
 some false).bind fun y10 =>
 some y10
def partref_enterCopy_B0 (a0 : Enter) (r8 : (List Word)) (i20 : Nat) (z20 : Enter) : Option Enter :=
 (lat a0.Doors (i20 : Int)).bind fun x32 =>
 (slices_Clone_int_int x32.Later).bind fun r39 =>
 (room z20.Doors ([({ x32 with Later := r39 } : Door)] : List Door)).bind fun u49 =>
 some ({ z20 with Doors := z20.Doors ++ ([({ x32 with Later := r39 } : Door)] : List Door), Way := r8 } : Enter)
def partref_enterCopy (a0 : Enter) : Option Enter :=
 (slices_Clone_api_Word_api_Word a0.Way).bind fun r8 =>
 (rangeF (partref_enterCopy_B0 a0 r8) a0.Doors.length 0 ({ Enter.zero with Doors := ([] : List Door), Way := r8 } : Enter)).bind fun y24 =>
 some ({ y24 with Way := r8 } : Enter)
def slices_Grow_api_Word_api_Word (a1 : Int) : Option (List Word) :=
 bif decide (a1 < (0 : Int)) then (none) else
 (bif decide ((w64 (a1 - (w64 ((0 : Int) - (0 : Int))))) > (0 : Int)) then ((mkLen (w64 (a1 - (w64 ((0 : Int) - (0 : Int)))))).bind fun n10 =>
 (cutL (List.replicate n10 Word.zero) 0 (0 : Int)).bind fun m14 =>
 some m14) else
 some ([] : List Word)).bind fun l4 =>
 some l4
def slices_Concat_api_Word_api_Word_B2 (a0 : List (List Word)) (i19 : Nat) (z19 : (List Word)) : Option (List Word) :=
 (lat a0 (i19 : Int)).bind fun x24 =>
 (room z19 x24).bind fun u28 =>
 some (z19 ++ x24)
def slices_Concat_api_Word_api_Word_B0 (a0 : List (List Word)) (i3 : Nat) (z3 : Int) : Option Int :=
 (lat a0 (i3 : Int)).bind fun x7 =>
 bif decide ((w64 (z3 + (x7.length : Int))) < (0 : Int)) then (none) else
 some (w64 (z3 + (x7.length : Int)))
def slices_Concat_api_Word_api_Word (a0 : List (List Word)) : Option (List Word) :=
 (rangeF (slices_Concat_api_Word_api_Word_B0 a0) a0.length 0 (0 : Int)).bind fun y4 =>
 (slices_Grow_api_Word_api_Word y4).bind fun r12 =>
 (rangeF (slices_Concat_api_Word_api_Word_B2 a0) a0.length 0 r12).bind fun l21 =>
 some l21
def partref_EnterTake (fu : Nat) (a0 : Enter) (a1 : Int) : Option Enter :=
 (partref_enterCopy a0).bind fun r8 =>
 (lat r8.Way a1).bind fun x24 =>
 (cutL a0.Way 0 a1).bind fun m29 =>
 (cutL a0.Way (w64 (a1 + (1 : Int))) (a0.Way.length : Int)).bind fun m34 =>
 (slices_Concat_api_Word_api_Word ([m29, m34] : List (List Word))).bind fun r43 =>
 (lat r8.Doors x24.To).bind fun x49 =>
 bif x24.At == (0 : Int) then (bif x49.Wish == (0 : Int) then (some ({ r8 with Way := r43 } : Enter)) else
 (cnt x24.From).bind fun n55 =>
 Let (r8.Doors.set x24.To.toNat ({ x49 with Yes := x49.Yes ||| ((1 : BitVec 8) <<< n55) } : Door)) fun p58 =>
 (lat p58 x24.To).bind fun x61 =>
 (bif x61.In then (some true) else
 (lat p58 x24.To).bind fun x68 =>
 (partref_size fu (BitVec.ofInt 16 (x68.Yes.toNat : Int))).bind fun r72 =>
 some (r72 == (w64 ((a0.Doors.length : Int) - (1 : Int))))).bind fun y66 =>
 (lat p58 x24.To).bind fun x77 =>
 Let (p58.set x24.To.toNat ({ x77 with In := y66 } : Door)) fun p81 =>
 some ({ r8 with Doors := p81, Way := r43 } : Enter)) else
 (bif x49.Wish != (0 : Int) then ((bif decide (x49.Wish < x24.At) then (some true) else
 (bif x49.Wish == x24.At then (some (decide (x24.To < x24.From))) else
 some false).bind fun y91 =>
 some y91).bind fun y88 =>
 some y88) else
 some false).bind fun y85 =>
 Let (r8.Doors.set x24.To.toNat ({ x49 with Clock := max x24.At x49.Clock } : Door)) fun p93 =>
 ((lat p93 x24.To).bind fun x103 =>
 (bif !x103.In then (some (!y85)) else
 some false).bind fun y108 =>
 bif y108 then ((room r43 ([({ Word.zero with From := x24.To, To := x24.From } : Word)] : List Word)).bind fun u115 =>
 some (({ r8 with Doors := p93, Way := r43 ++ ([({ Word.zero with From := x24.To, To := x24.From } : Word)] : List Word) } : Enter), r43 ++ ([({ Word.zero with From := x24.To, To := x24.From } : Word)] : List Word), p93)) else
 (lat p93 x24.To).bind fun x118 =>
 (slices_Contains_int_int x118.Later x24.From).bind fun r122 =>
 bif !r122 then ((lat p93 x24.To).bind fun x127 =>
 (room x127.Later ([x24.From] : List Int)).bind fun u134 =>
 Let (x127.Later ++ ([x24.From] : List Int)) fun l139 =>
 (lat p93 x24.To).bind fun x148 =>
 Let (p93.set x24.To.toNat ({ x148 with Later := l139 } : Door)) fun p152 =>
 some (({ r8 with Doors := p152, Way := r43 } : Enter), r43, p152)) else
 some (({ r8 with Doors := p93, Way := r43 } : Enter), r43, p93)).bind fun (y96, l98, l99) =>
 some ({ y96 with Doors := l99, Way := l98 } : Enter)
def partref_EnterWish_B0 (a1 : Int) (x48 : Door) (p57 : List Door) (i60 : Nat) (z60 : Enter × (List Word)) : Option (Enter × (List Word)) :=
 bif (i60 : Int) != a1 then ((room z60.2 ([({ Word.zero with From := a1, To := (i60 : Int), At := w64 (x48.Clock + (1 : Int)) } : Word)] : List Word)).bind fun u69 =>
 some (({ z60.1 with Doors := p57, Way := z60.2 ++ ([({ Word.zero with From := a1, To := (i60 : Int), At := w64 (x48.Clock + (1 : Int)) } : Word)] : List Word) } : Enter), z60.2 ++ ([({ Word.zero with From := a1, To := (i60 : Int), At := w64 (x48.Clock + (1 : Int)) } : Word)] : List Word))) else
 some (({ z60.1 with Doors := p57, Way := z60.2 } : Enter), z60.2)
def partref_EnterWish (a0 : Enter) (a1 : Int) : Option (Enter × Int) :=
 (lat a0.Doors a1).bind fun x9 =>
 bif x9.Wish != (0 : Int) then (some (({ Enter.zero with Doors := ([] : List Door), Way := ([] : List Word) } : Enter), (11 : Int))) else
 (lat a0.Doors a1).bind fun x18 =>
 (bif x18.Clock == (16777215 : Int) then (some true) else
 some (decide ((w64 ((a0.Way.length : Int) + (a0.Doors.length : Int))) > (101 : Int)))).bind fun y23 =>
 bif y23 then (some (({ Enter.zero with Doors := ([] : List Door), Way := ([] : List Word) } : Enter), (8 : Int))) else
 (partref_enterCopy a0).bind fun r32 =>
 (lat r32.Doors a1).bind fun x48 =>
 (lat r32.Doors a1).bind fun x52 =>
 Let (r32.Doors.set a1.toNat ({ Door.zero with Clock := w64 (x48.Clock + (1 : Int)), Wish := w64 (x48.Clock + (1 : Int)), In := (a0.Doors.length : Int) == (1 : Int) } : Door)) fun p57 =>
 (rangeF (partref_EnterWish_B0 a1 x48 p57) a0.Doors.length 0 (({ r32 with Doors := p57 } : Enter), r32.Way)).bind fun (y61, l63) =>
 some (({ y61 with Doors := p57, Way := l63 } : Enter), (0 : Int))
def partref_EnterLeave_B0 (a1 : Int) (r26 : Enter) (x42 : Door) (i46 : Nat) (z46 : Enter × (List Word)) : Option (Enter × (List Word)) :=
 (lat x42.Later (i46 : Int)).bind fun x52 =>
 (room z46.2 ([({ Word.zero with From := a1, To := x52 } : Word)] : List Word)).bind fun u57 =>
 some (({ z46.1 with Doors := r26.Doors, Way := z46.2 ++ ([({ Word.zero with From := a1, To := x52 } : Word)] : List Word) } : Enter), z46.2 ++ ([({ Word.zero with From := a1, To := x52 } : Word)] : List Word))
def partref_EnterLeave (a0 : Enter) (a1 : Int) : Option (Enter × Int) :=
 (lat a0.Doors a1).bind fun x8 =>
 bif !x8.In then (some (({ Enter.zero with Doors := ([] : List Door), Way := ([] : List Word) } : Enter), (11 : Int))) else
 (lat a0.Doors a1).bind fun x17 =>
 bif decide ((w64 ((a0.Way.length : Int) + (x17.Later.length : Int))) > (100 : Int)) then (some (({ Enter.zero with Doors := ([] : List Door), Way := ([] : List Word) } : Enter), (8 : Int))) else
 (partref_enterCopy a0).bind fun r26 =>
 (lat a0.Doors a1).bind fun x42 =>
 (rangeF (partref_EnterLeave_B0 a1 r26 x42) x42.Later.length 0 (r26, r26.Way)).bind fun (y47, l49) =>
 (lat a0.Doors a1).bind fun x60 =>
 (lat r26.Doors a1).bind fun x64 =>
 Let (r26.Doors.set a1.toNat ({ Door.zero with Clock := x60.Clock } : Door)) fun p69 =>
 some (({ y47 with Doors := p69, Way := l49 } : Enter), (0 : Int))
def partlaw_EnterSays (fu : Nat) (a0 : Enter) (a1 : Int) (a2 : Int) (a3 : Int) : Option Bool :=
 (partref_EnterErr fu a0).bind fun r3 =>
 (enter_New a1).bind fun r12 =>
 (enter_Wish a0 a2).bind fun r28 =>
 (enter_Take a0 a3).bind fun r44 =>
 (enter_Leave a0 a2).bind fun r60 =>
 andThen ((bif decide (a1 < (1 : Int)) then (some true) else
 some (decide (a1 > (6 : Int)))).bind fun y78 =>
 bif y78 then ((partref_SameEnter r12.1 Enter.zero).bind fun r83 =>
 (bif !r83 then (some true) else
 some (r12.2 != (1 : Int))).bind fun y88 =>
 bif y88 then (some (.inr false)) else
 some (.inl ())) else
 (mkLen a1).bind fun n93 =>
 Let (r12.1, (List.replicate n93 Door.zero)) fun (y102, l104) =>
 (partref_SameEnter ({ y102 with Doors := r12.1.Doors, Way := r12.1.Way } : Enter) ({ Enter.zero with Doors := l104 } : Enter)).bind fun r115 =>
 (bif !r115 then (some true) else
 some (r12.2 != (0 : Int))).bind fun y120 =>
 bif y120 then (some (.inr false)) else
 some (.inl ())) fun _ =>
 (enter_Check a0).bind fun r127 =>
 bif r127 != r3 then (some false) else
 bif r3 != (0 : Int) then ((partref_SameEnter r28.1 Enter.zero).bind fun r133 =>
 (bif r133 then (some (r28.2 == r3)) else
 some false).bind fun y138 =>
 (bif y138 then ((partref_SameEnter r44.1 Enter.zero).bind fun r145 =>
 some r145) else
 some false).bind fun y143 =>
 (bif y143 then (some (r44.2 == r3)) else
 some false).bind fun y152 =>
 (bif y152 then ((partref_SameEnter r60.1 Enter.zero).bind fun r159 =>
 some r159) else
 some false).bind fun y157 =>
 (bif y157 then (some (r60.2 == r3)) else
 some false).bind fun y166 =>
 some y166) else
 andThen ((bif decide (a3 < (0 : Int)) then (some true) else
 some (decide (a3 ≥ (a0.Way.length : Int)))).bind fun y172 =>
 bif y172 then ((partref_SameEnter r44.1 Enter.zero).bind fun r177 =>
 (bif !r177 then (some true) else
 some (r44.2 != (6 : Int))).bind fun y182 =>
 bif y182 then (some (.inr false)) else
 some (.inl ())) else
 (partref_EnterTake fu a0 a3).bind fun r187 =>
 Let (r187.Doors, r187.Way) fun (l200, l204) =>
 (partref_SameEnter r44.1 ({ r187 with Doors := l200, Way := l204 } : Enter)).bind fun r215 =>
 (bif !r215 then (some true) else
 some (r44.2 != (0 : Int))).bind fun y220 =>
 bif y220 then (some (.inr false)) else
 some (.inl ())) fun _ =>
 (bif decide (a2 < (0 : Int)) then (some true) else
 some (decide (a2 ≥ (a0.Doors.length : Int)))).bind fun y228 =>
 bif y228 then ((partref_SameEnter r28.1 Enter.zero).bind fun r234 =>
 (bif r234 then (some (r28.2 == (1 : Int))) else
 some false).bind fun y239 =>
 (bif y239 then ((partref_SameEnter r60.1 Enter.zero).bind fun r246 =>
 some r246) else
 some false).bind fun y244 =>
 (bif y244 then (some (r60.2 == (1 : Int))) else
 some false).bind fun y253 =>
 some y253) else
 (partref_EnterWish a0 a2).bind fun r257 =>
 (partref_EnterLeave a0 a2).bind fun r273 =>
 (partref_SameEnter r28.1 r257.1).bind fun r289 =>
 (bif r289 then (some (r28.2 == r257.2)) else
 some false).bind fun y294 =>
 (bif y294 then ((partref_SameEnter r60.1 r273.1).bind fun r301 =>
 some r301) else
 some false).bind fun y299 =>
 (bif y299 then (some (r60.2 == r273.2)) else
 some false).bind fun y308 =>
 some y308
end Go.Proofs.Ytobikknjaomalaa
