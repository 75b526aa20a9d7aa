/-
  What the functions compute, typed; printed by a program.
-/
import Derived.Test.YtnkfphbggemlbaaGoI
import Derived.Test.YtnkfphbggemlbaaGoM
namespace Go.Proofs.Ytnkfphbggemlbaa
open Go.RowKit Enc
set_option linter.unusedVariables false
set_option linter.unusedSimpArgs false
structure Move where
  Kind : Int
  From : Int
  To : Int
  N : Int
instance : DecidableEq Move := fun a b => decidable_of_iff (a.Kind = b.Kind ∧ a.From = b.From ∧ a.To = b.To ∧ a.N = b.N) (by cases a; cases b; simp)
def Move.zero : Move := ⟨(0 : Int), (0 : Int), (0 : Int), (0 : Int)⟩
instance : Enc Move := ⟨fun p => enc p.Kind ++ (enc p.From ++ (enc p.To ++ (enc p.N))), 4, fun p => by simp only [List.length_append, Enc.len]; rfl, fun p => by simp only [List.all_append, Enc.one, Bool.and_self]⟩
theorem Move.get_Kind {p : Move} {k : Nat} {ch : List Value} (h : Get (enc p.Kind) k ch) : Get (enc p) (0 + k) ch := Get.off (Get.left h) (by omega)
theorem Move.put_Kind {p : Move} {k : Nat} {vs : List Value} {y : Int} (h : Put (enc p.Kind) k vs (enc y)) : Put (enc p) (0 + k) vs (enc ({ p with Kind := y } : Move)) := Put.off (cs' := enc ({ p with Kind := y } : Move)) (Put.left h) (by omega)
theorem Move.get_From {p : Move} {k : Nat} {ch : List Value} (h : Get (enc p.From) k ch) : Get (enc p) (1 + k) ch := Get.off (Get.right (m := 1) (Enc.len _) (Get.left h)) (by omega)
theorem Move.put_From {p : Move} {k : Nat} {vs : List Value} {y : Int} (h : Put (enc p.From) k vs (enc y)) : Put (enc p) (1 + k) vs (enc ({ p with From := y } : Move)) := Put.off (cs' := enc ({ p with From := y } : Move)) (Put.right (m := 1) (Enc.len _) (Put.left h)) (by omega)
theorem Move.get_To {p : Move} {k : Nat} {ch : List Value} (h : Get (enc p.To) k ch) : Get (enc p) (2 + k) ch := Get.off (Get.right (m := 1) (Enc.len _) (Get.right (m := 1) (Enc.len _) (Get.left h))) (by omega)
theorem Move.put_To {p : Move} {k : Nat} {vs : List Value} {y : Int} (h : Put (enc p.To) k vs (enc y)) : Put (enc p) (2 + k) vs (enc ({ p with To := y } : Move)) := Put.off (cs' := enc ({ p with To := y } : Move)) (Put.right (m := 1) (Enc.len _) (Put.right (m := 1) (Enc.len _) (Put.left h))) (by omega)
theorem Move.get_N {p : Move} {k : Nat} {ch : List Value} (h : Get (enc p.N) k ch) : Get (enc p) (3 + k) ch := Get.off (Get.right (m := 1) (Enc.len _) (Get.right (m := 1) (Enc.len _) (Get.right (m := 1) (Enc.len _) h))) (by omega)
theorem Move.put_N {p : Move} {k : Nat} {vs : List Value} {y : Int} (h : Put (enc p.N) k vs (enc y)) : Put (enc p) (3 + k) vs (enc ({ p with N := y } : Move)) := Put.off (cs' := enc ({ p with N := y } : Move)) (Put.right (m := 1) (Enc.len _) (Put.right (m := 1) (Enc.len _) (Put.right (m := 1) (Enc.len _) h))) (by omega)
instance : Rng Move := ⟨fun p => Rng.ok p.Kind ∧ Rng.ok p.From ∧ Rng.ok p.To ∧ Rng.ok p.N⟩
structure Picture where
  Have : List Int
  Lanes : List (List Int)
  Whole : Bool
  Now : List Int
  Under : Int
instance : DecidableEq Picture := fun a b => decidable_of_iff (a.Have = b.Have ∧ a.Lanes = b.Lanes ∧ a.Whole = b.Whole ∧ a.Now = b.Now ∧ a.Under = b.Under) (by cases a; cases b; simp)
def Picture.zero : Picture := ⟨[], [], false, [], (0 : Int)⟩
instance : Rng Picture := ⟨fun p => Rng.ok p.Have ∧ Rng.ok p.Lanes ∧ Rng.ok p.Whole ∧ Rng.ok p.Now ∧ Rng.ok p.Under⟩
structure Lane where
  words : List Int
  closed : Bool
  total : Int
instance : DecidableEq Lane := fun a b => decidable_of_iff (a.words = b.words ∧ a.closed = b.closed ∧ a.total = b.total) (by cases a; cases b; simp)
def Lane.zero : Lane := ⟨[], false, (0 : Int)⟩
instance : Rng Lane := ⟨fun p => Rng.ok p.words ∧ Rng.ok p.closed ∧ Rng.ok p.total⟩
structure Game where
  now : List Int
  have_ : List Int
  recorded : List Bool
  lanes : List (List Lane)
instance : DecidableEq Game := fun a b => decidable_of_iff (a.now = b.now ∧ a.have_ = b.have_ ∧ a.recorded = b.recorded ∧ a.lanes = b.lanes) (by cases a; cases b; simp)
def Game.zero : Game := ⟨[], [], [], []⟩
instance : Rng Game := ⟨fun p => Rng.ok p.now ∧ Rng.ok p.have_ ∧ Rng.ok p.recorded ∧ Rng.ok p.lanes⟩
structure Thing where
  from_ : Int
  to : Int
  n : Int
  mark : Bool
instance : DecidableEq Thing := fun a b => decidable_of_iff (a.from_ = b.from_ ∧ a.to = b.to ∧ a.n = b.n ∧ a.mark = b.mark) (by cases a; cases b; simp)
def Thing.zero : Thing := ⟨(0 : Int), (0 : Int), (0 : Int), false⟩
instance : Enc Thing := ⟨fun p => enc p.from_ ++ (enc p.to ++ (enc p.n ++ (enc p.mark))), 4, fun p => by simp only [List.length_append, Enc.len]; rfl, fun p => by simp only [List.all_append, Enc.one, Bool.and_self]⟩
theorem Thing.get_from_ {p : Thing} {k : Nat} {ch : List Value} (h : Get (enc p.from_) k ch) : Get (enc p) (0 + k) ch := Get.off (Get.left h) (by omega)
theorem Thing.put_from_ {p : Thing} {k : Nat} {vs : List Value} {y : Int} (h : Put (enc p.from_) k vs (enc y)) : Put (enc p) (0 + k) vs (enc ({ p with from_ := y } : Thing)) := Put.off (cs' := enc ({ p with from_ := y } : Thing)) (Put.left h) (by omega)
theorem Thing.get_to {p : Thing} {k : Nat} {ch : List Value} (h : Get (enc p.to) k ch) : Get (enc p) (1 + k) ch := Get.off (Get.right (m := 1) (Enc.len _) (Get.left h)) (by omega)
theorem Thing.put_to {p : Thing} {k : Nat} {vs : List Value} {y : Int} (h : Put (enc p.to) k vs (enc y)) : Put (enc p) (1 + k) vs (enc ({ p with to := y } : Thing)) := Put.off (cs' := enc ({ p with to := y } : Thing)) (Put.right (m := 1) (Enc.len _) (Put.left h)) (by omega)
theorem Thing.get_n {p : Thing} {k : Nat} {ch : List Value} (h : Get (enc p.n) k ch) : Get (enc p) (2 + k) ch := Get.off (Get.right (m := 1) (Enc.len _) (Get.right (m := 1) (Enc.len _) (Get.left h))) (by omega)
theorem Thing.put_n {p : Thing} {k : Nat} {vs : List Value} {y : Int} (h : Put (enc p.n) k vs (enc y)) : Put (enc p) (2 + k) vs (enc ({ p with n := y } : Thing)) := Put.off (cs' := enc ({ p with n := y } : Thing)) (Put.right (m := 1) (Enc.len _) (Put.right (m := 1) (Enc.len _) (Put.left h))) (by omega)
theorem Thing.get_mark {p : Thing} {k : Nat} {ch : List Value} (h : Get (enc p.mark) k ch) : Get (enc p) (3 + k) ch := Get.off (Get.right (m := 1) (Enc.len _) (Get.right (m := 1) (Enc.len _) (Get.right (m := 1) (Enc.len _) h))) (by omega)
theorem Thing.put_mark {p : Thing} {k : Nat} {vs : List Value} {y : Bool} (h : Put (enc p.mark) k vs (enc y)) : Put (enc p) (3 + k) vs (enc ({ p with mark := y } : Thing)) := Put.off (cs' := enc ({ p with mark := y } : Thing)) (Put.right (m := 1) (Enc.len _) (Put.right (m := 1) (Enc.len _) (Put.right (m := 1) (Enc.len _) h))) (by omega)
instance : Rng Thing := ⟨fun p => Rng.ok p.from_ ∧ Rng.ok p.to ∧ Rng.ok p.n ∧ Rng.ok p.mark⟩
def partref_MovesErr_B2 (a0 : List Int) (a1 : List Move) (i20 : Nat) (z20 : Unit) : Option (Ctl Unit Int) :=
 (lat a1 (i20 : Int)).bind fun x23 =>
 (bif decide (x23.Kind < (1 : Int)) then (some true) else
 some (decide (x23.Kind > (3 : Int)))).bind fun y29 =>
 (bif y29 then (some true) else
 some (decide ((min (min x23.From x23.To) x23.N) < (0 : Int)))).bind fun y34 =>
 (bif y34 then (some true) else
 some (decide ((max x23.From x23.To) ≥ (a0.length : Int)))).bind fun y39 =>
 (bif y39 then (some true) else
 some (decide (x23.N > (1000000 : Int)))).bind fun y44 =>
 bif y44 then (some (.ret (1 : Int))) else
 (bif decide (x23.Kind < (3 : Int)) then (some (x23.From == x23.To)) else
 some false).bind fun y50 =>
 bif y50 then (some (.ret (4 : Int))) else
 some (.go ())
def partref_MovesErr_B0 (a0 : List Int) (i8 : Nat) (z8 : Unit) : Option (Ctl Unit Int) :=
 (lat a0 (i8 : Int)).bind fun x11 =>
 (bif decide (x11 < (0 : Int)) then (some true) else
 some (decide (x11 > (1000000 : Int)))).bind fun y15 =>
 bif y15 then (some (.ret (1 : Int))) else
 some (.go ())
def partref_MovesErr (a0 : List Int) (a1 : List Move) : Option Int :=
 (bif (a0.length : Int) == (0 : Int) then (some true) else
 some (decide ((a0.length : Int) > (6 : Int)))).bind fun y2 =>
 bif y2 then (some (1 : Int)) else
 bif decide ((a1.length : Int) > (200 : Int)) then (some (2 : Int)) else
 andThen (rangeM (partref_MovesErr_B0 a0) a0.length 0 ()) fun _ =>
 andThen (rangeM (partref_MovesErr_B2 a0 a1) a1.length 0 ()) fun _ =>
 some (0 : Int)
def snap_in (a0 : Int) (a1 : Int) (a2 : Int) : Option Bool :=
 (bif decide (a0 ≥ a1) then (some (decide (a0 ≤ a2))) else
 some false).bind fun y2 =>
 some y2
def snap_Check_1 (a0 : Int) : Option Bool :=
 (snap_in a0 (0 : Int) (1000000 : Int)).bind fun r1 =>
 some (!r1)
def slices_IndexFunc_int_int_Check_1_B0 (a0 : List Int) (i1 : Nat) (z1 : Unit) : Option (Ctl Unit Int) :=
 (lat a0 (i1 : Int)).bind fun x4 =>
 (snap_Check_1 x4).bind fun r7 =>
 bif r7 then (some (.ret (i1 : Int))) else
 some (.go ())
def slices_IndexFunc_int_int_Check_1 (a0 : List Int) : Option Int :=
 andThen (rangeM (slices_IndexFunc_int_int_Check_1_B0 a0) a0.length 0 ()) fun _ =>
 some (-1 : Int)
def slices_ContainsFunc_int_int_Check_1 (a0 : List Int) : Option Bool :=
 (slices_IndexFunc_int_int_Check_1 a0).bind fun r1 =>
 some (decide (r1 ≥ (0 : Int)))
def snap_Check_B1 (a0 : List Int) (a1 : List Move) (i12 : Nat) (z12 : Unit) : Option (Ctl Unit Int) :=
 (lat a1 (i12 : Int)).bind fun x15 =>
 (snap_in x15.Kind (1 : Int) (3 : Int)).bind fun r20 =>
 (bif !r20 then (some true) else
 (snap_in x15.From (0 : Int) (w64 ((a0.length : Int) - (1 : Int)))).bind fun r27 =>
 some (!r27)).bind fun y25 =>
 (bif y25 then (some true) else
 (snap_in x15.To (0 : Int) (w64 ((a0.length : Int) - (1 : Int)))).bind fun r36 =>
 some (!r36)).bind fun y34 =>
 (bif y34 then (some true) else
 (snap_in x15.N (0 : Int) (1000000 : Int)).bind fun r45 =>
 some (!r45)).bind fun y43 =>
 bif y43 then (some (.ret (1 : Int))) else
 (bif x15.From == x15.To then (some (x15.Kind != (3 : Int))) else
 some false).bind fun y53 =>
 bif y53 then (some (.ret (4 : Int))) else
 some (.go ())
def snap_Check (a0 : List Int) (a1 : List Move) : Option Int :=
 (snap_in (a0.length : Int) (1 : Int) (6 : Int)).bind fun r1 =>
 bif !r1 then (some (1 : Int)) else
 bif decide ((a1.length : Int) > (200 : Int)) then (some (2 : Int)) else
 (slices_ContainsFunc_int_int_Check_1 a0).bind fun r7 =>
 bif r7 then (some (1 : Int)) else
 andThen (rangeM (snap_Check_B1 a0 a1) a1.length 0 ()) fun _ =>
 some (0 : Int)
def slices_Clone_int_int (a0 : List Int) : Option (List Int) :=
 (room ([] : List Int) a0).bind fun u5 =>
 some (([] : List Int) ++ a0)
def snap_game_record_B0 (a0 : Game) (a1 : Int) (p12 : List Bool) (p20 : List Int) (i22 : Nat) (z22 : Game × (List (List Lane))) : Option (Game × (List (List Lane))) :=
 bif (i22 : Int) != a1 then ((lat z22.2 a1).bind fun x30 =>
 (lat z22.2 a1).bind fun x34 =>
 (lat x34 (i22 : Int)).bind fun x38 =>
 (room x38.words ([(-1 : Int)] : List Int)).bind fun u45 =>
 Let (x38.words ++ ([(-1 : Int)] : List Int)) fun l50 =>
 (lat x30 (i22 : Int)).bind fun x65 =>
 Let (z22.2.set a1.toNat (x30.set (i22 : Int).toNat ({ x65 with words := l50 } : Lane))) fun p69 =>
 some (({ z22.1 with now := a0.now, have_ := p20, recorded := p12, lanes := p69 } : Game), p69)) else
 some (({ z22.1 with now := a0.now, have_ := p20, recorded := p12, lanes := z22.2 } : Game), z22.2)
def snap_game_record (a0 : Game) (a1 : Int) : Option ((List Int) × (List Bool) × (List (List Lane)) × Game) :=
 (lat a0.recorded a1).bind fun x5 =>
 bif x5 then (some (a0.have_, a0.recorded, a0.lanes, a0)) else
 (lat a0.recorded a1).bind fun x9 =>
 Let (a0.recorded.set a1.toNat true) fun p12 =>
 (lat a0.now a1).bind fun x14 =>
 (lat a0.have_ a1).bind fun x17 =>
 Let (a0.have_.set a1.toNat x14) fun p20 =>
 (rangeF (snap_game_record_B0 a0 a1 p12 p20) a0.now.length 0 (({ a0 with have_ := p20, recorded := p12 } : Game), a0.lanes)).bind fun (y23, l24) =>
 some (p20, p12, l24, ({ y23 with now := a0.now, have_ := p20, recorded := p12, lanes := l24 } : Game))
def snap_game_take (a0 : Game) (a1 : Int) (a2 : Int) : Option ((List Int) × (List Int) × (List Bool) × (List (List Lane)) × Game) :=
 (lat a0.lanes a1).bind fun x6 =>
 (lat x6 a2).bind fun x10 =>
 bif (x10.words.length : Int) == (0 : Int) then (some (a0.now, a0.have_, a0.recorded, a0.lanes, a0)) else
 (lat x10.words (0 : Int)).bind fun x15 =>
 (cutL x10.words (1 : Int) (x10.words.length : Int)).bind fun m19 =>
 Let (a0.lanes.set a1.toNat (x6.set a2.toNat ({ x10 with words := m19 } : Lane))) fun p24 =>
 bif x15 == (-1 : Int) then ((snap_game_record ({ a0 with lanes := p24 } : Game) a2).bind fun r28 =>
 (lat r28.2.2.1 a1).bind fun x34 =>
 (lat x34 a2).bind fun x38 =>
 Let (r28.2.2.1.set a1.toNat (x34.set a2.toNat ({ x38 with closed := true } : Lane))) fun p42 =>
 some (a0.now, r28.1, r28.2.1, p42, ({ r28.2.2.2 with now := a0.now, have_ := r28.1, recorded := r28.2.1, lanes := p42 } : Game))) else
 (lat a0.now a2).bind fun x45 =>
 (lat a0.now a2).bind fun x48 =>
 Let (a0.now.set a2.toNat (w64 (x45 + x15))) fun p51 =>
 (lat a0.recorded a2).bind fun x53 =>
 (bif x53 then ((lat p24 a1).bind fun x59 =>
 (lat x59 a2).bind fun x63 =>
 some (!x63.closed)) else
 some false).bind fun y57 =>
 bif y57 then ((lat p24 a1).bind fun x70 =>
 (lat x70 a2).bind fun x74 =>
 Let (p24.set a1.toNat (x70.set a2.toNat ({ x74 with total := w64 (x74.total + x15) } : Lane))) fun p78 =>
 some (p51, a0.have_, a0.recorded, p78, ({ a0 with now := p51, lanes := p78 } : Game))) else
 some (p51, a0.have_, a0.recorded, p24, ({ a0 with now := p51, lanes := p24 } : Game))
def snap_game_move (a0 : Game) (a1 : Move) : Option ((List Int) × (List Int) × (List Bool) × (List (List Lane)) × Game) :=
 bif a1.Kind == (1 : Int) then ((lat a0.now a1.From).bind fun x22 =>
 bif decide (x22 ≥ a1.N) then ((lat a0.now a1.From).bind fun x26 =>
 (lat a0.now a1.From).bind fun x29 =>
 Let (a0.now.set a1.From.toNat (w64 (x26 - a1.N))) fun p32 =>
 (lat a0.lanes a1.From).bind fun x34 =>
 (lat x34 a1.To).bind fun x38 =>
 (room x38.words ([a1.N] : List Int)).bind fun u45 =>
 Let (x38.words ++ ([a1.N] : List Int)) fun l50 =>
 Let (a0.lanes.set a1.From.toNat (x34.set a1.To.toNat ({ x38 with words := l50 } : Lane))) fun p57 =>
 some (p32, a0.have_, a0.recorded, p57, ({ a0 with now := p32, lanes := p57 } : Game))) else
 some (a0.now, a0.have_, a0.recorded, a0.lanes, a0)) else
 bif a1.Kind == (2 : Int) then ((snap_game_take a0 a1.From a1.To).bind fun r16 =>
 some (r16.1, r16.2.1, r16.2.2.1, r16.2.2.2.1, ({ r16.2.2.2.2 with now := r16.1, have_ := r16.2.1, recorded := r16.2.2.1, lanes := r16.2.2.2.1 } : Game))) else
 (snap_game_record a0 a1.From).bind fun r10 =>
 some (a0.now, r10.1, r10.2.1, r10.2.2.1, ({ r10.2.2.2 with now := a0.now, have_ := r10.1, recorded := r10.2.1, lanes := r10.2.2.1 } : Game))
def slices_Index_bool_bool_B0 (a0 : List Bool) (a1 : Bool) (i1 : Nat) (z1 : Unit) : Option (Ctl Unit Int) :=
 (lat a0 (i1 : Int)).bind fun x4 =>
 bif a1 == x4 then (some (.ret (i1 : Int))) else
 some (.go ())
def slices_Index_bool_bool (a0 : List Bool) (a1 : Bool) : Option Int :=
 andThen (rangeM (slices_Index_bool_bool_B0 a0 a1) a0.length 0 ()) fun _ =>
 some (-1 : Int)
def slices_Contains_bool_bool (a0 : List Bool) (a1 : Bool) : Option Bool :=
 (slices_Index_bool_bool a0 a1).bind fun r1 =>
 some (decide (r1 ≥ (0 : Int)))
def snap_game_picture_B4 (a0 : Game) (y47 : Picture) (x67 : Lane) (i80 : Nat) (z80 : Picture) : Option Picture :=
 (lat x67.words (i80 : Int)).bind fun x84 =>
 Let (w64 (z80.Under + (max x84 (0 : Int)))) fun p87 =>
 some ({ z80 with Have := a0.have_, Lanes := y47.Lanes, Now := a0.now, Under := p87 } : Picture)
def snap_game_picture_B4x (a0 : Game) (y47 : Picture) (x67 : Lane) (i95 : Nat) (z95 : Picture) : Option Picture :=
 (lat x67.words (i95 : Int)).bind fun x99 =>
 Let (w64 (z95.Under + (max x99 (0 : Int)))) fun p102 =>
 some ({ z95 with Have := a0.have_, Lanes := y47.Lanes, Now := a0.now, Under := p102 } : Picture)
def snap_game_picture_B2 (a0 : Game) (y47 : Picture) (i44 : Nat) (x55 : List Lane) (i61 : Nat) (z61 : Picture × (List Int)) : Option (Picture × (List Int)) :=
 (lat x55 (i61 : Int)).bind fun x67 =>
 (room z61.2 ([x67.total] : List Int)).bind fun u76 =>
 bif z61.1.Whole then ((bif (i44 : Int) == (i61 : Int) then (some true) else
 some x67.closed).bind fun y91 =>
 (rangeF (snap_game_picture_B4x a0 y47 x67) x67.words.length 0 ({ z61.1 with Have := a0.have_, Lanes := y47.Lanes, Whole := y91, Now := a0.now } : Picture)).bind fun y96 =>
 some (({ y96 with Have := a0.have_, Lanes := y47.Lanes, Now := a0.now } : Picture), z61.2 ++ ([x67.total] : List Int))) else
 (rangeF (snap_game_picture_B4 a0 y47 x67) x67.words.length 0 ({ z61.1 with Have := a0.have_, Lanes := y47.Lanes, Whole := false, Now := a0.now } : Picture)).bind fun y81 =>
 some (({ y81 with Have := a0.have_, Lanes := y47.Lanes, Now := a0.now } : Picture), z61.2 ++ ([x67.total] : List Int))
def snap_game_picture_B0 (a0 : Game) (i44 : Nat) (z44 : Picture) : Option Picture :=
 (lat a0.lanes (i44 : Int)).bind fun x55 =>
 (rangeF (snap_game_picture_B2 a0 z44 i44 x55) x55.length 0 (({ z44 with Have := a0.have_, Now := a0.now } : Picture), ([] : List Int))).bind fun (y62, l64) =>
 (room z44.Lanes ([l64] : List (List Int))).bind fun u113 =>
 some ({ y62 with Have := a0.have_, Lanes := z44.Lanes ++ ([l64] : List (List Int)), Now := a0.now } : Picture)
def snap_game_picture (a0 : Game) : Option Picture :=
 (slices_Contains_bool_bool a0.recorded false).bind fun r9 =>
 Let (({ Picture.zero with Have := a0.have_, Whole := !r9, Now := a0.now } : Picture), ([] : List Int), ([] : List (List Int)), ([] : List Int)) fun (y20, l23, l25, l30) =>
 (rangeF (snap_game_picture_B0 a0) a0.lanes.length 0 ({ y20 with Have := a0.have_, Lanes := ([] : List (List Int)), Now := a0.now } : Picture)).bind fun y47 =>
 some ({ y47 with Have := a0.have_, Now := a0.now } : Picture)
def snap_Play_B2 (a1 : List Move) (i130 : Nat) (z130 : Game × (List (List Lane)) × (List Bool) × (List Int) × (List Int)) : Option (Game × (List (List Lane)) × (List Bool) × (List Int) × (List Int)) :=
 (lat a1 (i130 : Int)).bind fun x140 =>
 (snap_game_move ({ z130.1 with now := z130.2.2.2.2, have_ := z130.2.2.2.1, recorded := z130.2.2.1, lanes := z130.2.1 } : Game) x140).bind fun r145 =>
 some (({ r145.2.2.2.2 with now := r145.1, have_ := r145.2.1, recorded := r145.2.2.1, lanes := r145.2.2.2.1 } : Game), r145.2.2.2.1, r145.2.2.1, r145.2.1, r145.1)
def snap_Play_B0 (a0 : List Int) (l32 : List Bool) (l34 : List Int) (l36 : List Int) (i80 : Nat) (z80 : Game × (List (List Lane))) : Option (Game × (List (List Lane))) :=
 (mkLen (a0.length : Int)).bind fun n88 =>
 (room z80.2 [(List.replicate n88 Lane.zero)]).bind fun u98 =>
 Let (z80.2 ++ [(List.replicate n88 Lane.zero)], ({ z80.1 with now := l36, have_ := l34, recorded := l32 } : Game)) fun (l104, y107) =>
 some (({ y107 with now := l36, have_ := l34, recorded := l32, lanes := l104 } : Game), l104)
def snap_Play (a0 : List Int) (a1 : List Move) : Option (Picture × Int) :=
 (snap_Check a0 a1).bind fun r7 =>
 bif r7 != (0 : Int) then (some (({ Picture.zero with Lanes := ([] : List (List Int)) } : Picture), r7)) else
 (slices_Clone_int_int a0).bind fun r14 =>
 (mkLen (a0.length : Int)).bind fun n20 =>
 (mkLen (a0.length : Int)).bind fun n25 =>
 Let ((List.replicate n25 false), (List.replicate n20 (0 : Int)), r14) fun (l32, l34, l36) =>
 (rangeF (snap_Play_B0 a0 l32 l34 l36) a0.length 0 (({ Game.zero with now := l36, have_ := l34, recorded := l32, lanes := ([] : List (List Lane)) } : Game), ([] : List (List Lane)))).bind fun (y81, l83) =>
 (rangeF (snap_Play_B2 a1) a1.length 0 (({ y81 with now := l36, have_ := l34, recorded := l32, lanes := l83 } : Game), l83, l32, l34, l36)).bind fun (y131, l132, l135, l136, l137) =>
 (snap_game_picture ({ y131 with now := l137, have_ := l136, recorded := l135, lanes := l132 } : Game)).bind fun r163 =>
 some (r163, (0 : Int))
def slices_Equal_int_int_B0 (a0 : List Int) (a1 : List Int) (i2 : Nat) (z2 : Unit) : Option (Ctl Unit Bool) :=
 (lat a0 (i2 : Int)).bind fun x5 =>
 (lat a1 (i2 : Int)).bind fun x8 =>
 bif x5 != x8 then (some (.ret false)) else
 some (.go ())
def slices_Equal_int_int (a0 : List Int) (a1 : List Int) : Option Bool :=
 bif (a0.length : Int) != (a1.length : Int) then (some false) else
 andThen (rangeM (slices_Equal_int_int_B0 a0 a1) a0.length 0 ()) fun _ =>
 some true
def slices_EqualFunc_int_int_int_int_int_int_B0 (a0 : List (List Int)) (a1 : List (List Int)) (i5 : Nat) (z5 : Unit) : Option (Ctl Unit Bool) :=
 (lat a0 (i5 : Int)).bind fun x8 =>
 (lat a1 (i5 : Int)).bind fun x12 =>
 (slices_Equal_int_int x8 x12).bind fun r16 =>
 bif !r16 then (some (.ret false)) else
 some (.go ())
def slices_EqualFunc_int_int_int_int_int_int (a0 : List (List Int)) (a1 : List (List Int)) : Option Bool :=
 bif (a0.length : Int) != (a1.length : Int) then (some false) else
 andThen (rangeM (slices_EqualFunc_int_int_int_int_int_int_B0 a0 a1) a0.length 0 ()) fun _ =>
 some true
def partref_SamePicture (a0 : Picture) (a1 : Picture) : Option Bool :=
 (slices_Equal_int_int a0.Have a1.Have).bind fun r5 =>
 (bif r5 then ((slices_EqualFunc_int_int_int_int_int_int a0.Lanes a1.Lanes).bind fun r12 =>
 some r12) else
 some false).bind fun y10 =>
 (bif y10 then (some (a0.Whole == a1.Whole)) else
 some false).bind fun y19 =>
 (bif y19 then ((slices_Equal_int_int a0.Now a1.Now).bind fun r26 =>
 some r26) else
 some false).bind fun y24 =>
 (bif y24 then (some (a0.Under == a1.Under)) else
 some false).bind fun y33 =>
 some y33
def math_bits_Mul64 (a0 : BitVec 64) (a1 : BitVec 64) : Option ((BitVec 64) × (BitVec 64)) :=
 some ((((a0 >>> 32) * (a1 >>> 32)) + ((((a0 >>> 32) * (a1 &&& (4294967295 : BitVec 64))) + (((a0 &&& (4294967295 : BitVec 64)) * (a1 &&& (4294967295 : BitVec 64))) >>> 32)) >>> 32)) + ((((((a0 >>> 32) * (a1 &&& (4294967295 : BitVec 64))) + (((a0 &&& (4294967295 : BitVec 64)) * (a1 &&& (4294967295 : BitVec 64))) >>> 32)) &&& (4294967295 : BitVec 64)) + ((a0 &&& (4294967295 : BitVec 64)) * (a1 >>> 32))) >>> 32), a0 * a1)
def math_bits_Mul (a0 : BitVec 64) (a1 : BitVec 64) : Option ((BitVec 64) × (BitVec 64)) :=
 (math_bits_Mul64 a0 a1).bind fun r1 =>
 some (r1.1, r1.2)
def slices_Repeat_int_int_B0 (z20 : Int × (List Int)) : Option (Ctl (Int × (List Int)) (List Int)) :=
 bif decide (z20.1 < (z20.2.length : Int)) then ((cutL z20.2 z20.1 (z20.2.length : Int)).bind fun m26 =>
 (cutL z20.2 0 z20.1).bind fun m30 =>
 Let (copyL z20.2 ((z20.1 : Int).toNat) (((z20.2.length : Int) : Int).toNat) m30) fun p34 =>
 Let p34 fun l37 =>
 some (.go (w64 (z20.1 + (copyN ((z20.1 : Int).toNat) (((z20.2.length : Int) : Int).toNat) m30)), l37))) else
 some (.brk (z20.1, z20.2))
def slices_Repeat_int_int (fu : Nat) (a0 : List Int) (a1 : Int) : Option (List Int) :=
 bif decide (a1 < (0 : Int)) then (none) else
 (math_bits_Mul (BitVec.ofInt 64 (a0.length : Int)) (BitVec.ofInt 64 a1)).bind fun r3 =>
 (bif decide ((r3.1.toNat : Int) > ((0 : BitVec 64).toNat : Int)) then (some true) else
 some (decide ((r3.2.toNat : Int) > ((9223372036854775807 : BitVec 64).toNat : Int)))).bind fun y8 =>
 bif y8 then (none) else
 (mkLen (w64 (r3.2.toNat : Int))).bind fun n13 =>
 Let (copyL (List.replicate n13 (0 : Int)) 0 ((List.replicate n13 (0 : Int)).length) a0) fun p18 =>
 andThen (whileM (slices_Repeat_int_int_B0) fu (copyN 0 ((List.replicate n13 (0 : Int)).length) a0, p18)) fun (y21, l22) =>
 some l22
def partref_Picture_1_B0 (a0 : Int) (i19 : Nat) (z19 : (List Thing)) : Option (List Thing) :=
 bif (i19 : Int) != a0 then ((room z19 ([({ Thing.zero with from_ := a0, to := (i19 : Int), mark := true } : Thing)] : List Thing)).bind fun u28 =>
 some (z19 ++ ([({ Thing.zero with from_ := a0, to := (i19 : Int), mark := true } : Thing)] : List Thing))) else
 some z19
def partref_Picture_1 (a0 : Int) (a1 : List Int) (a2 : List Int) (a3 : Int) (a4 : List Thing) : Option ((List Int) × (List Thing)) :=
 (lat a1 a0).bind fun x7 =>
 bif decide (x7 ≥ (0 : Int)) then (some (a1, a4)) else
 (lat a2 a0).bind fun x11 =>
 (lat a1 a0).bind fun x14 =>
 Let (a1.set a0.toNat x11) fun p17 =>
 (upTo a3).bind fun nn24 =>
 (rangeF (partref_Picture_1_B0 a0) nn24 0 a4).bind fun l21 =>
 some (p17, l21)
def partref_Picture_2 (a0 : Thing) (a1 : Move) : Option Bool :=
 (bif a0.from_ == a1.From then (some (a0.to == a1.To)) else
 some false).bind fun y5 =>
 some y5
def slices_IndexFunc_partref_thing_partref_thing_Picture_2_B0 (a0 : List Thing) (a1_c0 : Move) (i2 : Nat) (z2 : Unit) : Option (Ctl Unit Int) :=
 (lat a0 (i2 : Int)).bind fun x5 =>
 (partref_Picture_2 x5 a1_c0).bind fun r8 =>
 bif r8 then (some (.ret (i2 : Int))) else
 some (.go ())
def slices_IndexFunc_partref_thing_partref_thing_Picture_2 (a0 : List Thing) (a1_c0 : Move) : Option Int :=
 andThen (rangeM (slices_IndexFunc_partref_thing_partref_thing_Picture_2_B0 a0 a1_c0) a0.length 0 ()) fun _ =>
 some (-1 : Int)
def slices_Delete_partref_thing_partref_thing (a0 : List Thing) (a1 : Int) (a2 : Int) : Option (List Thing) :=
 (cutL a0 a1 a2).bind fun m3 =>
 bif a1 == a2 then (some a0) else
 (cutL a0 0 a1).bind fun m9 =>
 (cutL a0 a2 (a0.length : Int)).bind fun m13 =>
 some (a0.take ((a1 : Int).toNat) ++ a0.drop ((a2 : Int).toNat))
def slices_Index_int_int_B0 (a0 : List Int) (a1 : Int) (i1 : Nat) (z1 : Unit) : Option (Ctl Unit Int) :=
 (lat a0 (i1 : Int)).bind fun x4 =>
 bif a1 == x4 then (some (.ret (i1 : Int))) else
 some (.go ())
def slices_Index_int_int (a0 : List Int) (a1 : Int) : Option Int :=
 andThen (rangeM (slices_Index_int_int_B0 a0 a1) a0.length 0 ()) fun _ =>
 some (-1 : Int)
def slices_Contains_int_int (a0 : List Int) (a1 : Int) : Option Bool :=
 (slices_Index_int_int a0 a1).bind fun r1 =>
 some (decide (r1 ≥ (0 : Int)))
def partref_Picture_B5 (l40 : List ((Vector Int 2) × Int)) (i155 : Nat) (i187 : Nat) (z187 : (List Int)) : Option (List Int) :=
 (room z187 ([(mget l40 (#v[(i155 : Int), (i187 : Int)] : Vector Int 2)).getD (0 : Int)] : List Int)).bind fun u194 =>
 some (z187 ++ ([(mget l40 (#v[(i155 : Int), (i187 : Int)] : Vector Int 2)).getD (0 : Int)] : List Int))
def partref_Picture_B7 (l38 : List Thing) (l43 : List Int) (y159 : Picture) (i211 : Nat) (z211 : Picture) : Option Picture :=
 (lat l38 (i211 : Int)).bind fun x215 =>
 Let (w64 (z211.Under + x215.n)) fun p220 =>
 some ({ z211 with Have := y159.Have, Lanes := y159.Lanes, Now := l43, Under := p220 } : Picture)
def partref_Picture_B3 (a0 : List Int) (l40 : List ((Vector Int 2) × Int)) (l42 : List Int) (l43 : List Int) (i155 : Nat) (z155 : Picture) : Option Picture :=
 (lat l42 (i155 : Int)).bind fun x169 =>
 Let ([max x169 (0 : Int)] : List Int) fun l176 =>
 (room z155.Have l176).bind fun u183 =>
 (rangeF (partref_Picture_B5 l40 i155) a0.length 0 ([] : List Int)).bind fun l189 =>
 (room z155.Lanes ([l189] : List (List Int))).bind fun u205 =>
 some ({ z155 with Have := z155.Have ++ l176, Lanes := z155.Lanes ++ ([l189] : List (List Int)), Now := l43 } : Picture)
def partref_Picture_B5x (l40 : List ((Vector Int 2) × Int)) (i257 : Nat) (i289 : Nat) (z289 : (List Int)) : Option (List Int) :=
 (room z289 ([(mget l40 (#v[(i257 : Int), (i289 : Int)] : Vector Int 2)).getD (0 : Int)] : List Int)).bind fun u296 =>
 some (z289 ++ ([(mget l40 (#v[(i257 : Int), (i289 : Int)] : Vector Int 2)).getD (0 : Int)] : List Int))
def partref_Picture_B7x (l38 : List Thing) (l43 : List Int) (y261 : Picture) (i313 : Nat) (z313 : Picture) : Option Picture :=
 (lat l38 (i313 : Int)).bind fun x317 =>
 Let (w64 (z313.Under + x317.n)) fun p322 =>
 some ({ z313 with Have := y261.Have, Lanes := y261.Lanes, Now := l43, Under := p322 } : Picture)
def partref_Picture_B3x (a0 : List Int) (l40 : List ((Vector Int 2) × Int)) (l42 : List Int) (l43 : List Int) (i257 : Nat) (z257 : Picture) : Option Picture :=
 (lat l42 (i257 : Int)).bind fun x271 =>
 Let ([max x271 (0 : Int)] : List Int) fun l278 =>
 (room z257.Have l278).bind fun u285 =>
 (rangeF (partref_Picture_B5x l40 i257) a0.length 0 ([] : List Int)).bind fun l291 =>
 (room z257.Lanes ([l291] : List (List Int))).bind fun u307 =>
 some ({ z257 with Have := z257.Have ++ l278, Lanes := z257.Lanes ++ ([l291] : List (List Int)), Now := l43 } : Picture)
def partref_Picture_B0 (a0 : List Int) (a1 : List Move) (i36 : Nat) (z36 : (List Thing) × (List ((Vector Int 2) × Int)) × (List ((Vector Int 2) × Int)) × (List Int) × (List Int)) : Option ((List Thing) × (List ((Vector Int 2) × Int)) × (List ((Vector Int 2) × Int)) × (List Int) × (List Int)) :=
 (lat a1 (i36 : Int)).bind fun x46 =>
 bif x46.Kind == (1 : Int) then ((lat z36.2.2.2.2 x46.From).bind fun x52 =>
 bif decide (x52 ≥ x46.N) then ((lat z36.2.2.2.2 x46.From).bind fun x56 =>
 (lat z36.2.2.2.2 x46.From).bind fun x59 =>
 Let (z36.2.2.2.2.set x46.From.toNat (w64 (x56 - x46.N))) fun p62 =>
 (room z36.1 ([({ Thing.zero with from_ := x46.From, to := x46.To, n := x46.N, mark := false } : Thing)] : List Thing)).bind fun u66 =>
 some (z36.1 ++ ([({ Thing.zero with from_ := x46.From, to := x46.To, n := x46.N, mark := false } : Thing)] : List Thing), z36.2.1, z36.2.2.1, z36.2.2.2.1, p62)) else
 some (z36.1, z36.2.1, z36.2.2.1, z36.2.2.2.1, z36.2.2.2.2)) else
 bif x46.Kind == (2 : Int) then ((slices_IndexFunc_partref_thing_partref_thing_Picture_2 z36.1 x46).bind fun r76 =>
 bif decide (r76 < (0 : Int)) then (some (z36.1, z36.2.1, z36.2.2.1, z36.2.2.2.1, z36.2.2.2.2)) else
 (lat z36.1 r76).bind fun x81 =>
 (slices_Delete_partref_thing_partref_thing z36.1 r76 (w64 (r76 + (1 : Int)))).bind fun r86 =>
 bif x81.mark then ((partref_Picture_1 x46.To z36.2.2.2.1 z36.2.2.2.2 (a0.length : Int) r86).bind fun r95 =>
 Let (mset z36.2.2.1 (#v[x46.From, x46.To] : Vector Int 2) (1 : Int)) fun m100 =>
 some (r95.2, z36.2.1, m100, r95.1, z36.2.2.2.2)) else
 (lat z36.2.2.2.2 x46.To).bind fun x102 =>
 (lat z36.2.2.2.2 x46.To).bind fun x105 =>
 Let (z36.2.2.2.2.set x46.To.toNat (w64 (x102 + x81.n))) fun p108 =>
 (lat z36.2.2.2.1 x46.To).bind fun x110 =>
 (bif decide (x110 ≥ (0 : Int)) then (some (((mget z36.2.2.1 (#v[x46.From, x46.To] : Vector Int 2)).getD (0 : Int)) == (0 : Int))) else
 some false).bind fun y114 =>
 bif y114 then (Let (mset z36.2.1 (#v[x46.From, x46.To] : Vector Int 2) ((mget z36.2.1 (#v[x46.From, x46.To] : Vector Int 2)).getD (0 : Int))) fun l121 =>
 Let (mset l121 (#v[x46.From, x46.To] : Vector Int 2) (w64 (((mget z36.2.1 (#v[x46.From, x46.To] : Vector Int 2)).getD (0 : Int)) + x81.n))) fun m129 =>
 some (r86, m129, z36.2.2.1, z36.2.2.2.1, p108)) else
 some (r86, z36.2.1, z36.2.2.1, z36.2.2.2.1, p108)) else
 bif x46.Kind == (3 : Int) then ((partref_Picture_1 x46.From z36.2.2.2.1 z36.2.2.2.2 (a0.length : Int) z36.1).bind fun r71 =>
 some (r71.2, z36.2.1, z36.2.2.1, r71.1, z36.2.2.2.2)) else
 some (z36.1, z36.2.1, z36.2.2.1, z36.2.2.2.1, z36.2.2.2.2)
def partref_Picture (fu : Nat) (a0 : List Int) (a1 : List Move) : Option Picture :=
 (slices_Clone_int_int a0).bind fun r9 =>
 (slices_Repeat_int_int fu ([(-1 : Int)] : List Int) (a0.length : Int)).bind fun r20 =>
 (rangeF (partref_Picture_B0 a0 a1) a1.length 0 (([] : List Thing), ([] : List ((Vector Int 2) × Int)), ([] : List ((Vector Int 2) × Int)), r20, r9)).bind fun (l38, l40, l41, l42, l43) =>
 bif (l41.length : Int) == (w64 ((a0.length : Int) * (w64 ((a0.length : Int) - (1 : Int))))) then ((slices_Contains_int_int l42 (-1 : Int)).bind fun r224 =>
 Let (([] : List Int), ([] : List (List Int)), ([] : List Int)) fun (l237, l239, l244) =>
 (rangeF (partref_Picture_B3x a0 l40 l42 l43) a0.length 0 ({ Picture.zero with Have := ([] : List Int), Lanes := ([] : List (List Int)), Whole := !r224, Now := l43 } : Picture)).bind fun y261 =>
 (rangeF (partref_Picture_B7x l38 l43 y261) l38.length 0 ({ y261 with Now := l43 } : Picture)).bind fun y314 =>
 some ({ y314 with Have := y261.Have, Lanes := y261.Lanes, Now := l43 } : Picture)) else
 Let (([] : List Int), ([] : List (List Int)), ([] : List Int)) fun (l141, l143, l148) =>
 (rangeF (partref_Picture_B3 a0 l40 l42 l43) a0.length 0 ({ Picture.zero with Have := ([] : List Int), Lanes := ([] : List (List Int)), Whole := false, Now := l43 } : Picture)).bind fun y159 =>
 (rangeF (partref_Picture_B7 l38 l43 y159) l38.length 0 ({ y159 with Now := l43 } : Picture)).bind fun y212 =>
 some ({ y212 with Have := y159.Have, Lanes := y159.Lanes, Now := l43 } : Picture)
def partlaw_SnapPlays (fu : Nat) (a0 : List Int) (a1 : List Move) : Option Bool :=
 (partref_MovesErr a0 a1).bind fun r1 =>
 (snap_Play a0 a1).bind fun r5 =>
 (snap_Check a0 a1).bind fun r24 =>
 bif r24 != r1 then (some false) else
 bif r1 != (0 : Int) then ((partref_SamePicture r5.1 Picture.zero).bind fun r30 =>
 (bif r30 then (some (r5.2 == r1)) else
 some false).bind fun y35 =>
 some y35) else
 (partref_Picture fu a0 a1).bind fun r39 =>
 Let (r5.1, r39.Have, r39.Lanes, r39.Now) fun (y53, l55, l57, l62) =>
 (partref_SamePicture ({ y53 with Have := r5.1.Have, Lanes := r5.1.Lanes, Now := r5.1.Now } : Picture) ({ r39 with Have := l55, Lanes := l57, Now := l62 } : Picture)).bind fun r75 =>
 (bif r75 then (some (r5.2 == (0 : Int))) else
 some false).bind fun y80 =>
 some y80
end Go.Proofs.Ytnkfphbggemlbaa
