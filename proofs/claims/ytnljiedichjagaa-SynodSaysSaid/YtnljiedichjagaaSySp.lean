/-
  What the functions compute, typed; printed by a program.
-/
import Derived.Test.YtnljiedichjagaaGoI
import Derived.Test.YtnljiedichjagaaGoS
namespace Go.Proofs.Ytnljiedichjagaa
open Go.RowKit Enc
set_option linter.unusedVariables false
set_option linter.unusedSimpArgs false
structure Voter where
  Promised : Int
  Voted : Int
  Text : Str
instance : DecidableEq Voter := fun a b => decidable_of_iff (a.Promised = b.Promised ∧ a.Voted = b.Voted ∧ a.Text = b.Text) (by cases a; cases b; simp)
def Voter.zero : Voter := ⟨(0 : Int), (0 : Int), ([] : Str)⟩
instance : Enc Voter := ⟨fun p => enc p.Promised ++ (enc p.Voted ++ (enc p.Text)), 3, fun p => by simp only [List.length_append, Enc.len]; rfl, fun p => by simp only [List.all_append, Enc.one, Bool.and_self]⟩
theorem Voter.get_Promised {p : Voter} {k : Nat} {ch : List Value} (h : Get (enc p.Promised) k ch) : Get (enc p) (0 + k) ch := Get.off (Get.left h) (by omega)
theorem Voter.put_Promised {p : Voter} {k : Nat} {vs : List Value} {y : Int} (h : Put (enc p.Promised) k vs (enc y)) : Put (enc p) (0 + k) vs (enc ({ p with Promised := y } : Voter)) := Put.off (cs' := enc ({ p with Promised := y } : Voter)) (Put.left h) (by omega)
theorem Voter.get_Voted {p : Voter} {k : Nat} {ch : List Value} (h : Get (enc p.Voted) k ch) : Get (enc p) (1 + k) ch := Get.off (Get.right (m := 1) (Enc.len _) (Get.left h)) (by omega)
theorem Voter.put_Voted {p : Voter} {k : Nat} {vs : List Value} {y : Int} (h : Put (enc p.Voted) k vs (enc y)) : Put (enc p) (1 + k) vs (enc ({ p with Voted := y } : Voter)) := Put.off (cs' := enc ({ p with Voted := y } : Voter)) (Put.right (m := 1) (Enc.len _) (Put.left h)) (by omega)
theorem Voter.get_Text {p : Voter} {k : Nat} {ch : List Value} (h : Get (enc p.Text) k ch) : Get (enc p) (2 + k) ch := Get.off (Get.right (m := 1) (Enc.len _) (Get.right (m := 1) (Enc.len _) h)) (by omega)
theorem Voter.put_Text {p : Voter} {k : Nat} {vs : List Value} {y : Str} (h : Put (enc p.Text) k vs (enc y)) : Put (enc p) (2 + k) vs (enc ({ p with Text := y } : Voter)) := Put.off (cs' := enc ({ p with Text := y } : Voter)) (Put.right (m := 1) (Enc.len _) (Put.right (m := 1) (Enc.len _) h)) (by omega)
instance : Rng Voter := ⟨fun p => Rng.ok p.Promised ∧ Rng.ok p.Voted ∧ Rng.ok p.Text⟩
structure Round where
  Ballot : Int
  Best : Int
  Promised : BitVec 8
  Voted : BitVec 8
  Asked : Bool
  Text : Str
instance : DecidableEq Round := fun a b => decidable_of_iff (a.Ballot = b.Ballot ∧ a.Best = b.Best ∧ a.Promised = b.Promised ∧ a.Voted = b.Voted ∧ a.Asked = b.Asked ∧ a.Text = b.Text) (by cases a; cases b; simp)
def Round.zero : Round := ⟨(0 : Int), (0 : Int), (0 : BitVec 8), (0 : BitVec 8), false, ([] : Str)⟩
instance : Enc Round := ⟨fun p => enc p.Ballot ++ (enc p.Best ++ (enc p.Promised ++ (enc p.Voted ++ (enc p.Asked ++ (enc p.Text))))), 6, fun p => by simp only [List.length_append, Enc.len]; rfl, fun p => by simp only [List.all_append, Enc.one, Bool.and_self]⟩
theorem Round.get_Ballot {p : Round} {k : Nat} {ch : List Value} (h : Get (enc p.Ballot) k ch) : Get (enc p) (0 + k) ch := Get.off (Get.left h) (by omega)
theorem Round.put_Ballot {p : Round} {k : Nat} {vs : List Value} {y : Int} (h : Put (enc p.Ballot) k vs (enc y)) : Put (enc p) (0 + k) vs (enc ({ p with Ballot := y } : Round)) := Put.off (cs' := enc ({ p with Ballot := y } : Round)) (Put.left h) (by omega)
theorem Round.get_Best {p : Round} {k : Nat} {ch : List Value} (h : Get (enc p.Best) k ch) : Get (enc p) (1 + k) ch := Get.off (Get.right (m := 1) (Enc.len _) (Get.left h)) (by omega)
theorem Round.put_Best {p : Round} {k : Nat} {vs : List Value} {y : Int} (h : Put (enc p.Best) k vs (enc y)) : Put (enc p) (1 + k) vs (enc ({ p with Best := y } : Round)) := Put.off (cs' := enc ({ p with Best := y } : Round)) (Put.right (m := 1) (Enc.len _) (Put.left h)) (by omega)
theorem Round.get_Promised {p : Round} {k : Nat} {ch : List Value} (h : Get (enc p.Promised) k ch) : Get (enc p) (2 + k) ch := Get.off (Get.right (m := 1) (Enc.len _) (Get.right (m := 1) (Enc.len _) (Get.left h))) (by omega)
theorem Round.put_Promised {p : Round} {k : Nat} {vs : List Value} {y : BitVec 8} (h : Put (enc p.Promised) k vs (enc y)) : Put (enc p) (2 + k) vs (enc ({ p with Promised := y } : Round)) := Put.off (cs' := enc ({ p with Promised := y } : Round)) (Put.right (m := 1) (Enc.len _) (Put.right (m := 1) (Enc.len _) (Put.left h))) (by omega)
theorem Round.get_Voted {p : Round} {k : Nat} {ch : List Value} (h : Get (enc p.Voted) k ch) : Get (enc p) (3 + k) ch := Get.off (Get.right (m := 1) (Enc.len _) (Get.right (m := 1) (Enc.len _) (Get.right (m := 1) (Enc.len _) (Get.left h)))) (by omega)
theorem Round.put_Voted {p : Round} {k : Nat} {vs : List Value} {y : BitVec 8} (h : Put (enc p.Voted) k vs (enc y)) : Put (enc p) (3 + k) vs (enc ({ p with Voted := y } : Round)) := Put.off (cs' := enc ({ p with Voted := y } : Round)) (Put.right (m := 1) (Enc.len _) (Put.right (m := 1) (Enc.len _) (Put.right (m := 1) (Enc.len _) (Put.left h)))) (by omega)
theorem Round.get_Asked {p : Round} {k : Nat} {ch : List Value} (h : Get (enc p.Asked) k ch) : Get (enc p) (4 + k) ch := Get.off (Get.right (m := 1) (Enc.len _) (Get.right (m := 1) (Enc.len _) (Get.right (m := 1) (Enc.len _) (Get.right (m := 1) (Enc.len _) (Get.left h))))) (by omega)
theorem Round.put_Asked {p : Round} {k : Nat} {vs : List Value} {y : Bool} (h : Put (enc p.Asked) k vs (enc y)) : Put (enc p) (4 + k) vs (enc ({ p with Asked := y } : Round)) := Put.off (cs' := enc ({ p with Asked := y } : Round)) (Put.right (m := 1) (Enc.len _) (Put.right (m := 1) (Enc.len _) (Put.right (m := 1) (Enc.len _) (Put.right (m := 1) (Enc.len _) (Put.left h))))) (by omega)
theorem Round.get_Text {p : Round} {k : Nat} {ch : List Value} (h : Get (enc p.Text) k ch) : Get (enc p) (5 + k) ch := Get.off (Get.right (m := 1) (Enc.len _) (Get.right (m := 1) (Enc.len _) (Get.right (m := 1) (Enc.len _) (Get.right (m := 1) (Enc.len _) (Get.right (m := 1) (Enc.len _) h))))) (by omega)
theorem Round.put_Text {p : Round} {k : Nat} {vs : List Value} {y : Str} (h : Put (enc p.Text) k vs (enc y)) : Put (enc p) (5 + k) vs (enc ({ p with Text := y } : Round)) := Put.off (cs' := enc ({ p with Text := y } : Round)) (Put.right (m := 1) (Enc.len _) (Put.right (m := 1) (Enc.len _) (Put.right (m := 1) (Enc.len _) (Put.right (m := 1) (Enc.len _) (Put.right (m := 1) (Enc.len _) h))))) (by omega)
instance : Rng Round := ⟨fun p => Rng.ok p.Ballot ∧ Rng.ok p.Best ∧ Rng.ok p.Promised ∧ Rng.ok p.Voted ∧ Rng.ok p.Asked ∧ Rng.ok p.Text⟩
structure Synod where
  Voters : List Voter
  Rounds : List Round
instance : DecidableEq Synod := fun a b => decidable_of_iff (a.Voters = b.Voters ∧ a.Rounds = b.Rounds) (by cases a; cases b; simp)
def Synod.zero : Synod := ⟨[], []⟩
instance : Rng Synod := ⟨fun p => Rng.ok p.Voters ∧ Rng.ok p.Rounds⟩
structure Act where
  Kind : Int
  Ballot : Int
  Who : Int
  Text : Str
instance : DecidableEq Act := fun a b => decidable_of_iff (a.Kind = b.Kind ∧ a.Ballot = b.Ballot ∧ a.Who = b.Who ∧ a.Text = b.Text) (by cases a; cases b; simp)
def Act.zero : Act := ⟨(0 : Int), (0 : Int), (0 : Int), ([] : Str)⟩
instance : Enc Act := ⟨fun p => enc p.Kind ++ (enc p.Ballot ++ (enc p.Who ++ (enc p.Text))), 4, fun p => by simp only [List.length_append, Enc.len]; rfl, fun p => by simp only [List.all_append, Enc.one, Bool.and_self]⟩
theorem Act.get_Kind {p : Act} {k : Nat} {ch : List Value} (h : Get (enc p.Kind) k ch) : Get (enc p) (0 + k) ch := Get.off (Get.left h) (by omega)
theorem Act.put_Kind {p : Act} {k : Nat} {vs : List Value} {y : Int} (h : Put (enc p.Kind) k vs (enc y)) : Put (enc p) (0 + k) vs (enc ({ p with Kind := y } : Act)) := Put.off (cs' := enc ({ p with Kind := y } : Act)) (Put.left h) (by omega)
theorem Act.get_Ballot {p : Act} {k : Nat} {ch : List Value} (h : Get (enc p.Ballot) k ch) : Get (enc p) (1 + k) ch := Get.off (Get.right (m := 1) (Enc.len _) (Get.left h)) (by omega)
theorem Act.put_Ballot {p : Act} {k : Nat} {vs : List Value} {y : Int} (h : Put (enc p.Ballot) k vs (enc y)) : Put (enc p) (1 + k) vs (enc ({ p with Ballot := y } : Act)) := Put.off (cs' := enc ({ p with Ballot := y } : Act)) (Put.right (m := 1) (Enc.len _) (Put.left h)) (by omega)
theorem Act.get_Who {p : Act} {k : Nat} {ch : List Value} (h : Get (enc p.Who) k ch) : Get (enc p) (2 + k) ch := Get.off (Get.right (m := 1) (Enc.len _) (Get.right (m := 1) (Enc.len _) (Get.left h))) (by omega)
theorem Act.put_Who {p : Act} {k : Nat} {vs : List Value} {y : Int} (h : Put (enc p.Who) k vs (enc y)) : Put (enc p) (2 + k) vs (enc ({ p with Who := y } : Act)) := Put.off (cs' := enc ({ p with Who := y } : Act)) (Put.right (m := 1) (Enc.len _) (Put.right (m := 1) (Enc.len _) (Put.left h))) (by omega)
theorem Act.get_Text {p : Act} {k : Nat} {ch : List Value} (h : Get (enc p.Text) k ch) : Get (enc p) (3 + k) ch := Get.off (Get.right (m := 1) (Enc.len _) (Get.right (m := 1) (Enc.len _) (Get.right (m := 1) (Enc.len _) h))) (by omega)
theorem Act.put_Text {p : Act} {k : Nat} {vs : List Value} {y : Str} (h : Put (enc p.Text) k vs (enc y)) : Put (enc p) (3 + k) vs (enc ({ p with Text := y } : Act)) := Put.off (cs' := enc ({ p with Text := y } : Act)) (Put.right (m := 1) (Enc.len _) (Put.right (m := 1) (Enc.len _) (Put.right (m := 1) (Enc.len _) h))) (by omega)
instance : Rng Act := ⟨fun p => Rng.ok p.Kind ∧ Rng.ok p.Ballot ∧ Rng.ok p.Who ∧ Rng.ok p.Text⟩
def partref_size_B0 (z1 : (BitVec 16) × Int) : Option (Ctl ((BitVec 16) × Int) Int) :=
 bif decide ((z1.1.toNat : Int) > ((0 : BitVec 16).toNat : Int)) then (some (.go (z1.1 / (2 : BitVec 16), w64 (z1.2 + ((z1.1 % (2 : BitVec 16)).toNat : Int))))) else
 some (.brk (z1.1, z1.2))
def partref_size (fu : Nat) (a0 : BitVec 16) : Option Int :=
 andThen (whileM (partref_size_B0) fu (a0, (0 : Int))) fun (y2, y3) =>
 some y3
def partref_SynodErr_B2 (x17 : Round) (m63 : List Round) (i68 : Nat) (z68 : Bool) : Option Bool :=
 (lat m63 (i68 : Int)).bind fun x72 =>
 (bif z68 then (some true) else
 some (x72.Ballot == x17.Ballot)).bind fun y78 =>
 some y78
def partref_SynodErr_B6 (a0 : Synod) (i84 : Nat) (x87 : Voter) (i103 : Nat) (z103 : Int × Str × Bool) : Option (Ctl (Int × Str × Bool) (Ctl Unit Int)) :=
 (lat a0.Rounds (i103 : Int)).bind fun x109 =>
 (cnt (i84 : Int)).bind fun n114 =>
 (bif (((x109.Voted >>> n114) % (2 : BitVec 8)).toNat : Int) == ((1 : BitVec 8).toNat : Int) then (some true) else
 (cnt (i84 : Int)).bind fun n120 =>
 some ((((x109.Promised >>> n120) % (2 : BitVec 8)).toNat : Int) == ((1 : BitVec 8).toNat : Int))).bind fun y118 =>
 (bif y118 then (some (decide (x109.Ballot > x87.Promised))) else
 some false).bind fun y126 =>
 bif y126 then (some (.ret (.ret (4 : Int)))) else
 ((bif (((x109.Voted >>> n114) % (2 : BitVec 8)).toNat : Int) == ((1 : BitVec 8).toNat : Int) then (some (decide (x109.Ballot > z103.1))) else
 some false).bind fun y135 =>
 bif y135 then (some (x109.Ballot, x109.Text)) else
 some (z103.1, z103.2.1)).bind fun (y131, y132) =>
 (bif z103.2.2 then (some true) else
 some (x109.Ballot == x87.Promised)).bind fun y143 =>
 some (.go (y131, y132, y143))
def partref_SynodErr_B4 (a0 : Synod) (i84 : Nat) (z84 : Unit) : Option (Ctl Unit Int) :=
 (lat a0.Voters (i84 : Int)).bind fun x87 =>
 (bif decide (x87.Promised < (0 : Int)) then (some true) else
 some (decide (x87.Voted < (0 : Int)))).bind fun y93 =>
 (bif y93 then (some true) else
 some (decide (x87.Voted > x87.Promised))).bind fun y98 =>
 bif y98 then (some (.ret (1 : Int))) else
 andThen (rangeM (partref_SynodErr_B6 a0 i84 x87) a0.Rounds.length 0 ((0 : Int), ([] : Str), x87.Promised == (0 : Int))) fun (y104, y105, y106) =>
 (bif !y106 then (some true) else
 some (y104 != x87.Voted)).bind fun y148 =>
 (bif y148 then (some true) else
 some (!(decide (y105 = x87.Text)))).bind fun y153 =>
 bif y153 then (some (.ret (4 : Int))) else
 some (.go ())
def partref_SynodErr_B0 (fu : Nat) (a0 : Synod) (i14 : Nat) (z14 : Unit) : Option (Ctl Unit Int) :=
 (lat a0.Rounds (i14 : Int)).bind fun x17 =>
 (bif decide (x17.Ballot < (1 : Int)) then (some true) else
 some (decide (x17.Ballot > (16777215 : Int)))).bind fun y23 =>
 (bif y23 then (some true) else
 some (decide (x17.Best < (0 : Int)))).bind fun y28 =>
 (bif y28 then (some true) else
 some (decide (x17.Best ≥ x17.Ballot))).bind fun y33 =>
 bif y33 then (some (.ret (1 : Int))) else
 (cnt (a0.Voters.length : Int)).bind fun n38 =>
 (bif decide ((x17.Promised.toNat : Int) ≥ (w64 ((1 : Int) * 2 ^ (min n38 64)))) then (some true) else
 (cnt (a0.Voters.length : Int)).bind fun n44 =>
 some (decide ((x17.Voted.toNat : Int) ≥ (w64 ((1 : Int) * 2 ^ (min n44 64)))))).bind fun y42 =>
 (bif y42 then (some true) else
 (bif decide ((x17.Voted.toNat : Int) > ((0 : BitVec 8).toNat : Int)) then (some (!x17.Asked)) else
 some false).bind fun y51 =>
 some y51).bind fun y48 =>
 (bif y48 then (some true) else
 (bif x17.Asked then ((partref_size fu (BitVec.ofInt 16 (x17.Promised.toNat : Int))).bind fun r59 =>
 some (decide ((w64 ((2 : Int) * r59)) ≤ (a0.Voters.length : Int)))) else
 some false).bind fun y57 =>
 some y57).bind fun y54 =>
 (cutL a0.Rounds 0 (i14 : Int)).bind fun m63 =>
 (rangeF (partref_SynodErr_B2 x17 m63) m63.length 0 y54).bind fun y69 =>
 bif y69 then (some (.ret (4 : Int))) else
 some (.go ())
def partref_SynodErr (fu : Nat) (a0 : Synod) : Option Int :=
 (bif decide ((a0.Voters.length : Int) < (1 : Int)) then (some true) else
 some (decide ((a0.Voters.length : Int) > (6 : Int)))).bind fun y4 =>
 (bif y4 then (some true) else
 some (decide ((a0.Rounds.length : Int) > (30 : Int)))).bind fun y9 =>
 bif y9 then (some (1 : Int)) else
 andThen (rangeM (partref_SynodErr_B0 fu a0) a0.Rounds.length 0 ()) fun _ =>
 andThen (rangeM (partref_SynodErr_B4 a0) a0.Voters.length 0 ()) fun _ =>
 some (0 : Int)
def synod_in (a0 : Int) (a1 : Int) (a2 : Int) : Option Bool :=
 (bif decide (a0 ≥ a1) then (some (decide (a0 ≤ a2))) else
 some false).bind fun y2 =>
 some y2
def synod_round_1 (a0 : Round) (a1 : Round) : Option Bool :=
 some (a0.Ballot == a1.Ballot)
def slices_IndexFunc_api_Round_api_Round_round_1_B0 (a0 : List Round) (a1_c0 : Round) (i2 : Nat) (z2 : Unit) : Option (Ctl Unit Int) :=
 (lat a0 (i2 : Int)).bind fun x5 =>
 (synod_round_1 x5 a1_c0).bind fun r8 =>
 bif r8 then (some (.ret (i2 : Int))) else
 some (.go ())
def slices_IndexFunc_api_Round_api_Round_round_1 (a0 : List Round) (a1_c0 : Round) : Option Int :=
 andThen (rangeM (slices_IndexFunc_api_Round_api_Round_round_1_B0 a0 a1_c0) a0.length 0 ()) fun _ =>
 some (-1 : Int)
def slices_ContainsFunc_api_Round_api_Round_round_1 (a0 : List Round) (a1_c0 : Round) : Option Bool :=
 (slices_IndexFunc_api_Round_api_Round_round_1 a0 a1_c0).bind fun r2 =>
 some (decide (r2 ≥ (0 : Int)))
def math_bits_OnesCount8 (a0 : BitVec 8) : Option Int :=
 (lat ([0, 1, 1, 2, 1, 2, 2, 3, 1, 2, 2, 3, 2, 3, 3, 4, 1, 2, 2, 3, 2, 3, 3, 4, 2, 3, 3, 4, 3, 4, 4, 5, 1, 2, 2, 3, 2, 3, 3, 4, 2, 3, 3, 4, 3, 4, 4, 5, 2, 3, 3, 4, 3, 4, 4, 5, 3, 4, 4, 5, 4, 5, 5, 6, 1, 2, 2, 3, 2, 3, 3, 4, 2, 3, 3, 4, 3, 4, 4, 5, 2, 3, 3, 4, 3, 4, 4, 5, 3, 4, 4, 5, 4, 5, 5, 6, 2, 3, 3, 4, 3, 4, 4, 5, 3, 4, 4, 5, 4, 5, 5, 6, 3, 4, 4, 5, 4, 5, 5, 6, 4, 5, 5, 6, 5, 6, 6, 7, 1, 2, 2, 3, 2, 3, 3, 4, 2, 3, 3, 4, 3, 4, 4, 5, 2, 3, 3, 4, 3, 4, 4, 5, 3, 4, 4, 5, 4, 5, 5, 6, 2, 3, 3, 4, 3, 4, 4, 5, 3, 4, 4, 5, 4, 5, 5, 6, 3, 4, 4, 5, 4, 5, 5, 6, 4, 5, 5, 6, 5, 6, 6, 7, 2, 3, 3, 4, 3, 4, 4, 5, 3, 4, 4, 5, 4, 5, 5, 6, 3, 4, 4, 5, 4, 5, 5, 6, 4, 5, 5, 6, 5, 6, 6, 7, 3, 4, 4, 5, 4, 5, 5, 6, 4, 5, 5, 6, 5, 6, 6, 7, 4, 5, 5, 6, 5, 6, 6, 7, 5, 6, 6, 7, 6, 7, 7, 8] : Str) (a0.toNat : Int)).bind fun x1 =>
 some (x1.toBitVec.toNat : Int)
def synod_majority (a0 : BitVec 8) (a1 : Int) : Option Bool :=
 (math_bits_OnesCount8 a0).bind fun r1 =>
 some (decide ((w64 ((2 : Int) * r1)) > a1))
def synod_round (a0 : Synod) (a1 : Int) : Option Int :=
 (lat a0.Rounds a1).bind fun x3 =>
 (synod_in x3.Ballot (1 : Int) (16777215 : Int)).bind fun r16 =>
 (bif !r16 then (some true) else
 (synod_in x3.Best (0 : Int) (w64 (x3.Ballot - (1 : Int)))).bind fun r23 =>
 some (!r23)).bind fun y21 =>
 bif y21 then (some (1 : Int)) else
 (cutL a0.Rounds 0 a1).bind fun m30 =>
 (slices_ContainsFunc_api_Round_api_Round_round_1 m30 x3).bind fun r35 =>
 bif r35 then (some (4 : Int)) else
 (cnt (a0.Voters.length : Int)).bind fun n40 =>
 bif (((x3.Promised ||| x3.Voted) >>> n40).toNat : Int) != ((0 : BitVec 8).toNat : Int) then (some (4 : Int)) else
 (bif (x3.Voted.toNat : Int) != ((0 : BitVec 8).toNat : Int) then (some (!x3.Asked)) else
 some false).bind fun y45 =>
 bif y45 then (some (4 : Int)) else
 (bif x3.Asked then ((synod_majority x3.Promised (a0.Voters.length : Int)).bind fun r53 =>
 some (!r53)) else
 some false).bind fun y51 =>
 bif y51 then (some (4 : Int)) else
 some (0 : Int)
def synod_find_1 (a0 : Round) (a1 : Int) : Option Bool :=
 some (a0.Ballot == a1)
def slices_IndexFunc_api_Round_api_Round_find_1_B0 (a0 : List Round) (a1_c0 : Int) (i2 : Nat) (z2 : Unit) : Option (Ctl Unit Int) :=
 (lat a0 (i2 : Int)).bind fun x5 =>
 (synod_find_1 x5 a1_c0).bind fun r8 =>
 bif r8 then (some (.ret (i2 : Int))) else
 some (.go ())
def slices_IndexFunc_api_Round_api_Round_find_1 (a0 : List Round) (a1_c0 : Int) : Option Int :=
 andThen (rangeM (slices_IndexFunc_api_Round_api_Round_find_1_B0 a0 a1_c0) a0.length 0 ()) fun _ =>
 some (-1 : Int)
def synod_find (a0 : Synod) (a1 : Int) : Option Int :=
 (slices_IndexFunc_api_Round_api_Round_find_1 a0.Rounds a1).bind fun r5 =>
 some r5
def synod_voter_B0 (a0 : Synod) (a1 : Int) (x3 : Voter) (i37 : Nat) (z37 : Round) : Option (Ctl Round Int) :=
 (lat a0.Rounds (i37 : Int)).bind fun x41 =>
 (cnt a1).bind fun n46 =>
 (bif ((((x41.Promised ||| x41.Voted) >>> n46) &&& (1 : BitVec 8)).toNat : Int) == ((1 : BitVec 8).toNat : Int) then (some (decide (x41.Ballot > x3.Promised))) else
 some false).bind fun y50 =>
 bif y50 then (some (.ret (4 : Int))) else
 (cnt a1).bind fun n55 =>
 (bif (((x41.Voted >>> n55) &&& (1 : BitVec 8)).toNat : Int) == ((1 : BitVec 8).toNat : Int) then (some (decide (x41.Ballot > z37.Ballot))) else
 some false).bind fun y59 =>
 bif y59 then (some (.go x41)) else
 some (.go z37)
def synod_voter (a0 : Synod) (a1 : Int) : Option Int :=
 (lat a0.Voters a1).bind fun x3 =>
 (bif decide (x3.Promised < (0 : Int)) then (some true) else
 some (decide (x3.Voted < (0 : Int)))).bind fun y9 =>
 (bif y9 then (some true) else
 some (decide (x3.Voted > x3.Promised))).bind fun y14 =>
 bif y14 then (some (1 : Int)) else
 (bif x3.Voted == (0 : Int) then (some (!(decide (x3.Text = ([] : Str))))) else
 some false).bind fun y20 =>
 bif y20 then (some (4 : Int)) else
 (bif decide (x3.Promised > (0 : Int)) then ((synod_find a0 x3.Promised).bind fun r28 =>
 some (decide (r28 < (0 : Int)))) else
 some false).bind fun y26 =>
 bif y26 then (some (4 : Int)) else
 andThen (rangeM (synod_voter_B0 a0 a1 x3) a0.Rounds.length 0 Round.zero) fun y38 =>
 bif x3.Voted != y38.Ballot then (some (4 : Int)) else
 (bif decide (y38.Ballot > (0 : Int)) then (some (!(decide (x3.Text = y38.Text)))) else
 some false).bind fun y66 =>
 bif y66 then (some (4 : Int)) else
 some (0 : Int)
def synod_Check_B2 (a0 : Synod) (i21 : Nat) (z21 : Unit) : Option (Ctl Unit Int) :=
 (synod_voter a0 (i21 : Int)).bind fun r24 =>
 bif r24 != (0 : Int) then (some (.ret r24)) else
 some (.go ())
def synod_Check_B0 (a0 : Synod) (i13 : Nat) (z13 : Unit) : Option (Ctl Unit Int) :=
 (synod_round a0 (i13 : Int)).bind fun r16 =>
 bif r16 != (0 : Int) then (some (.ret r16)) else
 some (.go ())
def synod_Check (a0 : Synod) : Option Int :=
 (synod_in (a0.Voters.length : Int) (1 : Int) (6 : Int)).bind fun r3 =>
 (bif !r3 then (some true) else
 some (decide ((a0.Rounds.length : Int) > (30 : Int)))).bind fun y8 =>
 bif y8 then (some (1 : Int)) else
 andThen (rangeM (synod_Check_B0 a0) a0.Rounds.length 0 ()) fun _ =>
 andThen (rangeM (synod_Check_B2 a0) a0.Voters.length 0 ()) fun _ =>
 some (0 : Int)
def slices_Clone_api_Voter_api_Voter (a0 : List Voter) : Option (List Voter) :=
 (room ([] : List Voter) a0).bind fun u5 =>
 some (([] : List Voter) ++ a0)
def slices_Clone_api_Round_api_Round (a0 : List Round) : Option (List Round) :=
 (room ([] : List Round) a0).bind fun u5 =>
 some (([] : List Round) ++ a0)
def synod_act (a0 : Synod) (a1 : Int) (a2 : Act) : Option ((List Voter) × (List Round) × Synod) :=
 (lat a0.Voters a2.Who).bind fun x6 =>
 bif a2.Kind == (2 : Int) then (bif decide (x6.Promised ≥ a2.Ballot) then (some (a0.Voters, a0.Rounds, a0)) else
 Let (a0.Voters.set a2.Who.toNat ({ x6 with Promised := a2.Ballot } : Voter)) fun p11 =>
 (lat a0.Rounds a1).bind fun x13 =>
 bif x13.Asked then (some (p11, a0.Rounds, ({ a0 with Voters := p11 } : Synod))) else
 (lat a0.Rounds a1).bind fun x17 =>
 (cnt a2.Who).bind fun n20 =>
 Let (a0.Rounds.set a1.toNat ({ x17 with Promised := x17.Promised ||| ((1 : BitVec 8) <<< n20) } : Round)) fun p23 =>
 (lat p11 a2.Who).bind fun x25 =>
 (lat p23 a1).bind fun x28 =>
 bif decide (x25.Voted > x28.Best) then ((lat p11 a2.Who).bind fun x32 =>
 (lat p11 a2.Who).bind fun x35 =>
 (lat p23 a1).bind fun x38 =>
 Let (p23.set a1.toNat ({ x38 with Best := x32.Voted } : Round)) fun p41 =>
 Let p41 fun l44 =>
 (lat l44 a1).bind fun x52 =>
 Let (l44.set a1.toNat ({ x52 with Text := x35.Text } : Round)) fun p55 =>
 some (p11, p55, ({ a0 with Voters := p11, Rounds := p55 } : Synod))) else
 some (p11, p23, ({ a0 with Voters := p11, Rounds := p23 } : Synod))) else
 bif a2.Kind == (3 : Int) then ((lat a0.Rounds a1).bind fun x58 =>
 (bif x58.Asked then (some true) else
 (lat a0.Rounds a1).bind fun x64 =>
 (synod_majority x64.Promised (a0.Voters.length : Int)).bind fun r67 =>
 some r67).bind fun y62 =>
 (lat a0.Rounds a1).bind fun x71 =>
 Let (a0.Rounds.set a1.toNat ({ x71 with Asked := y62 } : Round)) fun p74 =>
 some (a0.Voters, p74, ({ a0 with Rounds := p74 } : Synod))) else
 bif a2.Kind == (4 : Int) then ((lat a0.Rounds a1).bind fun x77 =>
 (bif x77.Asked then (some (decide (x6.Promised ≤ a2.Ballot))) else
 some false).bind fun y81 =>
 bif y81 then ((lat a0.Rounds a1).bind fun x84 =>
 Let (a0.Voters.set a2.Who.toNat ({ x6 with Promised := a2.Ballot } : Voter)) fun p87 =>
 (lat p87 a2.Who).bind fun x89 =>
 Let (p87.set a2.Who.toNat ({ x89 with Voted := a2.Ballot } : Voter)) fun p92 =>
 Let p92 fun l95 =>
 (lat l95 a2.Who).bind fun x102 =>
 Let (l95.set a2.Who.toNat ({ x102 with Text := x84.Text } : Voter)) fun p105 =>
 (lat a0.Rounds a1).bind fun x107 =>
 (cnt a2.Who).bind fun n110 =>
 Let (a0.Rounds.set a1.toNat ({ x107 with Voted := x107.Voted ||| ((1 : BitVec 8) <<< n110) } : Round)) fun p113 =>
 some (p105, p113, ({ a0 with Voters := p105, Rounds := p113 } : Synod))) else
 some (a0.Voters, a0.Rounds, a0)) else
 some (a0.Voters, a0.Rounds, a0)
def synod_Step (a0 : Synod) (a1 : Act) : Option (Synod × Int) :=
 (synod_Check a0).bind fun r9 =>
 bif r9 != (0 : Int) then (some (({ Synod.zero with Voters := ([] : List Voter), Rounds := ([] : List Round) } : Synod), r9)) else
 (synod_find a0 a1.Ballot).bind fun r16 =>
 (synod_in a1.Kind (1 : Int) (4 : Int)).bind fun r20 =>
 (bif !r20 then (some true) else
 (synod_in a1.Ballot (1 : Int) (16777215 : Int)).bind fun r27 =>
 some (!r27)).bind fun y25 =>
 (bif y25 then (some true) else
 (synod_in a1.Who (0 : Int) (w64 ((a0.Voters.length : Int) - (1 : Int)))).bind fun r36 =>
 some (!r36)).bind fun y34 =>
 bif y34 then (some (({ Synod.zero with Voters := ([] : List Voter), Rounds := ([] : List Round) } : Synod), (1 : Int))) else
 bif decide ((a1.Text.length : Int) > (200 : Int)) then (some (({ Synod.zero with Voters := ([] : List Voter), Rounds := ([] : List Round) } : Synod), (2 : Int))) else
 (bif a1.Kind == (1 : Int) then (some (decide (r16 ≥ (0 : Int)))) else
 some false).bind fun y49 =>
 bif y49 then (some (({ Synod.zero with Voters := ([] : List Voter), Rounds := ([] : List Round) } : Synod), (7 : Int))) else
 (bif a1.Kind == (1 : Int) then (some ((a0.Rounds.length : Int) == (30 : Int))) else
 some false).bind fun y57 =>
 bif y57 then (some (({ Synod.zero with Voters := ([] : List Voter), Rounds := ([] : List Round) } : Synod), (8 : Int))) else
 (bif a1.Kind != (1 : Int) then (some (decide (r16 < (0 : Int)))) else
 some false).bind fun y65 =>
 bif y65 then (some (({ Synod.zero with Voters := ([] : List Voter), Rounds := ([] : List Round) } : Synod), (6 : Int))) else
 (slices_Clone_api_Voter_api_Voter a0.Voters).bind fun r72 =>
 (slices_Clone_api_Round_api_Round a0.Rounds).bind fun r78 =>
 Let (([] : List Round), ([] : List Voter), r78, r72) fun (l91, l93, l95, l97) =>
 bif a1.Kind == (1 : Int) then ((room l95 ([({ Round.zero with Ballot := a1.Ballot, Text := a1.Text } : Round)] : List Round)).bind fun u123 =>
 some (({ Synod.zero with Voters := l97, Rounds := l95 ++ ([({ Round.zero with Ballot := a1.Ballot, Text := a1.Text } : Round)] : List Round) } : Synod), (0 : Int))) else
 (lat l95 r16).bind fun x126 =>
 (synod_act ({ Synod.zero with Voters := l97, Rounds := l95 } : Synod) r16 a1).bind fun r129 =>
 some (({ r129.2.2 with Voters := r129.1, Rounds := r129.2.1 } : Synod), (0 : Int))
def math_bits_Len64 (a0 : BitVec 64) : Option Int :=
 (bif decide ((a0.toNat : Int) ≥ ((4294967296 : BitVec 64).toNat : Int)) then (some (a0 >>> 32, (32 : Int))) else
 some (a0, (0 : Int))).bind fun (y1, y2) =>
 (bif decide ((y1.toNat : Int) ≥ ((65536 : BitVec 64).toNat : Int)) then (some (y1 >>> 16, w64 (y2 + (16 : Int)))) else
 some (y1, y2)).bind fun (y7, y8) =>
 (bif decide ((y7.toNat : Int) ≥ ((256 : BitVec 64).toNat : Int)) then (some (y7 >>> 8, w64 (y8 + (8 : Int)))) else
 some (y7, y8)).bind fun (y13, y14) =>
 (lat ([0, 1, 2, 2, 3, 3, 3, 3, 4, 4, 4, 4, 4, 4, 4, 4, 5, 5, 5, 5, 5, 5, 5, 5, 5, 5, 5, 5, 5, 5, 5, 5, 6, 6, 6, 6, 6, 6, 6, 6, 6, 6, 6, 6, 6, 6, 6, 6, 6, 6, 6, 6, 6, 6, 6, 6, 6, 6, 6, 6, 6, 6, 6, 6, 7, 7, 7, 7, 7, 7, 7, 7, 7, 7, 7, 7, 7, 7, 7, 7, 7, 7, 7, 7, 7, 7, 7, 7, 7, 7, 7, 7, 7, 7, 7, 7, 7, 7, 7, 7, 7, 7, 7, 7, 7, 7, 7, 7, 7, 7, 7, 7, 7, 7, 7, 7, 7, 7, 7, 7, 7, 7, 7, 7, 7, 7, 7, 7, 8, 8, 8, 8, 8, 8, 8, 8, 8, 8, 8, 8, 8, 8, 8, 8, 8, 8, 8, 8, 8, 8, 8, 8, 8, 8, 8, 8, 8, 8, 8, 8, 8, 8, 8, 8, 8, 8, 8, 8, 8, 8, 8, 8, 8, 8, 8, 8, 8, 8, 8, 8, 8, 8, 8, 8, 8, 8, 8, 8, 8, 8, 8, 8, 8, 8, 8, 8, 8, 8, 8, 8, 8, 8, 8, 8, 8, 8, 8, 8, 8, 8, 8, 8, 8, 8, 8, 8, 8, 8, 8, 8, 8, 8, 8, 8, 8, 8, 8, 8, 8, 8, 8, 8, 8, 8, 8, 8, 8, 8, 8, 8, 8, 8, 8, 8, 8, 8, 8, 8, 8, 8, 8, 8, 8, 8, 8, 8] : Str) ((BitVec.ofInt 8 (y13.toNat : Int)).toNat : Int)).bind fun x19 =>
 some (w64 (y14 + (x19.toBitVec.toNat : Int)))
def math_bits_Len (a0 : BitVec 64) : Option Int :=
 (math_bits_Len64 a0).bind fun r1 =>
 some r1
def cmp_isNaN_string (a0 : Str) : Option Bool :=
 some (!(decide (a0 = a0)))
def cmp_Less_string (a0 : Str) (a1 : Str) : Option Bool :=
 (cmp_isNaN_string a0).bind fun r1 =>
 (bif r1 then ((cmp_isNaN_string a1).bind fun r8 =>
 some (!r8)) else
 some false).bind fun y6 =>
 (bif y6 then (some true) else
 some (Op.bytesLess a0 a1)).bind fun y15 =>
 some y15
def slices_insertionSortOrdered_string_B2 (a1 : Int) (z8 : Int × (List Str)) : Option (Ctl (Int × (List Str)) (Ctl (Int × (List Str)) (List Str))) :=
 (bif decide (z8.1 > a1) then ((lat z8.2 z8.1).bind fun x16 =>
 (lat z8.2 (w64 (z8.1 - (1 : Int)))).bind fun x19 =>
 (cmp_Less_string x16 x19).bind fun r22 =>
 some r22) else
 some false).bind fun y14 =>
 bif y14 then ((lat z8.2 (w64 (z8.1 - (1 : Int)))).bind fun x27 =>
 (lat z8.2 z8.1).bind fun x30 =>
 (lat z8.2 z8.1).bind fun x33 =>
 Let (z8.2.set z8.1.toNat x27) fun p36 =>
 Let p36 fun l39 =>
 (lat l39 (w64 (z8.1 - (1 : Int)))).bind fun x56 =>
 Let (l39.set (w64 (z8.1 - (1 : Int))).toNat x30) fun p59 =>
 some (.go (w64 (z8.1 - (1 : Int)), p59))) else
 some (.brk (z8.1, z8.2))
def slices_insertionSortOrdered_string_B0 (fu : Nat) (a1 : Int) (a2 : Int) (z2 : Int × (List Str)) : Option (Ctl (Int × (List Str)) (List Str)) :=
 bif decide (z2.1 < a2) then (andThen (whileM (slices_insertionSortOrdered_string_B2 a1) fu (z2.1, z2.2)) fun (y9, l10) =>
 some (.go (w64 (z2.1 + (1 : Int)), l10))) else
 some (.brk (z2.1, z2.2))
def slices_insertionSortOrdered_string (fu : Nat) (a0 : List Str) (a1 : Int) (a2 : Int) : Option (List Str) :=
 andThen (whileM (slices_insertionSortOrdered_string_B0 fu a1 a2) fu (w64 (a1 + (1 : Int)), a0)) fun (y3, l4) =>
 some l4
def slices_siftDownOrdered_string_B0 (a2 : Int) (a3 : Int) (z2 : Int × (List Str)) : Option (Ctl (Int × (List Str)) (List Str)) :=
 bif decide ((w64 ((w64 ((2 : Int) * z2.1)) + (1 : Int))) ≥ a2) then (some (.brk (z2.1, z2.2))) else
 ((bif decide ((w64 ((w64 ((w64 ((2 : Int) * z2.1)) + (1 : Int))) + (1 : Int))) < a2) then ((lat z2.2 (w64 (a3 + (w64 ((w64 ((2 : Int) * z2.1)) + (1 : Int)))))).bind fun x13 =>
 (lat z2.2 (w64 ((w64 (a3 + (w64 ((w64 ((2 : Int) * z2.1)) + (1 : Int))))) + (1 : Int)))).bind fun x16 =>
 (cmp_Less_string x13 x16).bind fun r19 =>
 some r19) else
 some false).bind fun y11 =>
 bif y11 then (some (w64 ((w64 ((w64 ((2 : Int) * z2.1)) + (1 : Int))) + (1 : Int)))) else
 some (w64 ((w64 ((2 : Int) * z2.1)) + (1 : Int)))).bind fun y8 =>
 (lat z2.2 (w64 (a3 + z2.1))).bind fun x26 =>
 (lat z2.2 (w64 (a3 + y8))).bind fun x29 =>
 (cmp_Less_string x26 x29).bind fun r32 =>
 bif !r32 then (some (.ret z2.2)) else
 (lat z2.2 (w64 (a3 + y8))).bind fun x37 =>
 (lat z2.2 (w64 (a3 + z2.1))).bind fun x40 =>
 (lat z2.2 (w64 (a3 + z2.1))).bind fun x43 =>
 Let (z2.2.set (w64 (a3 + z2.1)).toNat x37) fun p46 =>
 Let p46 fun l49 =>
 (lat l49 (w64 (a3 + y8))).bind fun x66 =>
 Let (l49.set (w64 (a3 + y8)).toNat x40) fun p69 =>
 some (.go (y8, p69))
def slices_siftDownOrdered_string (fu : Nat) (a0 : List Str) (a1 : Int) (a2 : Int) (a3 : Int) : Option (List Str) :=
 andThen (whileM (slices_siftDownOrdered_string_B0 a2 a3) fu (a1, a0)) fun (y3, l4) =>
 some l4
def slices_heapSortOrdered_string_B2 (fu : Nat) (a1 : Int) (z8 : Int × (List Str)) : Option (Ctl (Int × (List Str)) (List Str)) :=
 bif decide (z8.1 ≥ (0 : Int)) then ((lat z8.2 (w64 (a1 + z8.1))).bind fun x14 =>
 (lat z8.2 a1).bind fun x17 =>
 (lat z8.2 a1).bind fun x20 =>
 Let (z8.2.set a1.toNat x14) fun p23 =>
 Let p23 fun l26 =>
 (lat l26 (w64 (a1 + z8.1))).bind fun x43 =>
 Let (l26.set (w64 (a1 + z8.1)).toNat x17) fun p46 =>
 (slices_siftDownOrdered_string fu p46 (0 : Int) z8.1 a1).bind fun r48 =>
 some (.go (w64 (z8.1 - (1 : Int)), r48))) else
 some (.brk (z8.1, z8.2))
def slices_heapSortOrdered_string_B0 (fu : Nat) (a1 : Int) (a2 : Int) (z2 : Int × (List Str)) : Option (Ctl (Int × (List Str)) (List Str)) :=
 bif decide (z2.1 ≥ (0 : Int)) then ((slices_siftDownOrdered_string fu z2.2 z2.1 (w64 (a2 - a1)) a1).bind fun r52 =>
 some (.go (w64 (z2.1 - (1 : Int)), r52))) else
 some (.brk (z2.1, z2.2))
def slices_heapSortOrdered_string (fu : Nat) (a0 : List Str) (a1 : Int) (a2 : Int) : Option (List Str) :=
 andThen (whileM (slices_heapSortOrdered_string_B0 fu a1 a2) fu (w64 ((w64 ((w64 (a2 - a1)) - (1 : Int))).tdiv (2 : Int)), a0)) fun (y3, l4) =>
 andThen (whileM (slices_heapSortOrdered_string_B2 fu a1) fu (w64 ((w64 (a2 - a1)) - (1 : Int)), l4)) fun (y9, l10) =>
 some l10
def slices_nextPowerOfTwo (a0 : Int) : Option (BitVec 64) :=
 (math_bits_Len (BitVec.ofInt 64 a0)).bind fun r1 =>
 (cnt r1).bind fun n5 =>
 some ((1 : BitVec 64) <<< n5)
def slices_xorshift_Next (a0 : BitVec 64) : Option ((BitVec 64) × (BitVec 64)) :=
 some (((a0 ^^^ (a0 <<< 13)) ^^^ ((a0 ^^^ (a0 <<< 13)) >>> 7)) ^^^ (((a0 ^^^ (a0 <<< 13)) ^^^ ((a0 ^^^ (a0 <<< 13)) >>> 7)) <<< 17), ((a0 ^^^ (a0 <<< 13)) ^^^ ((a0 ^^^ (a0 <<< 13)) >>> 7)) ^^^ (((a0 ^^^ (a0 <<< 13)) ^^^ ((a0 ^^^ (a0 <<< 13)) >>> 7)) <<< 17))
def slices_breakPatternsOrdered_string_B0 (a1 : Int) (a2 : Int) (r5 : (BitVec 64)) (z9 : Int × (BitVec 64) × (List Str)) : Option (Ctl (Int × (BitVec 64) × (List Str)) (List Str)) :=
 bif decide (z9.1 ≤ (w64 ((w64 (a1 + (w64 ((w64 ((w64 (a2 - a1)).tdiv (4 : Int))) * (2 : Int))))) + (1 : Int)))) then ((slices_xorshift_Next z9.2.1).bind fun r16 =>
 (bif decide ((w64 ((r16.2 &&& (r5 - (1 : BitVec 64))).toNat : Int)) ≥ (w64 (a2 - a1))) then (some (w64 ((w64 ((r16.2 &&& (r5 - (1 : BitVec 64))).toNat : Int)) - (w64 (a2 - a1))))) else
 some (w64 ((r16.2 &&& (r5 - (1 : BitVec 64))).toNat : Int))).bind fun y20 =>
 (lat z9.2.2 (w64 (a1 + y20))).bind fun x25 =>
 (lat z9.2.2 z9.1).bind fun x28 =>
 (lat z9.2.2 z9.1).bind fun x31 =>
 Let (z9.2.2.set z9.1.toNat x25) fun p34 =>
 Let p34 fun l37 =>
 (lat l37 (w64 (a1 + y20))).bind fun x54 =>
 Let (l37.set (w64 (a1 + y20)).toNat x28) fun p57 =>
 some (.go (w64 (z9.1 + (1 : Int)), r16.1, p57))) else
 some (.brk (z9.1, z9.2.1, z9.2.2))
def slices_breakPatternsOrdered_string (fu : Nat) (a0 : List Str) (a1 : Int) (a2 : Int) : Option (List Str) :=
 bif decide ((w64 (a2 - a1)) ≥ (8 : Int)) then ((slices_nextPowerOfTwo (w64 (a2 - a1))).bind fun r5 =>
 andThen (whileM (slices_breakPatternsOrdered_string_B0 a1 a2 r5) fu (w64 ((w64 (a1 + (w64 ((w64 ((w64 (a2 - a1)).tdiv (4 : Int))) * (2 : Int))))) - (1 : Int)), BitVec.ofInt 64 (w64 (a2 - a1)), a0)) fun (y10, y11, l12) =>
 some l12) else
 some a0
def slices_order2Ordered_string (a0 : List Str) (a1 : Int) (a2 : Int) (a3 : Int) : Option (Int × Int × Int) :=
 (lat a0 a2).bind fun x2 =>
 (lat a0 a1).bind fun x5 =>
 (cmp_Less_string x2 x5).bind fun r8 =>
 bif r8 then (some (w64 (a3 + (1 : Int)), a2, a1)) else
 some (a3, a1, a2)
def slices_medianOrdered_string (a0 : List Str) (a1 : Int) (a2 : Int) (a3 : Int) (a4 : Int) : Option (Int × Int) :=
 (slices_order2Ordered_string a0 a1 a2 a4).bind fun r2 =>
 (slices_order2Ordered_string a0 r2.2.2 a3 r2.1).bind fun r6 =>
 (slices_order2Ordered_string a0 r2.2.1 r6.2.1 r6.1).bind fun r10 =>
 some (r10.1, r10.2.2)
def slices_medianAdjacentOrdered_string (a0 : List Str) (a1 : Int) (a2 : Int) : Option (Int × Int) :=
 (slices_medianOrdered_string a0 (w64 (a1 - (1 : Int))) a1 (w64 (a1 + (1 : Int))) a2).bind fun r2 =>
 some (r2.1, r2.2)
def slices_choosePivotOrdered_string (a0 : List Str) (a1 : Int) (a2 : Int) : Option (Int × Int) :=
 (bif decide ((w64 (a2 - a1)) ≥ (8 : Int)) then ((bif decide ((w64 (a2 - a1)) ≥ (50 : Int)) then ((slices_medianAdjacentOrdered_string a0 (w64 (a1 + (w64 ((w64 ((w64 (a2 - a1)).tdiv (4 : Int))) * (1 : Int))))) (0 : Int)).bind fun r13 =>
 (slices_medianAdjacentOrdered_string a0 (w64 (a1 + (w64 ((w64 ((w64 (a2 - a1)).tdiv (4 : Int))) * (2 : Int))))) r13.1).bind fun r17 =>
 (slices_medianAdjacentOrdered_string a0 (w64 (a1 + (w64 ((w64 ((w64 (a2 - a1)).tdiv (4 : Int))) * (3 : Int))))) r17.1).bind fun r21 =>
 some (r13.2, r17.2, r21.2, r21.1)) else
 some (w64 (a1 + (w64 ((w64 ((w64 (a2 - a1)).tdiv (4 : Int))) * (1 : Int)))), w64 (a1 + (w64 ((w64 ((w64 (a2 - a1)).tdiv (4 : Int))) * (2 : Int)))), w64 (a1 + (w64 ((w64 ((w64 (a2 - a1)).tdiv (4 : Int))) * (3 : Int)))), (0 : Int))).bind fun (y7, y8, y9, y10) =>
 (slices_medianOrdered_string a0 y7 y8 y9 y10).bind fun r27 =>
 some (r27.2, r27.1)) else
 some (w64 (a1 + (w64 ((w64 ((w64 (a2 - a1)).tdiv (4 : Int))) * (2 : Int)))), (0 : Int))).bind fun (y3, y4) =>
 bif y4 == (0 : Int) then (some (y3, (1 : Int))) else
 bif y4 == (12 : Int) then (some (y3, (2 : Int))) else
 some (y3, (0 : Int))
def slices_reverseRangeOrdered_string_B0 (z2 : Int × Int × (List Str)) : Option (Ctl (Int × Int × (List Str)) (List Str)) :=
 bif decide (z2.1 < z2.2.1) then ((lat z2.2.2 z2.2.1).bind fun x9 =>
 (lat z2.2.2 z2.1).bind fun x12 =>
 (lat z2.2.2 z2.1).bind fun x15 =>
 Let (z2.2.2.set z2.1.toNat x9) fun p18 =>
 Let p18 fun l21 =>
 (lat l21 z2.2.1).bind fun x38 =>
 Let (l21.set z2.2.1.toNat x12) fun p41 =>
 some (.go (w64 (z2.1 + (1 : Int)), w64 (z2.2.1 - (1 : Int)), p41))) else
 some (.brk (z2.1, z2.2.1, z2.2.2))
def slices_reverseRangeOrdered_string (fu : Nat) (a0 : List Str) (a1 : Int) (a2 : Int) : Option (List Str) :=
 andThen (whileM (slices_reverseRangeOrdered_string_B0) fu (a1, w64 (a2 - (1 : Int)), a0)) fun (y3, y4, l5) =>
 some l5
def slices_partialInsertionSortOrdered_string_B4 (z66 : Int × (List Str)) : Option (Ctl (Int × (List Str)) (List Str)) :=
 bif decide (z66.1 ≥ (1 : Int)) then ((lat z66.2 z66.1).bind fun x72 =>
 (lat z66.2 (w64 (z66.1 - (1 : Int)))).bind fun x75 =>
 (cmp_Less_string x72 x75).bind fun r78 =>
 bif !r78 then (some (.brk (z66.1, z66.2))) else
 (lat z66.2 (w64 (z66.1 - (1 : Int)))).bind fun x83 =>
 (lat z66.2 z66.1).bind fun x86 =>
 (lat z66.2 z66.1).bind fun x89 =>
 Let (z66.2.set z66.1.toNat x83) fun p92 =>
 Let p92 fun l95 =>
 (lat l95 (w64 (z66.1 - (1 : Int)))).bind fun x112 =>
 Let (l95.set (w64 (z66.1 - (1 : Int))).toNat x86) fun p115 =>
 some (.go (w64 (z66.1 - (1 : Int)), p115))) else
 some (.brk (z66.1, z66.2))
def slices_partialInsertionSortOrdered_string_B6 (a2 : Int) (z120 : Int × (List Str)) : Option (Ctl (Int × (List Str)) (Ctl (Int × Int × (List Str)) ((List Str) × Bool))) :=
 bif decide (z120.1 < a2) then ((lat z120.2 z120.1).bind fun x126 =>
 (lat z120.2 (w64 (z120.1 - (1 : Int)))).bind fun x129 =>
 (cmp_Less_string x126 x129).bind fun r132 =>
 bif !r132 then (some (.brk (z120.1, z120.2))) else
 (lat z120.2 (w64 (z120.1 - (1 : Int)))).bind fun x137 =>
 (lat z120.2 z120.1).bind fun x140 =>
 (lat z120.2 z120.1).bind fun x143 =>
 Let (z120.2.set z120.1.toNat x137) fun p146 =>
 Let p146 fun l149 =>
 (lat l149 (w64 (z120.1 - (1 : Int)))).bind fun x166 =>
 Let (l149.set (w64 (z120.1 - (1 : Int))).toNat x140) fun p169 =>
 some (.go (w64 (z120.1 + (1 : Int)), p169))) else
 some (.brk (z120.1, z120.2))
def slices_partialInsertionSortOrdered_string_B2 (a2 : Int) (l5 : List Str) (z9 : Int) : Option (Ctl Int (Ctl (Int × Int × (List Str)) ((List Str) × Bool))) :=
 (bif decide (z9 < a2) then ((lat l5 z9).bind fun x16 =>
 (lat l5 (w64 (z9 - (1 : Int)))).bind fun x19 =>
 (cmp_Less_string x16 x19).bind fun r22 =>
 some (!r22)) else
 some false).bind fun y14 =>
 bif y14 then (some (.go (w64 (z9 + (1 : Int))))) else
 some (.brk z9)
def slices_partialInsertionSortOrdered_string_B0 (fu : Nat) (a1 : Int) (a2 : Int) (z2 : Int × Int × (List Str)) : Option (Ctl (Int × Int × (List Str)) ((List Str) × Bool)) :=
 bif decide (z2.2.1 < (5 : Int)) then (andThen (whileM (slices_partialInsertionSortOrdered_string_B2 a2 z2.2.2) fu z2.1) fun y10 =>
 bif y10 == a2 then (some (.ret (z2.2.2, true))) else
 bif decide ((w64 (a2 - a1)) < (50 : Int)) then (some (.ret (z2.2.2, false))) else
 (lat z2.2.2 (w64 (y10 - (1 : Int)))).bind fun x29 =>
 (lat z2.2.2 y10).bind fun x32 =>
 (lat z2.2.2 y10).bind fun x35 =>
 Let (z2.2.2.set y10.toNat x29) fun p38 =>
 Let p38 fun l41 =>
 (lat l41 (w64 (y10 - (1 : Int)))).bind fun x58 =>
 Let (l41.set (w64 (y10 - (1 : Int))).toNat x32) fun p61 =>
 (bif decide ((w64 (y10 - a1)) ≥ (2 : Int)) then (andThen (whileM (slices_partialInsertionSortOrdered_string_B4) fu (w64 (y10 - (1 : Int)), p61)) fun (y67, l68) =>
 some l68) else
 some p61).bind fun l63 =>
 bif decide ((w64 (a2 - y10)) ≥ (2 : Int)) then (andThen (whileM (slices_partialInsertionSortOrdered_string_B6 a2) fu (w64 (y10 + (1 : Int)), l63)) fun (y121, l122) =>
 some (.go (y10, w64 (z2.2.1 + (1 : Int)), l122))) else
 some (.go (y10, w64 (z2.2.1 + (1 : Int)), l63))) else
 some (.brk (z2.1, z2.2.1, z2.2.2))
def slices_partialInsertionSortOrdered_string (fu : Nat) (a0 : List Str) (a1 : Int) (a2 : Int) : Option ((List Str) × Bool) :=
 andThen (whileM (slices_partialInsertionSortOrdered_string_B0 fu a1 a2) fu (w64 (a1 + (1 : Int)), (0 : Int), a0)) fun (y3, y4, l5) =>
 some (l5, false)
def slices_partitionEqualOrdered_string_B4 (a1 : Int) (l39 : List Str) (y43 : Int) (z60 : Int) : Option (Ctl Int (Ctl (Int × Int × (List Str)) ((List Str) × Int))) :=
 (bif decide (y43 ≤ z60) then ((lat l39 a1).bind fun x67 =>
 (lat l39 z60).bind fun x70 =>
 (cmp_Less_string x67 x70).bind fun r73 =>
 some r73) else
 some false).bind fun y65 =>
 bif y65 then (some (.go (w64 (z60 - (1 : Int))))) else
 some (.brk z60)
def slices_partitionEqualOrdered_string_B2 (a1 : Int) (y38 : Int) (l39 : List Str) (z42 : Int) : Option (Ctl Int (Ctl (Int × Int × (List Str)) ((List Str) × Int))) :=
 (bif decide (z42 ≤ y38) then ((lat l39 a1).bind fun x49 =>
 (lat l39 z42).bind fun x52 =>
 (cmp_Less_string x49 x52).bind fun r55 =>
 some (!r55)) else
 some false).bind fun y47 =>
 bif y47 then (some (.go (w64 (z42 + (1 : Int))))) else
 some (.brk z42)
def slices_partitionEqualOrdered_string_B0 (fu : Nat) (a1 : Int) (z36 : Int × Int × (List Str)) : Option (Ctl (Int × Int × (List Str)) ((List Str) × Int)) :=
 andThen (whileM (slices_partitionEqualOrdered_string_B2 a1 z36.2.1 z36.2.2) fu z36.1) fun y43 =>
 andThen (whileM (slices_partitionEqualOrdered_string_B4 a1 z36.2.2 y43) fu z36.2.1) fun y61 =>
 bif decide (y43 > y61) then (some (.brk (y43, y61, z36.2.2))) else
 (lat z36.2.2 y61).bind fun x79 =>
 (lat z36.2.2 y43).bind fun x82 =>
 (lat z36.2.2 y43).bind fun x85 =>
 Let (z36.2.2.set y43.toNat x79) fun p88 =>
 Let p88 fun l91 =>
 (lat l91 y61).bind fun x108 =>
 Let (l91.set y61.toNat x82) fun p111 =>
 some (.go (w64 (y43 + (1 : Int)), w64 (y61 - (1 : Int)), p111))
def slices_partitionEqualOrdered_string (fu : Nat) (a0 : List Str) (a1 : Int) (a2 : Int) (a3 : Int) : Option ((List Str) × Int) :=
 (lat a0 a3).bind fun x2 =>
 (lat a0 a1).bind fun x5 =>
 (lat a0 a1).bind fun x8 =>
 Let (a0.set a1.toNat x2) fun p11 =>
 Let p11 fun l14 =>
 (lat l14 a3).bind fun x31 =>
 Let (l14.set a3.toNat x5) fun p34 =>
 andThen (whileM (slices_partitionEqualOrdered_string_B0 fu a1) fu (w64 (a1 + (1 : Int)), w64 (a2 - (1 : Int)), p34)) fun (y37, y38, l39) =>
 some (l39, y37)
def slices_partitionOrdered_string_B8 (a1 : Int) (l144 : List Str) (y148 : Int) (z165 : Int) : Option (Ctl Int (Ctl (Int × Int × (List Str)) ((List Str) × Int × Bool))) :=
 (bif decide (y148 ≤ z165) then ((lat l144 z165).bind fun x172 =>
 (lat l144 a1).bind fun x175 =>
 (cmp_Less_string x172 x175).bind fun r178 =>
 some (!r178)) else
 some false).bind fun y170 =>
 bif y170 then (some (.go (w64 (z165 - (1 : Int))))) else
 some (.brk z165)
def slices_partitionOrdered_string_B6 (a1 : Int) (y143 : Int) (l144 : List Str) (z147 : Int) : Option (Ctl Int (Ctl (Int × Int × (List Str)) ((List Str) × Int × Bool))) :=
 (bif decide (z147 ≤ y143) then ((lat l144 z147).bind fun x154 =>
 (lat l144 a1).bind fun x157 =>
 (cmp_Less_string x154 x157).bind fun r160 =>
 some r160) else
 some false).bind fun y152 =>
 bif y152 then (some (.go (w64 (z147 + (1 : Int))))) else
 some (.brk z147)
def slices_partitionOrdered_string_B4 (fu : Nat) (a1 : Int) (z141 : Int × Int × (List Str)) : Option (Ctl (Int × Int × (List Str)) ((List Str) × Int × Bool)) :=
 andThen (whileM (slices_partitionOrdered_string_B6 a1 z141.2.1 z141.2.2) fu z141.1) fun y148 =>
 andThen (whileM (slices_partitionOrdered_string_B8 a1 z141.2.2 y148) fu z141.2.1) fun y166 =>
 bif decide (y148 > y166) then (some (.brk (y148, y166, z141.2.2))) else
 (lat z141.2.2 y166).bind fun x218 =>
 (lat z141.2.2 y148).bind fun x221 =>
 (lat z141.2.2 y148).bind fun x224 =>
 Let (z141.2.2.set y148.toNat x218) fun p227 =>
 Let p227 fun l230 =>
 (lat l230 y166).bind fun x247 =>
 Let (l230.set y166.toNat x221) fun p250 =>
 some (.go (w64 (y148 + (1 : Int)), w64 (y166 - (1 : Int)), p250))
def slices_partitionOrdered_string_B2 (a1 : Int) (p34 : List Str) (y37 : Int) (z54 : Int) : Option (Ctl Int ((List Str) × Int × Bool)) :=
 (bif decide (y37 ≤ z54) then ((lat p34 z54).bind fun x61 =>
 (lat p34 a1).bind fun x64 =>
 (cmp_Less_string x61 x64).bind fun r67 =>
 some (!r67)) else
 some false).bind fun y59 =>
 bif y59 then (some (.go (w64 (z54 - (1 : Int))))) else
 some (.brk z54)
def slices_partitionOrdered_string_B0 (a1 : Int) (a2 : Int) (p34 : List Str) (z36 : Int) : Option (Ctl Int ((List Str) × Int × Bool)) :=
 (bif decide (z36 ≤ (w64 (a2 - (1 : Int)))) then ((lat p34 z36).bind fun x43 =>
 (lat p34 a1).bind fun x46 =>
 (cmp_Less_string x43 x46).bind fun r49 =>
 some r49) else
 some false).bind fun y41 =>
 bif y41 then (some (.go (w64 (z36 + (1 : Int))))) else
 some (.brk z36)
def slices_partitionOrdered_string (fu : Nat) (a0 : List Str) (a1 : Int) (a2 : Int) (a3 : Int) : Option ((List Str) × Int × Bool) :=
 (lat a0 a3).bind fun x2 =>
 (lat a0 a1).bind fun x5 =>
 (lat a0 a1).bind fun x8 =>
 Let (a0.set a1.toNat x2) fun p11 =>
 Let p11 fun l14 =>
 (lat l14 a3).bind fun x31 =>
 Let (l14.set a3.toNat x5) fun p34 =>
 andThen (whileM (slices_partitionOrdered_string_B0 a1 a2 p34) fu (w64 (a1 + (1 : Int)))) fun y37 =>
 andThen (whileM (slices_partitionOrdered_string_B2 a1 p34 y37) fu (w64 (a2 - (1 : Int)))) fun y55 =>
 bif decide (y37 > y55) then ((lat p34 a1).bind fun x73 =>
 (lat p34 y55).bind fun x76 =>
 (lat p34 y55).bind fun x79 =>
 Let (p34.set y55.toNat x73) fun p82 =>
 Let p82 fun l85 =>
 (lat l85 a1).bind fun x102 =>
 Let (l85.set a1.toNat x76) fun p105 =>
 some (p105, y55, true)) else
 (lat p34 y55).bind fun x107 =>
 (lat p34 y37).bind fun x110 =>
 (lat p34 y37).bind fun x113 =>
 Let (p34.set y37.toNat x107) fun p116 =>
 Let p116 fun l119 =>
 (lat l119 y55).bind fun x136 =>
 Let (l119.set y55.toNat x110) fun p139 =>
 andThen (whileM (slices_partitionOrdered_string_B4 fu a1) fu (w64 (y37 + (1 : Int)), w64 (y55 - (1 : Int)), p139)) fun (y142, y143, l144) =>
 (lat l144 a1).bind fun x252 =>
 (lat l144 y143).bind fun x255 =>
 (lat l144 y143).bind fun x258 =>
 Let (l144.set y143.toNat x252) fun p261 =>
 Let p261 fun l264 =>
 (lat l264 a1).bind fun x281 =>
 Let (l264.set a1.toNat x255) fun p284 =>
 some (p284, y143, false)
def slices_pdqsortOrdered_string_B0 (fu : Nat) (rc : (List Str) → Int → Int → Int → Option (List Str)) (z2 : Int × Int × Int × Bool × Bool × (List Str)) : Option (Ctl (Int × Int × Int × Bool × Bool × (List Str)) (List Str)) :=
 bif decide ((w64 (z2.2.1 - z2.1)) ≤ (12 : Int)) then ((slices_insertionSortOrdered_string fu z2.2.2.2.2.2 z2.1 z2.2.1).bind fun r12 =>
 some (.ret r12)) else
 bif z2.2.2.1 == (0 : Int) then ((slices_heapSortOrdered_string fu z2.2.2.2.2.2 z2.1 z2.2.1).bind fun r17 =>
 some (.ret r17)) else
 (bif !z2.2.2.2.1 then ((slices_breakPatternsOrdered_string fu z2.2.2.2.2.2 z2.1 z2.2.1).bind fun r25 =>
 some (w64 (z2.2.2.1 - (1 : Int)), r25)) else
 some (z2.2.2.1, z2.2.2.2.2.2)).bind fun (y21, l22) =>
 (slices_choosePivotOrdered_string l22 z2.1 z2.2.1).bind fun r31 =>
 (bif r31.2 == (2 : Int) then ((slices_reverseRangeOrdered_string fu l22 z2.1 z2.2.1).bind fun r40 =>
 some (w64 ((w64 (z2.2.1 - (1 : Int))) - (w64 (r31.1 - z2.1))), (1 : Int), r40)) else
 some (r31.1, r31.2, l22)).bind fun (y35, y36, l37) =>
 andThen ((bif z2.2.2.2.1 then (some z2.2.2.2.2.1) else
 some false).bind fun y49 =>
 (bif y49 then (some (y36 == (1 : Int))) else
 some false).bind fun y54 =>
 bif y54 then ((slices_partialInsertionSortOrdered_string fu l37 z2.1 z2.2.1).bind fun r59 =>
 bif r59.2 then (some (.inr (.ret r59.1))) else
 some (.inl r59.1)) else
 some (.inl l37)) fun l46 =>
 (bif decide (z2.1 > (0 : Int)) then ((lat l46 (w64 (z2.1 - (1 : Int)))).bind fun x69 =>
 (lat l46 y35).bind fun x72 =>
 (cmp_Less_string x69 x72).bind fun r75 =>
 some (!r75)) else
 some false).bind fun y67 =>
 bif y67 then ((slices_partitionEqualOrdered_string fu l46 z2.1 z2.2.1 y35).bind fun r80 =>
 some (.go (r80.2, z2.2.1, y21, z2.2.2.2.1, z2.2.2.2.2.1, r80.1))) else
 (slices_partitionOrdered_string fu l46 z2.1 z2.2.1 y35).bind fun r84 =>
 bif decide ((w64 (r84.2.1 - z2.1)) < (w64 (z2.2.1 - r84.2.1))) then ((rc r84.1 z2.1 r84.2.1 y21).bind fun r93 =>
 some (.go (w64 (r84.2.1 + (1 : Int)), z2.2.1, y21, decide ((w64 (r84.2.1 - z2.1)) ≥ (w64 ((w64 (z2.2.1 - z2.1)).tdiv (8 : Int)))), r84.2.2, r93))) else
 (rc r84.1 (w64 (r84.2.1 + (1 : Int))) z2.2.1 y21).bind fun r89 =>
 some (.go (z2.1, r84.2.1, y21, decide ((w64 (z2.2.1 - r84.2.1)) ≥ (w64 ((w64 (z2.2.1 - z2.1)).tdiv (8 : Int)))), r84.2.2, r89))
def slices_pdqsortOrdered_string_R (fu : Nat) (rc : (List Str) → Int → Int → Int → Option (List Str)) (a0 : List Str) (a1 : Int) (a2 : Int) (a3 : Int) : Option (List Str) :=
 andThen (whileM (slices_pdqsortOrdered_string_B0 fu rc) fu (a1, a2, a3, true, true, a0)) fun (y3, y4, y5, y6, y7, l8) =>
 none
def slices_pdqsortOrdered_string : (fu : Nat) → (a0 : List Str) → (a1 : Int) → (a2 : Int) → (a3 : Int) → Option (List Str)
  | 0, _, _, _, _ => none
  | fu + 1, a0, a1, a2, a3 => slices_pdqsortOrdered_string_R fu (slices_pdqsortOrdered_string fu) a0 a1 a2 a3
def slices_Sort_string_string (fu : Nat) (a0 : List Str) : Option (List Str) :=
 (math_bits_Len (BitVec.ofInt 64 (a0.length : Int))).bind fun r2 =>
 (slices_pdqsortOrdered_string fu a0 (0 : Int) (a0.length : Int) r2).bind fun r6 =>
 some r6
def slices_Compact_string_string_B2 (a0 : List Str) (y5 : Int) (z22 : Int × Int × (List Str)) : Option (Ctl (Int × Int × (List Str)) (Ctl Int (List Str))) :=
 bif decide (z22.2.1 < (((z22.2.2.drop (y5 : Int).toNat).take (((a0.length : Int) : Int).toNat - (y5 : Int).toNat)).length : Int)) then ((lat ((z22.2.2.drop (y5 : Int).toNat).take (((a0.length : Int) : Int).toNat - (y5 : Int).toNat)) z22.2.1).bind fun x38 =>
 (lat ((z22.2.2.drop (y5 : Int).toNat).take (((a0.length : Int) : Int).toNat - (y5 : Int).toNat)) (w64 (z22.2.1 - (1 : Int)))).bind fun x41 =>
 bif !(decide (x38 = x41)) then ((lat ((z22.2.2.drop (y5 : Int).toNat).take (((a0.length : Int) : Int).toNat - (y5 : Int).toNat)) z22.2.1).bind fun x45 =>
 (lat z22.2.2 z22.1).bind fun x48 =>
 Let (z22.2.2.set z22.1.toNat x45) fun p51 =>
 some (.go (w64 (z22.1 + (1 : Int)), w64 (z22.2.1 + (1 : Int)), p51))) else
 some (.go (z22.1, w64 (z22.2.1 + (1 : Int)), z22.2.2))) else
 some (.brk (z22.1, z22.2.1, z22.2.2))
def slices_Compact_string_string_B0 (fu : Nat) (a0 : List Str) (z4 : Int) : Option (Ctl Int (List Str)) :=
 bif decide (z4 < (a0.length : Int)) then ((lat a0 z4).bind fun x9 =>
 (lat a0 (w64 (z4 - (1 : Int)))).bind fun x12 =>
 bif decide (x9 = x12) then ((cutL a0 z4 (a0.length : Int)).bind fun m16 =>
 andThen (whileM (slices_Compact_string_string_B2 a0 z4) fu (z4, (1 : Int), a0)) fun (y23, y24, l25) =>
 (cutL l25 y23 (l25.length : Int)).bind fun m29 =>
 (cutL (clearL l25 (y23 : Int).toNat ((l25.length : Int) : Int).toNat ([] : Str)) 0 y23).bind fun m33 =>
 some (.ret m33)) else
 some (.go (w64 (z4 + (1 : Int))))) else
 some (.brk z4)
def slices_Compact_string_string (fu : Nat) (a0 : List Str) : Option (List Str) :=
 bif decide ((a0.length : Int) < (2 : Int)) then (some a0) else
 andThen (whileM (slices_Compact_string_string_B0 fu a0) fu (1 : Int)) fun y5 =>
 some a0
def synod_Chosen_B0 (a0 : Synod) (i11 : Nat) (z11 : (List Str)) : Option (List Str) :=
 (lat a0.Rounds (i11 : Int)).bind fun x16 =>
 (synod_majority x16.Voted (a0.Voters.length : Int)).bind fun r21 =>
 bif r21 then ((room z11 ([x16.Text] : List Str)).bind fun u28 =>
 some (z11 ++ ([x16.Text] : List Str))) else
 some z11
def synod_Chosen (fu : Nat) (a0 : Synod) : Option ((List Str) × Int) :=
 (synod_Check a0).bind fun r4 =>
 bif r4 != (0 : Int) then (some (([] : List Str), r4)) else
 (rangeF (synod_Chosen_B0 a0) a0.Rounds.length 0 ([] : List Str)).bind fun l13 =>
 (slices_Sort_string_string fu l13).bind fun r31 =>
 (slices_Compact_string_string fu r31).bind fun r35 =>
 some (r35, (0 : Int))
def slices_Equal_api_Voter_api_Voter_B0 (a0 : List Voter) (a1 : List Voter) (i2 : Nat) (z2 : Unit) : Option (Ctl Unit Bool) :=
 (lat a0 (i2 : Int)).bind fun x5 =>
 (lat a1 (i2 : Int)).bind fun x8 =>
 bif !(decide (x5 = x8)) then (some (.ret false)) else
 some (.go ())
def slices_Equal_api_Voter_api_Voter (a0 : List Voter) (a1 : List Voter) : Option Bool :=
 bif (a0.length : Int) != (a1.length : Int) then (some false) else
 andThen (rangeM (slices_Equal_api_Voter_api_Voter_B0 a0 a1) a0.length 0 ()) fun _ =>
 some true
def slices_Equal_api_Round_api_Round_B0 (a0 : List Round) (a1 : List Round) (i2 : Nat) (z2 : Unit) : Option (Ctl Unit Bool) :=
 (lat a0 (i2 : Int)).bind fun x5 =>
 (lat a1 (i2 : Int)).bind fun x8 =>
 bif !(decide (x5 = x8)) then (some (.ret false)) else
 some (.go ())
def slices_Equal_api_Round_api_Round (a0 : List Round) (a1 : List Round) : Option Bool :=
 bif (a0.length : Int) != (a1.length : Int) then (some false) else
 andThen (rangeM (slices_Equal_api_Round_api_Round_B0 a0 a1) a0.length 0 ()) fun _ =>
 some true
def partref_SameSynod (a0 : Synod) (a1 : Synod) : Option Bool :=
 (slices_Equal_api_Voter_api_Voter a0.Voters a1.Voters).bind fun r5 =>
 (bif r5 then ((slices_Equal_api_Round_api_Round a0.Rounds a1.Rounds).bind fun r12 =>
 some r12) else
 some false).bind fun y10 =>
 some y10
def slices_Index_string_string_B0 (a0 : List Str) (a1 : Str) (i1 : Nat) (z1 : Unit) : Option (Ctl Unit Int) :=
 (lat a0 (i1 : Int)).bind fun x4 =>
 bif decide (a1 = x4) then (some (.ret (i1 : Int))) else
 some (.go ())
def slices_Index_string_string (a0 : List Str) (a1 : Str) : Option Int :=
 andThen (rangeM (slices_Index_string_string_B0 a0 a1) a0.length 0 ()) fun _ =>
 some (-1 : Int)
def slices_Contains_string_string (a0 : List Str) (a1 : Str) : Option Bool :=
 (slices_Index_string_string a0 a1).bind fun r1 =>
 some (decide (r1 ≥ (0 : Int)))
def partref_Chosen_B0 (fu : Nat) (a0 : Synod) (i5 : Nat) (z5 : (List Str)) : Option (List Str) :=
 (lat a0.Rounds (i5 : Int)).bind fun x10 =>
 (partref_size fu (BitVec.ofInt 16 (x10.Voted.toNat : Int))).bind fun r15 =>
 (bif decide ((w64 ((2 : Int) * r15)) > (a0.Voters.length : Int)) then ((slices_Contains_string_string z5 x10.Text).bind fun r22 =>
 some (!r22)) else
 some false).bind fun y20 =>
 bif y20 then ((room z5 ([x10.Text] : List Str)).bind fun u29 =>
 some (z5 ++ ([x10.Text] : List Str))) else
 some z5
def partref_Chosen (fu : Nat) (a0 : Synod) : Option (List Str) :=
 (rangeF (partref_Chosen_B0 fu a0) a0.Rounds.length 0 ([] : List Str)).bind fun l7 =>
 (slices_Sort_string_string fu l7).bind fun r32 =>
 some r32
def slices_Equal_string_string_B0 (a0 : List Str) (a1 : List Str) (i2 : Nat) (z2 : Unit) : Option (Ctl Unit Bool) :=
 (lat a0 (i2 : Int)).bind fun x5 =>
 (lat a1 (i2 : Int)).bind fun x8 =>
 bif !(decide (x5 = x8)) then (some (.ret false)) else
 some (.go ())
def slices_Equal_string_string (a0 : List Str) (a1 : List Str) : Option Bool :=
 bif (a0.length : Int) != (a1.length : Int) then (some false) else
 andThen (rangeM (slices_Equal_string_string_B0 a0 a1) a0.length 0 ()) fun _ =>
 some true
def partref_SynodStep_1 (a0 : Round) (a1 : Act) : Option Bool :=
 some (a0.Ballot == a1.Ballot)
def slices_IndexFunc_api_Round_api_Round_SynodStep_1_B0 (a0 : List Round) (a1_c0 : Act) (i2 : Nat) (z2 : Unit) : Option (Ctl Unit Int) :=
 (lat a0 (i2 : Int)).bind fun x5 =>
 (partref_SynodStep_1 x5 a1_c0).bind fun r8 =>
 bif r8 then (some (.ret (i2 : Int))) else
 some (.go ())
def slices_IndexFunc_api_Round_api_Round_SynodStep_1 (a0 : List Round) (a1_c0 : Act) : Option Int :=
 andThen (rangeM (slices_IndexFunc_api_Round_api_Round_SynodStep_1_B0 a0 a1_c0) a0.length 0 ()) fun _ =>
 some (-1 : Int)
def partref_SynodStep (fu : Nat) (a0 : Synod) (a1 : Act) : Option (Synod × Int) :=
 (slices_IndexFunc_api_Round_api_Round_SynodStep_1 a0.Rounds a1).bind fun r9 =>
 (slices_Clone_api_Voter_api_Voter a0.Voters).bind fun r13 =>
 (slices_Clone_api_Round_api_Round a0.Rounds).bind fun r19 =>
 Let (([] : List Round), ([] : List Voter), r19, r13) fun (l32, l34, l36, l38) =>
 bif a1.Kind == (1 : Int) then (bif decide (r9 ≥ (0 : Int)) then (some (({ Synod.zero with Voters := ([] : List Voter), Rounds := ([] : List Round) } : Synod), (7 : Int))) else
 bif (a0.Rounds.length : Int) == (30 : Int) then (some (({ Synod.zero with Voters := ([] : List Voter), Rounds := ([] : List Round) } : Synod), (8 : Int))) else
 (room l36 ([({ Round.zero with Ballot := a1.Ballot, Text := a1.Text } : Round)] : List Round)).bind fun u70 =>
 some (({ Synod.zero with Voters := l38, Rounds := l36 ++ ([({ Round.zero with Ballot := a1.Ballot, Text := a1.Text } : Round)] : List Round) } : Synod), (0 : Int))) else
 bif decide (r9 < (0 : Int)) then (some (({ Synod.zero with Voters := ([] : List Voter), Rounds := ([] : List Round) } : Synod), (6 : Int))) else
 (lat l36 r9).bind fun x76 =>
 (lat l38 a1.Who).bind fun x79 =>
 (cnt a1.Who).bind fun n82 =>
 ((bif a1.Kind == (2 : Int) then (some (decide (x79.Promised < a1.Ballot))) else
 some false).bind fun y90 =>
 bif y90 then (Let (l38.set a1.Who.toNat ({ x79 with Promised := a1.Ballot } : Voter)) fun p93 =>
 bif x76.Asked then (some (({ Synod.zero with Voters := p93, Rounds := l36 } : Synod), l36, p93)) else
 Let (l36.set r9.toNat ({ x76 with Promised := x76.Promised ||| ((1 : BitVec 8) <<< n82) } : Round)) fun p96 =>
 (lat p93 a1.Who).bind fun x98 =>
 (lat p96 r9).bind fun x101 =>
 bif decide (x98.Voted > x101.Best) then ((lat p93 a1.Who).bind fun x105 =>
 (lat p93 a1.Who).bind fun x108 =>
 (lat p96 r9).bind fun x111 =>
 Let (p96.set r9.toNat ({ x111 with Best := x105.Voted } : Round)) fun p114 =>
 Let p114 fun l117 =>
 (lat l117 r9).bind fun x125 =>
 Let (l117.set r9.toNat ({ x125 with Text := x108.Text } : Round)) fun p128 =>
 some (({ Synod.zero with Voters := p93, Rounds := p128 } : Synod), p128, p93)) else
 some (({ Synod.zero with Voters := p93, Rounds := p96 } : Synod), p96, p93)) else
 (bif a1.Kind == (3 : Int) then ((partref_size fu (BitVec.ofInt 16 (x76.Promised.toNat : Int))).bind fun r133 =>
 some (decide ((w64 ((2 : Int) * r133)) > (a0.Voters.length : Int)))) else
 some false).bind fun y131 =>
 bif y131 then (Let (l36.set r9.toNat ({ x76 with Asked := true } : Round)) fun p138 =>
 some (({ Synod.zero with Voters := l38, Rounds := p138 } : Synod), p138, l38)) else
 (bif a1.Kind == (4 : Int) then (some x76.Asked) else
 some false).bind fun y141 =>
 (bif y141 then (some (decide (x79.Promised ≤ a1.Ballot))) else
 some false).bind fun y144 =>
 bif y144 then (Let (l36.set r9.toNat ({ x76 with Voted := x76.Voted ||| ((1 : BitVec 8) <<< n82) } : Round)) fun p147 =>
 (lat p147 r9).bind fun x149 =>
 Let (l38.set a1.Who.toNat ({ Voter.zero with Promised := a1.Ballot, Voted := a1.Ballot, Text := x149.Text } : Voter)) fun p152 =>
 some (({ Synod.zero with Voters := p152, Rounds := p147 } : Synod), p147, p152)) else
 some (({ Synod.zero with Voters := l38, Rounds := l36 } : Synod), l36, l38)).bind fun (y85, l86, l87) =>
 some (({ y85 with Voters := l87, Rounds := l86 } : Synod), (0 : Int))
def partlaw_SynodSays (fu : Nat) (a0 : Synod) (a1 : Act) : Option Bool :=
 (partref_SynodErr fu a0).bind fun r5 =>
 (synod_Step a0 a1).bind fun r9 =>
 (synod_Chosen fu a0).bind fun r21 =>
 (synod_Check a0).bind fun r27 =>
 bif r27 != r5 then (some false) else
 bif r5 != (0 : Int) then ((partref_SameSynod r9.1 Synod.zero).bind fun r33 =>
 (bif r33 then (some (r9.2 == r5)) else
 some false).bind fun y38 =>
 (bif y38 then (some ((r21.1.length : Int) == (0 : Int))) else
 some false).bind fun y43 =>
 (bif y43 then (some (r21.2 == r5)) else
 some false).bind fun y48 =>
 some y48) else
 (partref_Chosen fu a0).bind fun r52 =>
 (slices_Equal_string_string r21.1 r52).bind fun r58 =>
 (bif !r58 then (some true) else
 some (r21.2 != (0 : Int))).bind fun y63 =>
 bif y63 then (some false) else
 (bif decide (a1.Kind < (1 : Int)) then (some true) else
 some (decide (a1.Kind > (4 : Int)))).bind fun y69 =>
 (bif y69 then (some true) else
 some (decide (a1.Ballot < (1 : Int)))).bind fun y74 =>
 (bif y74 then (some true) else
 some (decide (a1.Ballot > (16777215 : Int)))).bind fun y79 =>
 (bif y79 then (some true) else
 some (decide (a1.Who < (0 : Int)))).bind fun y84 =>
 (bif y84 then (some true) else
 some (decide (a1.Who ≥ (a0.Voters.length : Int)))).bind fun y89 =>
 bif y89 then ((partref_SameSynod r9.1 Synod.zero).bind fun r94 =>
 (bif r94 then (some (r9.2 == (1 : Int))) else
 some false).bind fun y99 =>
 some y99) else
 bif decide ((a1.Text.length : Int) > (200 : Int)) then ((partref_SameSynod r9.1 Synod.zero).bind fun r104 =>
 (bif r104 then (some (r9.2 == (2 : Int))) else
 some false).bind fun y109 =>
 some y109) else
 (partref_SynodStep fu a0 a1).bind fun r113 =>
 (partref_SameSynod r9.1 r113.1).bind fun r125 =>
 (bif r125 then (some (r9.2 == r113.2)) else
 some false).bind fun y130 =>
 some y130
end Go.Proofs.Ytnljiedichjagaa
