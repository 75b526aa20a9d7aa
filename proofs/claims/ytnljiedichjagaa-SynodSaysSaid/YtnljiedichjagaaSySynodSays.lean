/-
  SynodSays: the plain law.
-/
import Derived.Test.YtnljiedichjagaaSyLib
import Derived.Test.YtnljiedichjagaaSyBits8
import Derived.Test.YtnljiedichjagaaSySortS
namespace Go.Proofs.Ytnljiedichjagaa
open Enc

theorem sin_eq (a b c : Int) : synod_in a b c = some (decide (a ≥ b) && decide (a ≤ c)) := by
  unfold synod_in
  rw [and_some, Option.bind_some]
theorem sames_eq (a b : Synod) : partref_SameSynod a b = some (decide (a = b)) := by
  unfold partref_SameSynod
  simp only [eq_slices_Equal_api_Voter_api_Voter, eq_slices_Equal_api_Round_api_Round, Option.bind_some, and_some]
  congr 1
  cases a; cases b
  rw [Bool.eq_iff_iff]; simp
theorem cut_take {α : Type} {l : List α} {i : Nat} (h : i ≤ l.length) : cutL l 0 (i : Int) = some (l.take i) := by
  unfold cutL; rw [if_pos (by omega)]; simp
theorem cnt_n (n : Nat) : cnt (n : Int) = some n := by unfold cnt; rw [if_pos (by omega)]; simp
def maj (x : BitVec 8) (n : Int) : Bool := decide (2 * (one8 x : Int) > n)
theorem maj_eq (x : BitVec 8) (n : Int) : synod_majority x n = some (maj x n) := by
  unfold synod_majority
  have := one8_le x
  rw [count8, Option.bind_some, w64_id (by omega) (by omega)]; rfl
theorem rmaj_eq {fu : Nat} (hfu : 2 ^ 16 < fu) (x : BitVec 8) (n : Int) : ((partref_size fu (BitVec.ofInt 16 (x.toNat : Int))).bind fun r => some (decide ((w64 ((2 : Int) * r)) > n))) = some (maj x n) := by
  have := one8_le x
  rw [size8 hfu, Option.bind_some, w64_id (by omega) (by omega)]; rfl
theorem rmin_eq {fu : Nat} (hfu : 2 ^ 16 < fu) (x : BitVec 8) (n : Int) : ((partref_size fu (BitVec.ofInt 16 (x.toNat : Int))).bind fun r => some (decide ((w64 ((2 : Int) * r)) ≤ n))) = some (!maj x n) := by
  have := one8_le x
  rw [size8 hfu, Option.bind_some, w64_id (by omega) (by omega)]
  unfold maj
  congr 1
  rw [Bool.eq_iff_iff]; simp

/-! ### Bits -/
def tb (x : BitVec 8) (k : Nat) : Bool := x.toNat.testBit k
theorem one8v : ((1 : BitVec 8).toNat : Int) = 1 := rfl
theorem zero8v : ((0 : BitVec 8).toNat : Int) = 0 := rfl
theorem tb_mod (x : BitVec 8) (k : Nat) : ((((x >>> k) % (2 : BitVec 8)).toNat : Int) == ((1 : BitVec 8).toNat : Int)) = tb x k := by
  have e : ((x >>> k) % (2 : BitVec 8)).toNat = x.toNat / 2 ^ k % 2 := by
    rw [BitVec.toNat_umod, BitVec.toNat_ushiftRight, Nat.shiftRight_eq_div_pow]; rfl
  rw [e, one8v, Bool.eq_iff_iff]
  unfold tb
  rw [Nat.testBit_eq_decide_div_mod_eq, beq_iff_eq, decide_eq_true_eq]
  generalize x.toNat / 2 ^ k = m
  omega
theorem tb_and (x : BitVec 8) (k : Nat) : ((((x >>> k) &&& (1 : BitVec 8)).toNat : Int) == ((1 : BitVec 8).toNat : Int)) = tb x k := by
  have e : ((x >>> k) &&& (1 : BitVec 8)).toNat = x.toNat / 2 ^ k % 2 := by
    rw [BitVec.toNat_and, BitVec.toNat_ushiftRight, Nat.shiftRight_eq_div_pow]
    exact Nat.and_one_is_mod _
  rw [e, one8v, Bool.eq_iff_iff]
  unfold tb
  rw [Nat.testBit_eq_decide_div_mod_eq, beq_iff_eq, decide_eq_true_eq]
  generalize x.toNat / 2 ^ k = m
  omega
theorem tb_or (x y : BitVec 8) (k : Nat) : tb (x ||| y) k = (tb x k || tb y k) := by
  unfold tb
  rw [BitVec.toNat_or, Nat.testBit_or]
theorem high_or {x y : BitVec 8} {n : Nat} (hn : n ≤ 6) : ((((x ||| y) >>> n).toNat : Int) != ((0 : BitVec 8).toNat : Int)) = (decide ((x.toNat : Int) ≥ w64 ((1 : Int) * 2 ^ (min n 64))) || decide ((y.toNat : Int) ≥ w64 ((1 : Int) * 2 ^ (min n 64)))) := by
  have hp : (2 : Int) ^ (min n 64) = ((2 ^ n : Nat) : Int) := by rw [Nat.min_eq_left (by omega)]; push_cast; rfl
  have hb : 2 ^ n ≤ 64 := Nat.pow_le_pow_right (by omega) hn
  have e : (x.toNat ||| y.toNat) / 2 ^ n = 0 ↔ x.toNat < 2 ^ n ∧ y.toNat < 2 ^ n := by
    rw [Nat.div_eq_zero_iff]
    constructor
    · rintro (h | h)
      · have := Nat.two_pow_pos n; omega
      · have h1 : x.toNat ≤ x.toNat ||| y.toNat := Nat.left_le_or
        have h2 : y.toNat ≤ x.toNat ||| y.toNat := Nat.right_le_or
        omega
    · rintro ⟨h1, h2⟩
      exact .inr (Nat.or_lt_two_pow h1 h2)
  rw [hp, Int.one_mul, BitVec.toNat_ushiftRight, BitVec.toNat_or, Nat.shiftRight_eq_div_pow, zero8v]
  generalize (x.toNat ||| y.toNat) / 2 ^ n = q at e
  generalize 2 ^ n = m at hb e
  rw [w64_id (by omega) (by omega), Bool.eq_iff_iff, bne_iff_ne]
  simp only [ge_iff_le, Bool.or_eq_true, decide_eq_true_eq, ne_eq]
  constructor
  · intro h
    refine Classical.byContradiction fun hh => h ?_
    have := e.2 ⟨by omega, by omega⟩
    omega
  · intro h k
    have := e.1 (by omega)
    omega

/-! ### The codes of rounds -/
def rb1 (r : Round) : Bool := ((decide (r.Ballot < 1) || decide (r.Ballot > 16777215)) || decide (r.Best < 0)) || decide (r.Best ≥ r.Ballot)
def rb4 (s : Synod) (i : Nat) (r : Round) : Bool := ((((s.Rounds.take i).any fun x => x.Ballot == r.Ballot) || ((((r.Promised ||| r.Voted) >>> s.Voters.length).toNat : Int) != ((0 : BitVec 8).toNat : Int))) || (((r.Voted.toNat : Int) != ((0 : BitVec 8).toNat : Int)) && !r.Asked)) || (r.Asked && !maj r.Promised (s.Voters.length : Int))
def rcode (s : Synod) (i : Nat) (r : Round) : Int := bif rb1 r then 1 else bif rb4 s i r then 4 else 0
theorem round_eq {s : Synod} {i : Nat} {r : Round} (hr : s.Rounds[i]? = some r) : synod_round s (i : Int) = some (rcode s i r) := by
  have hi := (List.getElem?_eq_some_iff.1 hr).1
  unfold synod_round
  rw [lat_nat, hr, Option.bind_some]
  simp only [sin_eq, Option.bind_some, or_some]
  have e1 : (!(decide (r.Ballot ≥ 1) && decide (r.Ballot ≤ 16777215)) || !(decide (r.Best ≥ 0) && decide (r.Best ≤ w64 (r.Ballot - 1)))) = rb1 r := by
    unfold rb1
    by_cases h : 1 ≤ r.Ballot ∧ r.Ballot ≤ 16777215
    · rw [w64_id (by omega) (by omega), Bool.eq_iff_iff]; simp; omega
    · have e1 : (decide (r.Ballot ≥ 1) && decide (r.Ballot ≤ 16777215)) = false := by rw [Bool.eq_false_iff]; simp; omega
      have e2 : (decide (r.Ballot < 1) || decide (r.Ballot > 16777215)) = true := by simp; omega
      rw [e1, e2]; rfl
  rw [e1, cut_take (by omega), Option.bind_some, eq_slices_ContainsFunc_api_Round_api_Round_round_1 _ _ (fun x => x.Ballot == r.Ballot) (fun x _ => rfl), Option.bind_some, cnt_n, Option.bind_some, and_some, Option.bind_some, maj_eq, Option.bind_some, and_some, Option.bind_some]
  unfold rcode rb4
  cases rb1 r
  · cases (s.Rounds.take i).any fun x => x.Ballot == r.Ballot
    · cases (((r.Promised ||| r.Voted) >>> s.Voters.length).toNat : Int) != ((0 : BitVec 8).toNat : Int)
      · cases ((r.Voted.toNat : Int) != ((0 : BitVec 8).toNat : Int)) && !r.Asked
        · cases r.Asked && !maj r.Promised (s.Voters.length : Int) <;> rfl
        · rfl
      · rfl
    · rfl
  · rfl
theorem rround_eq {s : Synod} {i fu : Nat} {r : Round} (hfu : 2 ^ 16 < fu) (hn : s.Voters.length ≤ 6) (hr : s.Rounds[i]? = some r) : partref_SynodErr_B0 fu s i () = some (bif rcode s i r != 0 then .ret (rcode s i r) else .go ()) := by
  have hi := (List.getElem?_eq_some_iff.1 hr).1
  unfold partref_SynodErr_B0
  rw [lat_nat, hr, Option.bind_some]
  simp only [or_some, Option.bind_some, cnt_n, and_some, rmin_eq hfu]
  rw [cut_take (by omega), Option.bind_some]
  have hany : ∀ b : Bool, rangeF (partref_SynodErr_B2 r (s.Rounds.take i)) (s.Rounds.take i).length 0 b = some (b || (s.Rounds.take i).any fun x => x.Ballot == r.Ballot) := by
    intro b
    refine Tot.eq ?_
    refine Tot.rangeF (fun j (z : Bool) => z = (b || ((s.Rounds.take i).take j).any fun x => x.Ballot == r.Ballot)) (by simp) ?_ ?_
    · rintro j z _ hj rfl
      have hj : j < (s.Rounds.take i).length := by omega
      have hx : (s.Rounds.take i)[j]? = some (s.Rounds.take i)[j] := by simp only [List.getElem?_eq_getElem hj]
      generalize (s.Rounds.take i)[j] = x at hx
      unfold partref_SynodErr_B2
      rw [lat_nat, hx, Option.bind_some, or_some, Option.bind_some, Tot.some_iff, List.take_add_one, hx, List.any_append]
      simp [Bool.or_assoc]
    · rintro z rfl
      rw [Nat.zero_add, List.take_length]
  rw [hany, Option.bind_some, ← high_or hn]
  unfold rcode rb1 rb4
  have e0 : decide ((r.Voted.toNat : Int) > ((0 : BitVec 8).toNat : Int)) = ((r.Voted.toNat : Int) != ((0 : BitVec 8).toNat : Int)) := by
    rw [Bool.eq_iff_iff]; simp; omega
  rw [e0]
  cases ((decide (r.Ballot < 1) || decide (r.Ballot > 16777215)) || decide (r.Best < 0)) || decide (r.Best ≥ r.Ballot)
  · cases (s.Rounds.take i).any fun x => x.Ballot == r.Ballot <;> cases (((r.Promised ||| r.Voted) >>> s.Voters.length).toNat : Int) != ((0 : BitVec 8).toNat : Int) <;> cases (r.Voted.toNat : Int) != ((0 : BitVec 8).toNat : Int) <;> cases r.Asked <;> cases maj r.Promised (s.Voters.length : Int) <;> rfl
  · rfl

/-! ### The codes of voters -/
def lb (v : Voter) (k : Nat) (r : Round) : Bool := (tb r.Promised k || tb r.Voted k) && decide (r.Ballot > v.Promised)
def lstep (k : Nat) (z r : Round) : Round := bif tb r.Voted k && decide (r.Ballot > z.Ballot) then r else z
def lastF (k : Nat) (l : List Round) : Round := l.foldl (lstep k) Round.zero
theorem lastF_zero (k : Nat) (l : List Round) : 0 ≤ (lastF k l).Ballot ∧ ((lastF k l).Ballot = 0 → (lastF k l).Text = []) := by
  unfold lastF
  have key : ∀ (l : List Round) (z : Round), (0 ≤ z.Ballot ∧ (z.Ballot = 0 → z.Text = [])) → 0 ≤ (l.foldl (lstep k) z).Ballot ∧ ((l.foldl (lstep k) z).Ballot = 0 → (l.foldl (lstep k) z).Text = []) := by
    intro l
    induction l with
    | nil => intro z h; exact h
    | cons r l ih =>
      intro z h
      refine ih _ ?_
      unfold lstep
      cases hc : tb r.Voted k && decide (r.Ballot > z.Ballot) with
      | false => exact h
      | true =>
        simp only [Bool.and_eq_true, decide_eq_true_eq] at hc
        rw [cond_true]
        exact ⟨by omega, fun e => by omega⟩
  exact key l _ ⟨Int.le_refl _, fun _ => rfl⟩
theorem take_fold {k : Nat} {l : List Round} {j : Nat} {x : Round} (hx : l[j]? = some x) : lastF k (l.take (j + 1)) = lstep k (lastF k (l.take j)) x := by
  unfold lastF
  rw [List.take_add_one, hx, List.foldl_append]; rfl
theorem vloop {s : Synod} {k : Nat} {v : Voter} : rangeM (synod_voter_B0 s (k : Int) v) s.Rounds.length 0 Round.zero = some (bif s.Rounds.any (lb v k) then .inr 4 else .inl (lastF k s.Rounds)) := by
  refine Tot.eq ?_
  refine Tot.rangeM (fun j z => z = lastF k (s.Rounds.take j) ∧ (s.Rounds.take j).any (lb v k) = false) ⟨by simp [lastF], by simp⟩ ?_ ?_
  · rintro j _ _ hj ⟨rfl, h1⟩
    have hj : j < s.Rounds.length := by omega
    have hx : s.Rounds[j]? = some s.Rounds[j] := by simp [hj]
    generalize s.Rounds[j] = x at hx
    unfold synod_voter_B0
    rw [lat_nat, hx, Option.bind_some, cnt_n, Option.bind_some, tb_and, tb_or, and_some, Option.bind_some, Option.bind_some, tb_and, and_some, Option.bind_some, Tot.ite_iff]
    refine ⟨fun q => ?_, fun q => ?_⟩
    · rw [Tot.some_iff]
      have : s.Rounds.any (lb v k) = true := List.any_eq_true.2 ⟨x, List.mem_of_getElem? hx, q⟩
      refine Tot.ret_iff.2 ?_
      rw [this]; rfl
    · rw [Tot.ite_iff]
      have h2 : (s.Rounds.take (j + 1)).any (lb v k) = false := by
        rw [List.take_add_one, hx, List.any_append, h1]
        simpa [lb] using q
      refine ⟨fun c => Tot.some_iff.2 ⟨?_, h2⟩, fun c => Tot.some_iff.2 ⟨?_, h2⟩⟩
      · rw [take_fold hx]; unfold lstep; rw [c]; rfl
      · rw [take_fold hx]; unfold lstep; rw [c]; rfl
  · rintro z ⟨rfl, h1⟩
    rw [Nat.zero_add, List.take_length] at h1
    rw [h1, Nat.zero_add, List.take_length]; rfl
theorem rvloop {s : Synod} {k : Nat} {v : Voter} : rangeM (partref_SynodErr_B6 s k v) s.Rounds.length 0 ((0 : Int), ([] : Str), v.Promised == (0 : Int)) = some (bif s.Rounds.any (lb v k) then .inr (.ret 4) else .inl ((lastF k s.Rounds).Ballot, (lastF k s.Rounds).Text, (v.Promised == 0) || s.Rounds.any fun r => r.Ballot == v.Promised)) := by
  refine Tot.eq ?_
  refine Tot.rangeM (fun j z => z = ((lastF k (s.Rounds.take j)).Ballot, (lastF k (s.Rounds.take j)).Text, (v.Promised == 0) || (s.Rounds.take j).any fun r => r.Ballot == v.Promised) ∧ (s.Rounds.take j).any (lb v k) = false) ⟨by simp [lastF]; exact ⟨rfl, rfl⟩, by simp⟩ ?_ ?_
  · rintro j _ _ hj ⟨rfl, h1⟩
    have hj : j < s.Rounds.length := by omega
    have hx : s.Rounds[j]? = some s.Rounds[j] := by simp [hj]
    generalize s.Rounds[j] = x at hx
    unfold partref_SynodErr_B6
    simp only
    rw [lat_nat, hx, Option.bind_some, cnt_n]
    simp only [Option.bind_some, tb_mod, or_some, and_some]
    rw [Tot.ite_iff]
    refine ⟨fun q => ?_, fun q => ?_⟩
    · rw [Tot.some_iff]
      have : s.Rounds.any (lb v k) = true := List.any_eq_true.2 ⟨x, List.mem_of_getElem? hx, by unfold lb; rw [Bool.or_comm]; exact q⟩
      refine Tot.ret_iff.2 ?_
      rw [this]; rfl
    · have h2 : (s.Rounds.take (j + 1)).any (lb v k) = false := by
        rw [List.take_add_one, hx, List.any_append, h1]
        rw [Bool.or_comm (tb x.Voted k)] at q
        simpa [lb] using q
      have h3 : ((s.Rounds.take (j + 1)).any fun r => r.Ballot == v.Promised) = (((s.Rounds.take j).any fun r => r.Ballot == v.Promised) || (x.Ballot == v.Promised)) := by
        rw [List.take_add_one, hx, List.any_append]; simp
      rw [cond_some, Option.bind_some, Tot.some_iff]
      refine Tot.go_iff.2 ⟨?_, h2⟩
      rw [take_fold hx, h3, Bool.or_assoc]
      unfold lstep
      cases tb x.Voted k && decide (x.Ballot > (lastF k (s.Rounds.take j)).Ballot) <;> rfl
  · rintro z ⟨rfl, h1⟩
    rw [Nat.zero_add, List.take_length] at h1
    rw [h1, Nat.zero_add, List.take_length]; rfl
theorem find_eq (s : Synod) (b : Int) : synod_find s b = some (idxI (fun r : Round => r.Ballot == b) s.Rounds) := by
  unfold synod_find
  rw [eq_slices_IndexFunc_api_Round_api_Round_find_1 _ _ (fun r : Round => r.Ballot == b) (fun x _ => rfl)]; rfl
theorem find_neg (s : Synod) (b : Int) : decide (idxI (fun r : Round => r.Ballot == b) s.Rounds < 0) = !s.Rounds.any fun r => r.Ballot == b := by
  rw [← idxI_any, Bool.eq_iff_iff]; simp
def vb1 (v : Voter) : Bool := (decide (v.Promised < 0) || decide (v.Voted < 0)) || decide (v.Voted > v.Promised)
def vb4 (s : Synod) (k : Nat) (v : Voter) : Bool := s.Rounds.any (lb v k) || ((!((v.Promised == 0) || s.Rounds.any fun r => r.Ballot == v.Promised) || ((lastF k s.Rounds).Ballot != v.Voted)) || !decide ((lastF k s.Rounds).Text = v.Text))
def vcode (s : Synod) (k : Nat) (v : Voter) : Int := bif vb1 v then 1 else bif vb4 s k v then 4 else 0
theorem rvoter_eq {s : Synod} {k : Nat} {v : Voter} (hv : s.Voters[k]? = some v) : partref_SynodErr_B4 s k () = some (bif vcode s k v != 0 then .ret (vcode s k v) else .go ()) := by
  unfold partref_SynodErr_B4
  rw [lat_nat, hv, Option.bind_some]
  simp only [or_some, Option.bind_some, rvloop]
  unfold vcode vb1 vb4
  cases ((decide (v.Promised < 0) || decide (v.Voted < 0)) || decide (v.Voted > v.Promised))
  · cases s.Rounds.any (lb v k)
    · simp only [cond_false, andThen_inl, Bool.false_or]
      cases ((!((v.Promised == 0) || s.Rounds.any fun r => r.Ballot == v.Promised) || ((lastF k s.Rounds).Ballot != v.Voted)) || !decide ((lastF k s.Rounds).Text = v.Text)) <;> rfl
    · rfl
  · rfl
theorem voter_eq {s : Synod} {k : Nat} {v : Voter} (hv : s.Voters[k]? = some v) : synod_voter s (k : Int) = some (vcode s k v) := by
  unfold synod_voter
  rw [lat_nat, hv, Option.bind_some]
  simp only [or_some, and_some, Option.bind_some, vloop, find_eq, find_neg]
  obtain ⟨z1, z2⟩ := lastF_zero k s.Rounds
  unfold vcode vb1
  cases hb : ((decide (v.Promised < 0) || decide (v.Voted < 0)) || decide (v.Voted > v.Promised)) with
  | true => rfl
  | false =>
    rw [cond_false, cond_false]
    simp only [Bool.or_eq_false_iff, decide_eq_false_iff_not] at hb
    unfold vb4
    generalize lastF k s.Rounds = z at z1 z2
    cases hl : s.Rounds.any (lb v k) with
    | true =>
      rw [Bool.true_or]
      cases (v.Voted == 0) && !decide (v.Text = []) <;> cases decide (v.Promised > 0) && !s.Rounds.any fun r => r.Ballot == v.Promised <;> rfl
    | false =>
      rw [Bool.false_or, cond_false]
      simp only [andThen_inl]
      cases hk : s.Rounds.any fun r => r.Ballot == v.Promised with
      | true =>
        simp only [Bool.or_true, Bool.not_true, Bool.false_or, Bool.and_false, cond_false]
        by_cases hm : v.Voted = z.Ballot
        · rw [← hm]
          simp only [bne_self_eq_false, cond_false, Bool.false_or]
          by_cases h0 : v.Voted = 0
          · have := z2 (by omega)
            rw [h0, this]
            simp only [beq_self_eq_true, Bool.true_and, show decide ((0 : Int) > 0) = false from rfl, Bool.false_and, cond_false]
            by_cases ht : v.Text = []
            · simp [ht]
            · have : ¬ ([] : Str) = v.Text := fun e => ht e.symm
              simp [ht, this]
          · rw [show (v.Voted == 0) = false from by simpa using h0, decide_eq_true (show v.Voted > 0 by omega)]
            simp only [Bool.false_and, Bool.true_and, cond_false]
            rw [show decide (z.Text = v.Text) = decide (v.Text = z.Text) from by rw [Bool.eq_iff_iff]; simp [eq_comm]]
            cases decide (v.Text = z.Text) <;> rfl
        · have e1 : (v.Voted != z.Ballot) = true := by simpa using hm
          have e2 : (z.Ballot != v.Voted) = true := by simp; exact fun e => hm e.symm
          rw [e1, e2]
          cases (v.Voted == 0) && !decide (v.Text = []) <;> rfl
      | false =>
        simp only [Bool.or_false, Bool.not_false, Bool.and_true]
        by_cases hp : v.Promised = 0
        · have hv0 : v.Voted = 0 := by omega
          rw [hp, hv0]
          simp only [beq_self_eq_true, Bool.not_true, Bool.false_or, show decide ((0 : Int) > 0) = false from rfl, cond_false, Bool.true_and]
          by_cases hm : z.Ballot = 0
          · have := z2 hm
            rw [hm, this]
            simp only [bne_self_eq_false, cond_false, Bool.false_or, show decide ((0 : Int) > 0) = false from rfl, Bool.false_and]
            by_cases ht : v.Text = []
            · simp [ht]
            · have : ¬ ([] : Str) = v.Text := fun e => ht e.symm
              simp [ht, this]
          · have e1 : ((0 : Int) != z.Ballot) = true := by simp; exact fun e => hm e.symm
            have e2 : (z.Ballot != 0) = true := by simpa using hm
            rw [e1, e2]
            cases !decide (v.Text = []) <;> rfl
        · rw [show (v.Promised == 0) = false from by simpa using hp, decide_eq_true (show v.Promised > 0 by omega)]
          cases (v.Voted == 0) && !decide (v.Text = []) <;> rfl

/-! ### The code -/
structure SOk (s : Synod) : Prop where
  v : 1 ≤ s.Voters.length ∧ s.Voters.length ≤ 6
  r : s.Rounds.length ≤ 30
theorem codes_law (s : Synod) {fu : Nat} (hfu : 2 ^ 16 < fu) : ∃ c, synod_Check s = some c ∧ partref_SynodErr fu s = some c ∧ (c = 0 → SOk s) := by
  unfold synod_Check partref_SynodErr
  simp only [sin_eq, Option.bind_some, or_some]
  have e1 : (!(decide ((s.Voters.length : Int) ≥ 1) && decide ((s.Voters.length : Int) ≤ 6)) || decide ((s.Rounds.length : Int) > 30)) = ((decide ((s.Voters.length : Int) < 1) || decide ((s.Voters.length : Int) > 6)) || decide ((s.Rounds.length : Int) > 30)) := by
    rw [Bool.eq_iff_iff]; simp <;> omega
  rw [e1]
  cases hb : ((decide ((s.Voters.length : Int) < 1) || decide ((s.Voters.length : Int) > 6)) || decide ((s.Rounds.length : Int) > 30)) with
  | true => exact ⟨1, rfl, rfl, fun h => by cases h⟩
  | false =>
    simp only [Bool.or_eq_false_iff, decide_eq_false_iff_not] at hb
    have hok : SOk s := ⟨by omega, by omega⟩
    rw [cond_false, cond_false]
    have hs1 : rangeM (synod_Check_B0 s) s.Rounds.length 0 () = rangeM (partref_SynodErr_B0 fu s) s.Rounds.length 0 () := same_loop fun j _ hj => by
      have hj : j < s.Rounds.length := by omega
      have hx : s.Rounds[j]? = some s.Rounds[j] := by simp [hj]
      rw [rround_eq hfu hok.v.2 hx]
      unfold synod_Check_B0
      rw [round_eq hx, Option.bind_some, cond_some]
    have hs2 : rangeM (synod_Check_B2 s) s.Voters.length 0 () = rangeM (partref_SynodErr_B4 s) s.Voters.length 0 () := same_loop fun j _ hj => by
      have hj : j < s.Voters.length := by omega
      have hx : s.Voters[j]? = some s.Voters[j] := by simp [hj]
      rw [rvoter_eq hx]
      unfold synod_Check_B2
      rw [voter_eq hx, Option.bind_some, cond_some]
    rw [hs1, hs2]
    obtain ⟨o1, e1, _⟩ := look_some (f := partref_SynodErr_B0 fu s) (k := s.Rounds.length) (i := 0) fun j _ hj => by
      have hj : j < s.Rounds.length := by omega
      have hx : s.Rounds[j]? = some s.Rounds[j] := by simp [hj]
      rw [rround_eq hfu hok.v.2 hx]
      cases rcode s j s.Rounds[j] != 0
      · exact .inl rfl
      · exact .inr ⟨_, rfl⟩
    obtain ⟨o2, e2, _⟩ := look_some (f := partref_SynodErr_B4 s) (k := s.Voters.length) (i := 0) fun j _ hj => by
      have hj : j < s.Voters.length := by omega
      have hx : s.Voters[j]? = some s.Voters[j] := by simp [hj]
      rw [rvoter_eq hx]
      cases vcode s j s.Voters[j] != 0
      · exact .inl rfl
      · exact .inr ⟨_, rfl⟩
    rw [e1, e2]
    cases o1 with
    | inr t => exact ⟨t, rfl, rfl, fun _ => hok⟩
    | inl u =>
      cases o2 with
      | inr t => exact ⟨t, rfl, rfl, fun _ => hok⟩
      | inl u => exact ⟨0, rfl, rfl, fun _ => hok⟩

/-! ### The step -/
theorem lat_set {α : Type} {l : List α} {k : Nat} {x : α} (h : k < l.length) : lat (l.set k x) (k : Int) = some x := by rw [lat_nat, List.getElem?_set_self h]
theorem set_same {α : Type} {l : List α} {k : Nat} {x : α} (h : l[k]? = some x) : l.set k x = l := by
  apply List.ext_getElem?
  intro j
  by_cases e : j = k
  · subst e; rw [List.getElem?_set_self (List.getElem?_eq_some_iff.1 h).1, h]
  · rw [List.getElem?_set_ne (Ne.symm e)]
theorem step_law {s : Synod} {a : Act} {fu : Nat} (hfu : 2 ^ 16 < fu) (h : SOk s) (hc : synod_Check s = some 0) (hk : 1 ≤ a.Kind ∧ a.Kind ≤ 4) (hb : 1 ≤ a.Ballot ∧ a.Ballot ≤ 16777215) (hw : 0 ≤ a.Who ∧ a.Who < s.Voters.length) (ht : a.Text.length ≤ 200) :
    ∃ r, synod_Step s a = some r ∧ partref_SynodStep fu s a = some r := by
  obtain ⟨hv, hr⟩ := h
  obtain ⟨who, hwho⟩ := int_nat hw.1
  have hwn : who < s.Voters.length := by omega
  have hvx : s.Voters[who]? = some s.Voters[who] := by simp [hwn]
  generalize s.Voters[who] = v at hvx
  unfold synod_Step partref_SynodStep
  rw [hc, Option.bind_some]
  simp only [bne_self_eq_false, cond_false]
  rw [find_eq, Option.bind_some, sin_eq, sin_eq, sin_eq, eq_slices_IndexFunc_api_Round_api_Round_SynodStep_1 _ _ (fun r => r.Ballot == a.Ballot) (fun x _ => rfl)]
  simp only [Option.bind_some, or_some]
  have e0 : ((!(decide (a.Kind ≥ 1) && decide (a.Kind ≤ 4)) || !(decide (a.Ballot ≥ 1) && decide (a.Ballot ≤ 16777215))) || !(decide (a.Who ≥ 0) && decide (a.Who ≤ w64 ((s.Voters.length : Int) - 1)))) = false := by
    rw [w64_id (by omega) (by omega)]; simp; omega
  rw [e0, cond_false, decide_eq_false (show ¬ (a.Text.length : Int) > 200 by omega), cond_false]
  rw [eq_slices_Clone_api_Voter_api_Voter (by omega), eq_slices_Clone_api_Round_api_Round (by omega)]
  simp only [and_some, Option.bind_some, Let_eq]
  by_cases k1 : a.Kind = 1
  · rw [k1]
    simp only [beq_self_eq_true, Bool.true_and, bne_self_eq_false, Bool.false_and, cond_false, cond_true]
    cases decide (idxI (fun r : Round => r.Ballot == a.Ballot) s.Rounds ≥ 0)
    · cases (s.Rounds.length : Int) == 30
      · simp only [cond_false]
        rw [room_ok (by simp; omega)]
        exact ⟨_, rfl, rfl⟩
      · exact ⟨_, rfl, rfl⟩
    · exact ⟨_, rfl, rfl⟩
  · have n1 : (a.Kind == 1) = false := by simpa using k1
    have n2 : (a.Kind != 1) = true := by simpa using k1
    rw [n1, n2]
    simp only [Bool.false_and, Bool.true_and, cond_false]
    rcases idxI_cases (fun r : Round => r.Ballot == a.Ballot) s.Rounds with ⟨e, _⟩ | ⟨k, r, e, hrx, _, _⟩
    · rw [e]
      exact ⟨_, rfl, rfl⟩
    · have hkl := (List.getElem?_eq_some_iff.1 hrx).1
      rw [e, decide_eq_false (show ¬ (k : Int) < 0 by omega)]
      simp only [cond_false]
      rw [lat_nat, hrx, hwho, lat_nat, hvx]
      simp only [Option.bind_some, cnt_n]
      unfold synod_act
      simp only [hwho, Int.toNat_natCast]
      rw [lat_nat, hvx]
      simp only [Option.bind_some, Let_eq, cnt_n]
      have lr : lat s.Rounds (k : Int) = some r := by rw [lat_nat, hrx]
      rcases (show a.Kind = 2 ∨ a.Kind = 3 ∨ a.Kind = 4 by omega) with k2 | k3 | k4
      · simp only [k2, beq_self_eq_true, cond_true, Bool.true_and]
        by_cases hp : v.Promised ≥ a.Ballot
        · rw [decide_eq_true hp, decide_eq_false (show ¬ v.Promised < a.Ballot by omega)]
          simp only [cond_true, cond_false]
          exact ⟨_, rfl, rfl⟩
        · rw [decide_eq_false hp, decide_eq_true (show v.Promised < a.Ballot by omega)]
          simp only [cond_true, cond_false, lr, Option.bind_some, lat_set hwn]
          cases r.Asked
          · simp only [cond_false, lat_set hkl, Option.bind_some]
            cases decide (v.Voted > r.Best)
            · exact ⟨_, rfl, rfl⟩
            · simp only [cond_true, List.set_set]
              rw [lat_set hkl]
              exact ⟨_, rfl, rfl⟩
          · exact ⟨_, rfl, rfl⟩
      · simp only [k3, beq_self_eq_true, cond_true, Bool.true_and, show ((3 : Int) == 2) = false from rfl, cond_false, lr, Option.bind_some, maj_eq, or_some, Bool.false_and]
        rw [rmaj_eq hfu]
        simp only [Option.bind_some, show ((3 : Int) == 4) = false from rfl, Bool.false_and, cond_false]
        cases hm : maj r.Promised (s.Voters.length : Int)
        · simp only [Bool.or_false, cond_false]
          have : ({ r with Asked := r.Asked } : Round) = r := rfl
          rw [this, set_same hrx]
          exact ⟨_, rfl, rfl⟩
        · simp only [Bool.or_true, cond_true]
          exact ⟨_, rfl, rfl⟩
      · simp only [k4, beq_self_eq_true, cond_true, Bool.true_and, show ((4 : Int) == 2) = false from rfl, show ((4 : Int) == 3) = false from rfl, cond_false, lr, Option.bind_some, Bool.false_and, and_some]
        cases r.Asked && decide (v.Promised ≤ a.Ballot)
        · exact ⟨_, rfl, rfl⟩
        · simp only [cond_true, lat_set hwn, lat_set hkl, Option.bind_some, List.set_set]
          exact ⟨_, rfl, rfl⟩

/-! ### What is chosen -/
def Strict (l : List Str) : Prop := l.Pairwise fun x y => slt x y = true
theorem Strict.one : ∀ {l m : List Str}, Strict l → Strict m → (∀ x, x ∈ l ↔ x ∈ m) → l = m
  | [], [], _, _, _ => rfl
  | [], b :: m, _, _, h => by have := (h b).2 (by simp); simp at this
  | a :: l, [], _, _, h => by have := (h a).1 (by simp); simp at this
  | a :: l, b :: m, h1, h2, h => by
    have no : ∀ x y : Str, slt x y = true → slt y x = true → False := fun x y p q => by have := slt_trans p q; rw [slt_irr] at this; cases this
    unfold Strict at h1 h2
    rw [List.pairwise_cons] at h1 h2
    have e : a = b := by
      have k1 := (h a).1 (by simp)
      have k2 := (h b).2 (by simp)
      rw [List.mem_cons] at k1 k2
      rcases k1 with k1 | k1
      · exact k1
      · rcases k2 with k2 | k2
        · exact k2.symm
        · exact (no a b (h1.1 b k2) (h2.1 a k1)).elim
    subst e
    congr 1
    refine Strict.one h1.2 h2.2 fun x => ?_
    constructor
    · intro hx
      have := (h x).1 (by simp [hx])
      rw [List.mem_cons] at this
      rcases this with rfl | q
      · exact (no x x (h1.1 x hx) (h1.1 x hx)).elim
      · exact q
    · intro hx
      have := (h x).2 (by simp [hx])
      rw [List.mem_cons] at this
      rcases this with rfl | q
      · exact (no x x (h2.1 x hx) (h2.1 x hx)).elim
      · exact q
theorem sort_law {l : List Str} {fu : Nat} (hl : l.length ≤ 100) (hfu : 1000 ≤ fu) : Tot (slices_Sort_string_string fu l) fun r => SP 0 l.length l r ∧ Srt slt 0 l.length r := by
  unfold slices_Sort_string_string
  obtain ⟨q, eq, _⟩ := len_inst (n := l.length) (by omega)
  rw [eq, Option.bind_some, Tot.bind_iff]
  exact (pdq_inst slt_swo (by omega) (by omega)).mono fun r hr => Tot.some_iff.2 hr
theorem srt_le {l : List Str} (hs : Srt slt 0 l.length l) {i j : Nat} {x y : Str} (hij : i < j) (hx : l[i]? = some x) (hy : l[j]? = some y) : slt y x = false :=
  hs i j x y (by omega) hij (List.getElem?_eq_some_iff.1 hy).1 hx hy
theorem slt_of {x y : Str} (h : slt y x = false) (hn : x ≠ y) : slt x y = true := by
  cases hc : slt x y with
  | true => rfl
  | false => exact absurd (slt_total hc h) hn
/-- A sorted list without its repetitions, up to i. -/
structure Ded (l m : List Str) (i : Nat) : Prop where
  st : Strict m
  mem : ∀ x, x ∈ m ↔ x ∈ l.take i
theorem Ded.next {l m : List Str} {i : Nat} {x : Str} (h : Ded l m i) (hs : Srt slt 0 l.length l) (hx : l[i]? = some x) (hn : ∀ y, l[i - 1]? = some y → 0 < i → y ≠ x) : Ded l (m ++ [x]) (i + 1) := by
  have hil := (List.getElem?_eq_some_iff.1 hx).1
  refine ⟨?_, fun y => ?_⟩
  · unfold Strict
    rw [List.pairwise_append]
    refine ⟨h.st, .cons (by simp) .nil, fun a ha b hb => ?_⟩
    rw [List.mem_singleton.1 hb]
    obtain ⟨j, hj⟩ := List.getElem?_of_mem ((h.mem a).1 ha)
    have hji : j < i := by have := (List.getElem?_eq_some_iff.1 hj).1; simp at this; omega
    rw [List.getElem?_take, if_pos hji] at hj
    have e1 : l[i - 1]? = some (l[i - 1]'(by omega)) := by simp
    have k1 := slt_of (srt_le hs (show i - 1 < i by omega) e1 hx) (hn _ e1 (by omega))
    by_cases e : j = i - 1
    · subst e
      rw [hj] at e1
      rw [Option.some.inj e1]; exact k1
    · have k2 := srt_le hs (show j < i - 1 by omega) hj e1
      refine slt_of (srt_le hs hji hj hx) ?_
      rintro rfl
      rw [k1] at k2; cases k2
  · rw [List.mem_append, h.mem, List.take_add_one, hx, List.mem_append]; simp
theorem Ded.same {l m : List Str} {i : Nat} {x : Str} (h : Ded l m i) (hi : 0 < i) (hx : l[i]? = some x) (hp : l[i - 1]? = some x) : Ded l m (i + 1) := by
  refine ⟨h.st, fun y => ?_⟩
  rw [h.mem, List.take_add_one, hx, List.mem_append]
  constructor
  · exact .inl
  · rintro (q | q)
    · exact q
    · have : y = x := by simpa using q
      subst this
      exact List.mem_of_getElem? (i := i - 1) (by rw [List.getElem?_take, if_pos (by omega)]; exact hp)
theorem compact_law {l : List Str} {fu : Nat} (hl : l.length ≤ 100) (hfu : 1000 ≤ fu) (hs : Srt slt 0 l.length l) : Tot (slices_Compact_string_string fu l) fun r => Ded l r l.length := by
  unfold slices_Compact_string_string
  have start : Ded l (l.take 1) 1 := by
    refine ⟨?_, fun x => Iff.rfl⟩
    cases l with
    | nil => exact .nil
    | cons a t => exact .cons (by simp) .nil
  rw [Tot.ite_iff]
  refine ⟨fun q => ?_, fun q => ?_⟩
  · have q : l.length < 2 := by have := of_decide_eq_true q; omega
    rw [Tot.some_iff]
    refine ⟨?_, fun x => by rw [List.take_length]⟩
    have := start.st
    rwa [List.take_of_length_le (by omega)] at this
  · have q : ¬ l.length < 2 := by have := of_decide_eq_false q; omega
    rw [Tot.andThen_iff]
    refine (Tot.whileM (fun z : Int => ∃ k : Nat, z = (k : Int) ∧ 1 ≤ k ∧ k ≤ l.length ∧ Ded l (l.take k) k) (fun z => ((l.length : Int) - z).toNat) (Q := fun o => (∃ y, o = .inl y ∧ Ded l l l.length) ∨ ∃ r, o = .inr r ∧ Ded l r l.length) ⟨1, rfl, by omega, by omega, start⟩ (by omega) ?_).mono ?_
    · rintro _ ⟨k, rfl, k1, k2, k3⟩
      unfold slices_Compact_string_string_B0
      rw [Tot.ite_iff]
      refine ⟨fun c => ?_, fun c => ?_⟩
      · have c : k < l.length := by simpa using c
        have ek : w64 ((k : Int) - 1) = ((k - 1 : Nat) : Int) := by rw [w64_id (by omega) (by omega)]; omega
        have hx : l[k]? = some l[k] := by simp [c]
        have hy : l[k - 1]? = some (l[k - 1]'(by omega)) := by simp
        generalize l[k] = x at hx
        generalize l[k - 1]'(by omega) = y at hy
        rw [lat_nat, hx, Option.bind_some, ek, lat_nat, hy, Option.bind_some, Tot.ite_iff]
        refine ⟨fun d => ?_, fun d => ?_⟩
        · have d : x = y := by simpa using d
          subst d
          have hcut : cutL l (k : Int) (l.length : Int) = some (l.drop k) := by
            unfold cutL; rw [if_pos (by omega)]
            simp only [Int.toNat_natCast, Option.some.injEq]
            exact List.take_of_length_le (by simp)
          rw [hcut, Option.bind_some, Tot.andThen_iff]
          have k4 := k3.same (by omega) hx hy
          refine (Tot.whileM (fun z : Int × Int × List Str => ∃ p q : Nat, z.1 = (p : Int) ∧ z.2.1 = (q : Int) ∧ k ≤ p ∧ 1 ≤ q ∧ p + 1 ≤ k + q ∧ k + q ≤ l.length ∧ z.2.2.length = l.length ∧ (∀ j, p ≤ j → z.2.2[j]? = l[j]?) ∧ Ded l (z.2.2.take p) (k + q)) (fun z => ((l.length : Int) - z.2.1).toNat) (Q := fun o => ∃ (p : Nat) (e : Int) (d : List Str), o = .inl ((p : Int), e, d) ∧ p ≤ l.length ∧ d.length = l.length ∧ Ded l (d.take p) l.length) ⟨k, 1, rfl, rfl, Nat.le_refl _, Nat.le_refl _, by omega, by omega, rfl, fun _ _ => rfl, k4⟩ (by simp only; omega) ?_).mono ?_
          · rintro ⟨zp, zq, d⟩ ⟨p, q, rfl, rfl, p1, p2, p3, p4, p5, p6, p7⟩
            simp only at p5 p6 p7
            have hcl : ((d.drop ((k : Int)).toNat).take (((l.length : Int)).toNat - ((k : Int)).toNat)).length = l.length - k := by
              rw [Int.toNat_natCast, Int.toNat_natCast, List.length_take, List.length_drop]; omega
            have hcg : ∀ j : Nat, k + j < l.length → ((d.drop ((k : Int)).toNat).take (((l.length : Int)).toNat - ((k : Int)).toNat))[j]? = d[k + j]? := fun j hj => by
              rw [Int.toNat_natCast, Int.toNat_natCast, List.getElem?_take, if_pos (by omega), List.getElem?_drop]
            unfold slices_Compact_string_string_B2
            simp only
            rw [hcl, Tot.ite_iff]
            refine ⟨fun f => ?_, fun f => ?_⟩
            · have f : k + q < l.length := by have := of_decide_eq_true f; omega
              have hu : l[k + q]? = some l[k + q] := by simp [f]
              have hw : l[k + q - 1]? = some (l[k + q - 1]'(by omega)) := by simp
              generalize l[k + q] = u at hu
              generalize l[k + q - 1]'(by omega) = w at hw
              have eq1 : w64 ((q : Int) - 1) = ((q - 1 : Nat) : Int) := by rw [w64_id (by omega) (by omega)]; omega
              have hpd : p < d.length := by omega
              rw [lat_nat, hcg q f, p6 _ (by omega), hu, Option.bind_some, eq1, lat_nat, hcg (q - 1) (by omega), p6 _ (by omega), show k + (q - 1) = k + q - 1 by omega, hw, Option.bind_some, Tot.ite_iff]
              refine ⟨fun g => ?_, fun g => ?_⟩
              · have g : u ≠ w := by simpa using g
                rw [Option.bind_some, lat_i hpd, Option.bind_some, Tot.let_iff, Tot.some_iff, Int.toNat_natCast, w64_id (by omega) (by omega), w64_id (by omega) (by omega)]
                refine ⟨⟨p + 1, q + 1, by push_cast; rfl, by push_cast; rfl, by omega, by omega, by omega, by omega, by simpa using p5, fun j hj => ?_, ?_⟩, by simp only; omega⟩
                · simp only
                  rw [List.getElem?_set_ne (by omega), p6 j (by omega)]
                · have et : (d.set p u).take (p + 1) = d.take p ++ [u] := by
                    rw [List.take_add_one, List.take_set_of_le (Nat.le_refl _), List.getElem?_set_self hpd]; rfl
                  simp only
                  rw [et, show k + (q + 1) = k + q + 1 by omega]
                  exact p7.next hs hu fun y hy _ => by rw [hw] at hy; rw [← Option.some.inj hy]; exact Ne.symm g
              · have g : u = w := by simpa using g
                subst g
                rw [Tot.some_iff, w64_id (by omega) (by omega)]
                refine ⟨⟨p, q + 1, rfl, by push_cast; rfl, p1, by omega, by omega, by omega, p5, p6, ?_⟩, by simp only; omega⟩
                simp only
                rw [show k + (q + 1) = k + q + 1 by omega]
                exact p7.same (by omega) hu hw
            · have f : k + q = l.length := by have := of_decide_eq_false f; omega
              rw [f] at p7
              exact Tot.some_iff.2 ⟨p, _, d, rfl, by omega, p5, p7⟩
          · rintro _ ⟨p, e, d, rfl, d1, d2, d3⟩
            show Tot (Option.bind _ _) _
            have hc1 : ∃ q, cutL d (p : Int) (d.length : Int) = some q := ⟨_, by unfold cutL; rw [if_pos (by omega)]⟩
            obtain ⟨q, hq⟩ := hc1
            rw [hq, Option.bind_some, clear_take (by omega), Option.bind_some, Tot.some_iff]
            exact .inr ⟨_, rfl, d3⟩
        · have d : x ≠ y := by simpa using d
          rw [Tot.some_iff, w64_id (by omega) (by omega)]
          refine ⟨⟨k + 1, by push_cast; rfl, by omega, c, ?_⟩, by omega⟩
          have := k3.next hs hx fun z hz _ => by rw [hy] at hz; rw [← Option.some.inj hz]; exact Ne.symm d
          rwa [show l.take k ++ [x] = l.take (k + 1) by rw [List.take_add_one, hx]; rfl] at this
      · have c : k = l.length := by simp at c; omega
        subst c
        rw [List.take_length] at k3
        exact Tot.some_iff.2 (.inl ⟨_, rfl, k3⟩)
    · rintro _ (⟨y, rfl, h⟩ | ⟨r, rfl, h⟩)
      · exact Tot.some_iff.2 h
      · exact h
/-- The texts that are chosen. -/
def chT (s : Synod) (l : List Round) : List Str := (l.filter fun r => maj r.Voted (s.Voters.length : Int)).map Round.Text
theorem chT_snoc {s : Synod} {l : List Round} {r : Round} : chT s (l ++ [r]) = bif maj r.Voted (s.Voters.length : Int) then chT s l ++ [r.Text] else chT s l := by
  unfold chT
  rw [List.filter_append, List.map_append]
  cases h : maj r.Voted (s.Voters.length : Int) <;> simp [h]
theorem chosen_law {s : Synod} {fu : Nat} (h : SOk s) (hc : synod_Check s = some 0) (hfu : 1000 ≤ fu) : Tot (synod_Chosen fu s) fun r => r.2 = 0 ∧ Strict r.1 ∧ ∀ x, x ∈ r.1 ↔ x ∈ chT s s.Rounds := by
  have hr := h.r
  have hlen : ∀ i, (chT s (s.Rounds.take i)).length ≤ 30 := fun i => by
    unfold chT
    rw [List.length_map]
    have := List.length_filter_le (fun r : Round => maj r.Voted (s.Voters.length : Int)) (s.Rounds.take i)
    rw [List.length_take] at this
    omega
  unfold synod_Chosen
  rw [hc, Option.bind_some]
  simp only [bne_self_eq_false, cond_false]
  rw [Tot.bind_iff]
  refine Tot.rangeF (fun i z => z = chT s (s.Rounds.take i)) rfl ?_ ?_
  · rintro i _ _ hi rfl
    have hi : i < s.Rounds.length := by omega
    have hx : s.Rounds[i]? = some s.Rounds[i] := by simp [hi]
    generalize s.Rounds[i] = x at hx
    have := hlen i
    unfold synod_Chosen_B0
    rw [lat_nat, hx, Option.bind_some, maj_eq, Option.bind_some, List.take_add_one, hx, room_ok (by simp; omega), Option.bind_some, cond_some, Tot.some_iff]
    exact chT_snoc.symm
  · rintro _ rfl
    rw [Nat.zero_add, List.take_length]
    have hl30 := hlen s.Rounds.length
    rw [List.take_length] at hl30
    rw [Tot.bind_iff]
    refine (sort_law (by omega) hfu).mono fun r hr1 => ?_
    have hrl := hr1.1.len
    rw [Tot.bind_iff]
    refine (compact_law (l := r) (by omega) hfu (by rw [hrl]; exact hr1.2)).mono fun q hq => ?_
    rw [Tot.some_iff]
    refine ⟨rfl, hq.st, fun x => ?_⟩
    rw [hq.mem, List.take_length]
    exact hr1.1.mem
theorem rchosen_law {s : Synod} {fu : Nat} (hfu : 2 ^ 16 < fu) (h : SOk s) : Tot (partref_Chosen fu s) fun r => Strict r ∧ ∀ x, x ∈ r ↔ x ∈ chT s s.Rounds := by
  have hr := h.r
  unfold partref_Chosen
  rw [Tot.bind_iff]
  refine Tot.rangeF (fun i (z : List Str) => z.length ≤ i ∧ z.Nodup ∧ ∀ x, x ∈ z ↔ x ∈ chT s (s.Rounds.take i)) ⟨by simp, .nil, fun x => Iff.rfl⟩ ?_ ?_
  · rintro i z _ hi ⟨h1, h2, h3⟩
    have hi : i < s.Rounds.length := by omega
    have hx : s.Rounds[i]? = some s.Rounds[i] := by simp [hi]
    generalize s.Rounds[i] = x at hx
    have ht : chT s (s.Rounds.take (i + 1)) = bif maj x.Voted (s.Voters.length : Int) then chT s (s.Rounds.take i) ++ [x.Text] else chT s (s.Rounds.take i) := by
      rw [List.take_add_one, hx]; exact chT_snoc
    have hm : ((partref_size fu (BitVec.ofInt 16 (x.Voted.toNat : Int))).bind fun r15 => (bif decide ((w64 ((2 : Int) * r15)) > (s.Voters.length : Int)) then ((slices_Contains_string_string z x.Text).bind fun r22 => some (!r22)) else some false)) = some (maj x.Voted (s.Voters.length : Int) && !z.contains x.Text) := by
      have := rmaj_eq hfu x.Voted (s.Voters.length : Int)
      cases hq : partref_size fu (BitVec.ofInt 16 (x.Voted.toNat : Int)) with
      | none => rw [hq] at this; cases this
      | some n =>
        rw [hq, Option.bind_some, Option.some.injEq] at this
        rw [Option.bind_some, this, eq_slices_Contains_string_string, Option.bind_some, and_some]
    unfold partref_Chosen_B0
    rw [lat_nat, hx, Option.bind_some, ← Option.bind_assoc, hm, Option.bind_some, room_ok (by simp; omega), Option.bind_some, cond_some, Tot.some_iff, ht]
    cases maj x.Voted (s.Voters.length : Int) with
    | false => exact ⟨by simp; omega, h2, h3⟩
    | true =>
      rw [Bool.true_and, cond_true]
      by_cases hcn : x.Text ∈ z
      · rw [List.contains_iff_mem.2 hcn, Bool.not_true, cond_false]
        refine ⟨by omega, h2, fun y => ?_⟩
        rw [h3, List.mem_append, List.mem_singleton]
        constructor
        · exact .inl
        · rintro (q | rfl)
          · exact q
          · exact (h3 _).1 hcn
      · have : z.contains x.Text = false := by rw [Bool.eq_false_iff]; exact fun q => hcn (List.contains_iff_mem.1 q)
        rw [this, Bool.not_false, cond_true]
        refine ⟨by simp; omega, ?_, fun y => ?_⟩
        · unfold List.Nodup at h2 ⊢
          rw [List.pairwise_append]
          refine ⟨h2, .cons (by simp) .nil, fun a ha b hb e => ?_⟩
          rw [List.mem_singleton.1 hb] at e
          exact hcn (e ▸ ha)
        · rw [List.mem_append, List.mem_append, h3]
  · rintro z ⟨h1, h2, h3⟩
    rw [Nat.zero_add, List.take_length] at h3
    rw [Tot.bind_iff]
    refine (sort_law (by omega) (by omega)).mono fun r hr1 => ?_
    rw [Tot.some_iff]
    have hnd := hr1.1.nodup h2
    have hl := hr1.1.len
    refine ⟨?_, fun x => hr1.1.mem.trans (h3 x)⟩
    unfold Strict
    unfold List.Nodup at hnd
    rw [List.pairwise_iff_getElem] at hnd ⊢
    intro i j hi hj hij
    exact slt_of (hr1.2 i j r[i] r[j] (by omega) hij (by omega) (by simp [hi]) (by simp [hj])) (hnd i j hi hj hij)
theorem synodsays_law (s : Synod) (a : Act) (_ : Rng.ok s) (_ : Rng.ok a) : ∃ fu, partlaw_SynodSays fu s a = some true := by
  refine ⟨70000, ?_⟩
  obtain ⟨c, ec, er, hok⟩ := codes_law s (fu := 70000) (by omega)
  unfold partlaw_SynodSays
  rw [er, Option.bind_some]
  by_cases h0 : c = 0
  · subst h0
    have h := hok rfl
    have hv := h.v
    obtain ⟨⟨l, g⟩, el, g0, l1, l2⟩ := chosen_law h ec (fu := 70000) (by omega)
    obtain ⟨m, em, m1, m2⟩ := rchosen_law (fu := 70000) (by omega) h
    simp only at g0 l1 l2
    subst g0
    obtain rfl := l1.one m1 fun x => (l2 x).trans (m2 x).symm
    rw [el, em, ec]
    by_cases hb : (1 ≤ a.Kind ∧ a.Kind ≤ 4) ∧ (1 ≤ a.Ballot ∧ a.Ballot ≤ 16777215) ∧ (0 ≤ a.Who ∧ a.Who < s.Voters.length)
    · have e0 : (((((decide (a.Kind < 1) || decide (a.Kind > 4)) || decide (a.Ballot < 1)) || decide (a.Ballot > 16777215)) || decide (a.Who < 0)) || decide (a.Who ≥ (s.Voters.length : Int))) = false := by simp; omega
      by_cases ht : a.Text.length ≤ 200
      · obtain ⟨r, e1, e2⟩ := step_law (fu := 70000) (by omega) h ec hb.1 hb.2.1 hb.2.2 ht
        rw [e1, e2]
        have e3 : decide ((a.Text.length : Int) > 200) = false := decide_eq_false (by omega)
        simp only [Option.bind_some, or_some, e0, e3, bne_self_eq_false, cond_false, eq_slices_Equal_string_string, sames_eq, decide_true, Bool.not_true, Bool.or_false, cond_true, beq_self_eq_true]
      · have e3 : decide ((a.Text.length : Int) > 200) = true := decide_eq_true (by omega)
        have es : synod_Step s a = some (Synod.zero, 2) := by
          unfold synod_Step
          rw [ec, Option.bind_some]
          simp only [bne_self_eq_false, cond_false]
          rw [find_eq, Option.bind_some, sin_eq, sin_eq, sin_eq]
          simp only [Option.bind_some, or_some]
          have e0 : ((!(decide (a.Kind ≥ 1) && decide (a.Kind ≤ 4)) || !(decide (a.Ballot ≥ 1) && decide (a.Ballot ≤ 16777215))) || !(decide (a.Who ≥ 0) && decide (a.Who ≤ w64 ((s.Voters.length : Int) - 1)))) = false := by
            rw [w64_id (by omega) (by omega)]; simp; omega
          rw [e0, cond_false, e3]; rfl
        rw [es]
        simp only [Option.bind_some, or_some, e0, e3, bne_self_eq_false, cond_false, eq_slices_Equal_string_string, sames_eq, decide_true, Bool.not_true, Bool.or_false, cond_true, beq_self_eq_true]
    · have e0 : (((((decide (a.Kind < 1) || decide (a.Kind > 4)) || decide (a.Ballot < 1)) || decide (a.Ballot > 16777215)) || decide (a.Who < 0)) || decide (a.Who ≥ (s.Voters.length : Int))) = true := by simp; omega
      have es : synod_Step s a = some (Synod.zero, 1) := by
        unfold synod_Step
        rw [ec, Option.bind_some]
        simp only [bne_self_eq_false, cond_false]
        rw [find_eq, Option.bind_some, sin_eq, sin_eq, sin_eq]
        simp only [Option.bind_some, or_some]
        have e0 : ((!(decide (a.Kind ≥ 1) && decide (a.Kind ≤ 4)) || !(decide (a.Ballot ≥ 1) && decide (a.Ballot ≤ 16777215))) || !(decide (a.Who ≥ 0) && decide (a.Who ≤ w64 ((s.Voters.length : Int) - 1)))) = true := by
          rw [w64_id (by omega) (by omega)]; simp; omega
        rw [e0]; rfl
      rw [es]
      simp only [Option.bind_some, or_some, e0, bne_self_eq_false, cond_false, eq_slices_Equal_string_string, sames_eq, decide_true, Bool.not_true, Bool.or_false, cond_true, beq_self_eq_true]
  · have hne : (c != 0) = true := by simpa using h0
    have es : synod_Step s a = some (Synod.zero, c) := by
      unfold synod_Step
      rw [ec, Option.bind_some, hne]; rfl
    have el : synod_Chosen 70000 s = some ([], c) := by
      unfold synod_Chosen
      rw [ec, Option.bind_some, hne]; rfl
    rw [es, el, ec]
    simp [sames_eq, hne]
end Go.Proofs.Ytnljiedichjagaa
