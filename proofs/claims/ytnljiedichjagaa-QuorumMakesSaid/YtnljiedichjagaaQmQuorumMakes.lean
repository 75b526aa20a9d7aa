/-
  QuorumMakes: the plain law.
-/
import Derived.Test.YtnljiedichjagaaQmMinSets
namespace Go.Proofs.Ytnljiedichjagaa
open Enc

theorem equal_self (l : List (BitVec 16)) : slices_Equal_uint16_uint16 l l = some true := by
  unfold slices_Equal_uint16_uint16
  rw [show ((l.length : Int) != (l.length : Int)) = false from by simp, cond_false, rangeM_all l.length 0 fun j _ hj => by
    unfold slices_Equal_uint16_uint16_B0
    rw [lat_i (by omega), Option.bind_some, Option.bind_some]
    simp]
  rfl
theorem upTo_nat (m : Nat) (h : m ≤ 2 ^ 40) : upTo (m : Int) = some m := by unfold upTo; rw [if_pos (by omega)]; rfl

/-! ### Votes -/
theorem and_one (y : BitVec 16) : y &&& (1 : BitVec 16) = y % (2 : BitVec 16) := by
  apply BitVec.eq_of_toNat_eq
  rw [BitVec.toNat_and, BitVec.toNat_umod]
  exact Nat.and_one_is_mod _
theorem votes_same (s : BitVec 16) (l : List Int) (need : Int) : quorum_Votes_2 s l need = partlaw_QuorumMakes_1 s l need := by
  unfold quorum_Votes_2 partlaw_QuorumMakes_1 partref_VotesOf
  have : quorum_Votes_2_B0 s l = partref_VotesOf_B0 l s := by
    funext i z
    unfold quorum_Votes_2_B0 partref_VotesOf_B0
    simp only [and_one]
  rw [this, Option.bind_assoc]
  rfl
def goodV (l : List Int) (need : Int) (s : BitVec 16) : Bool := (partlaw_QuorumMakes_1 s l need).getD false
theorem goodV_eq (l : List Int) (need : Int) (s : BitVec 16) : partlaw_QuorumMakes_1 s l need = some (goodV l need s) := by
  have : Tot (partlaw_QuorumMakes_1 s l need) fun _ => True := by
    unfold partlaw_QuorumMakes_1 partref_VotesOf
    rw [Tot.bind_iff, Tot.bind_iff]
    refine Tot.rangeF (fun _ _ => True) trivial ?_ fun z _ => Tot.some_iff.2 (Tot.some_iff.2 trivial)
    intro i z _ hi _
    unfold partref_VotesOf_B0
    rw [lat_i (by omega), Option.bind_some, cnt_nat, Option.bind_some]
    exact Tot.some_iff.2 trivial
  obtain ⟨b, hb, _⟩ := this
  unfold goodV
  rw [hb]; rfl
def vb (v : Int) : Bool := decide (v ≥ 0) && decide (v ≤ 16777215)
theorem in_law (a b c : Int) : quorum_in a b c = some (decide (a ≥ b) && decide (a ≤ c)) := by unfold quorum_in; rw [and_some, Option.bind_some]
theorem votes_ct (l : List Int) : slices_ContainsFunc_int_int_Votes_1 l = some (l.any fun v => !(vb v)) := by
  unfold slices_ContainsFunc_int_int_Votes_1 slices_IndexFunc_int_int_Votes_1
  exact any_loop (fun v => !(vb v)) fun j x hx => by
    unfold slices_IndexFunc_int_int_Votes_1_B0 quorum_Votes_1
    rw [lat_nat, hx, Option.bind_some, in_law, Option.bind_some, Option.bind_some, cond_some]
    rfl
theorem votes_all (l : List Int) (b : Bool) : rangeF (partlaw_QuorumMakes_B0 l) l.length 0 b = some (b && l.all vb) := by
  refine Tot.eq ?_
  refine Tot.rangeF (fun i z => z = (b && (l.take i).all vb)) (by simp) ?_ ?_
  · rintro i z _ hi rfl
    have hi : i < l.length := by omega
    have ht : l.take (i + 1) = l.take i ++ [l[i]] := by rw [List.take_add_one, List.getElem?_eq_getElem hi]; rfl
    unfold partlaw_QuorumMakes_B0
    rw [lat_i hi, Option.bind_some, and_some, Option.bind_some, and_some, Option.bind_some, Tot.some_iff, ht]
    simp only [List.all_append, List.all_cons, List.all_nil, Bool.and_true, Bool.and_assoc]
    rfl
  · intro z hz
    rw [Nat.zero_add, List.take_length] at hz
    exact hz
theorem minimalV {m fu : Nat} {l : List Int} {need : Int} (hm : m ≤ 10) (hfu : 2 ^ 17 < fu) : quorum_minimal_Votes_2 fu (m : Int) l need = some (leastSets m (goodV l need)) := by
  refine Tot.eq ?_
  unfold quorum_minimal_Votes_2
  rw [cnt_nat, Option.bind_some, Tot.andThen_iff]
  refine (collect_law (good := goodV l need) (gd := fun s => quorum_Votes_2 s l need) hm (by omega) (fun s => by rw [votes_same]; exact goodV_eq l need s) (body := quorum_minimal_Votes_2_B0 l need m) fun z => rfl).mono ?_
  rintro o ⟨s, rfl⟩
  show Tot ((slices_SortFunc_uint16_uint16_quorum_compare fu _).bind _) _
  have hl := inOrder_len (good := goodV l need) hm (m + 1)
  rw [sort_law hm (by omega), Option.bind_some, pick_law (r := inOrder m (goodV l need)) (by unfold inOrder; exact Nat.le_trans hl (by omega)) (body := quorum_minimal_Votes_2_B2 (inOrder m (goodV l need))) fun i z => rfl, Option.bind_some, Tot.some_iff]
  rfl
theorem leastV {m fu : Nat} {l : List Int} {need : Int} (hm : m ≤ 10) (hfu : 2 ^ 17 < fu) : partref_LeastSets_QuorumMakes_1 fu (m : Int) l need = some (leastSets m (goodV l need)) := by
  unfold partref_LeastSets_QuorumMakes_1
  have e : upTo (w64 ((m : Int) + 1)) = some (m + 1) := by
    rw [w64_id (by omega) (by omega)]
    exact upTo_nat (m + 1) (by omega)
  rw [e, Option.bind_some, ref_rounds (good := goodV l need) hm hfu (gd := fun s => partlaw_QuorumMakes_1 s l need) (fun s => goodV_eq l need s) (b2 := fun k => partref_LeastSets_QuorumMakes_1_B2 fu l need k m) (fun k z => rfl) (b0 := partref_LeastSets_QuorumMakes_1_B0 fu (m : Int) l need) (fun k z => by unfold partref_LeastSets_QuorumMakes_1_B0; rw [cnt_nat, Option.bind_some])]
  rfl

/-! ### The grid -/
def IsUn (r c i j : Nat) (s : BitVec 16) : Prop := ∀ t, t < 16 → (s.getLsbD t = true ↔ t < r * c ∧ (t / c = i ∨ t % c = j))
theorem IsUn.one {r c i j : Nat} {s t : BitVec 16} (h1 : IsUn r c i j s) (h2 : IsUn r c i j t) : s = t := by
  apply BitVec.eq_of_getLsbD_eq
  intro k hk
  rw [Bool.eq_iff_iff, h1 k hk, h2 k hk]
theorem union_law {r c i j : Nat} (hc : 0 < c) (hc10 : c ≤ 10) (hrc : r * c ≤ 10) : Tot (rangeF (quorum_Grid_B4 (c : Int) i j) (r * c) 0 (0 : BitVec 16)) (IsUn r c i j) := by
  refine Tot.rangeF (fun k (z : BitVec 16) => ∀ t, t < 16 → (z.getLsbD t = true ↔ t < k ∧ (t / c = i ∨ t % c = j))) (fun t ht => by simp) ?_ ?_
  · intro k z _ hk hI
    have hk : k < r * c := by omega
    have ez : nz (c : Int) = some () := by unfold nz; rw [if_neg (by omega)]
    unfold quorum_Grid_B4
    have e1 : w64 ((k : Int).tdiv (c : Int)) = ((k / c : Nat) : Int) := by
      rw [show (k : Int).tdiv (c : Int) = ((k / c : Nat) : Int) from (Int.ofNat_tdiv _ _).symm]
      have : k / c ≤ k := Nat.div_le_self _ _
      generalize k / c = q at *
      exact w64_id (by omega) (by omega)
    have e2 : ((k : Int).tmod (c : Int) : Int) = ((k % c : Nat) : Int) := (Int.ofNat_tmod _ _).symm
    rw [ez, Option.bind_some, Option.bind_some, e1, e2, or_some, Option.bind_some, cnt_nat, Option.bind_some]
    have ht : ((((k / c : Nat) : Int) == (i : Int)) || (((k % c : Nat) : Int) == (j : Int))) = true ↔ (k / c = i ∨ k % c = j) := by
      rw [Bool.or_eq_true, beq_iff_eq, beq_iff_eq]; omega
    rw [Tot.ite_iff]
    refine ⟨fun q => Tot.some_iff.2 fun t ht16 => ?_, fun q => Tot.some_iff.2 fun t ht16 => ?_⟩
    · have q := ht.1 q
      have hbit : ((1 : BitVec 16) <<< k).getLsbD t = decide (t = k) := by
        rw [BitVec.getLsbD_shiftLeft]
        have : (1 : BitVec 16).getLsbD (t - k) = decide (t - k = 0) := by
          rw [show (1 : BitVec 16) = 1#16 from rfl, BitVec.getLsbD_one]; simp
        rw [this]
        by_cases e : t = k
        · subst e; simp [ht16]
        · by_cases e2 : t < k
          · simp [e2, e]
          · simp [e2, e, ht16]; omega
      rw [BitVec.getLsbD_or, Bool.or_eq_true, hI t ht16, hbit, decide_eq_true_eq]
      constructor
      · rintro (⟨a, b⟩ | rfl)
        · exact ⟨by omega, b⟩
        · exact ⟨by omega, q⟩
      · rintro ⟨a, b⟩
        by_cases e : t = k
        · exact .inr e
        · exact .inl ⟨by omega, b⟩
    · have q : ¬ (k / c = i ∨ k % c = j) := fun h => by rw [ht.2 h] at q; cases q
      rw [hI t ht16]
      constructor
      · rintro ⟨a, b⟩; exact ⟨by omega, b⟩
      · rintro ⟨a, b⟩
        refine ⟨?_, b⟩
        rcases Nat.lt_or_ge t k with e | e
        · exact e
        · have : t = k := by omega
          subst this; exact absurd b q
  · intro z hI
    rw [Nat.zero_add] at hI
    exact hI
theorem unions_law {r c : Nat} (hc : 0 < c) (hc10 : c ≤ 10) (hr10 : r ≤ 10) (hrc : r * c ≤ 10) : Tot (rangeF (quorum_Grid_B0 (r : Int) (c : Int)) r 0 ([] : List (BitVec 16))) fun U => ∀ s, s ∈ U ↔ ∃ i j, i < r ∧ j < c ∧ IsUn r c i j s := by
  have ew : w64 ((r : Int) * (c : Int)) = ((r * c : Nat) : Int) := by
    rw [show (r : Int) * (c : Int) = ((r * c : Nat) : Int) by push_cast; rfl]
    exact w64_id (by omega) (by omega)
  refine Tot.rangeF (fun i U => U.length = i * c ∧ ∀ s, s ∈ U ↔ ∃ i' j, i' < i ∧ j < c ∧ IsUn r c i' j s) ⟨by simp, fun s => by simp⟩ ?_ ?_
  · rintro i U _ hi ⟨h1, h2⟩
    have hi : i < r := by omega
    unfold quorum_Grid_B0
    rw [upTo_nat c (by omega), Option.bind_some, Tot.bind_iff]
    refine Tot.rangeF (fun j z => z.length = i * c + j ∧ ∀ s, s ∈ z ↔ (∃ i' j', i' < i ∧ j' < c ∧ IsUn r c i' j' s) ∨ ∃ j', j' < j ∧ IsUn r c i j' s) ⟨by omega, fun s => by rw [h2]; simp⟩ ?_ ?_
    · rintro j z _ hj ⟨g1, g2⟩
      unfold quorum_Grid_B2
      rw [ew, upTo_nat (r * c) (by omega), Option.bind_some, Tot.bind_iff]
      refine (union_law (i := i) (j := j) hc hc10 hrc).mono fun u hu => ?_
      have hic : i * c ≤ 10 * 10 := Nat.mul_le_mul (by omega) hc10
      rw [room_ok (by simp; omega), Option.bind_some, Tot.some_iff]
      refine ⟨by simp; omega, fun s => ?_⟩
      rw [List.mem_append, List.mem_singleton, g2]
      constructor
      · rintro ((a | ⟨j', a, b⟩) | rfl)
        · exact .inl a
        · exact .inr ⟨j', by omega, b⟩
        · exact .inr ⟨j, by omega, hu⟩
      · rintro (a | ⟨j', a, b⟩)
        · exact .inl (.inl a)
        · by_cases e : j' = j
          · subst e; exact .inr (b.one hu)
          · exact .inl (.inr ⟨j', by omega, b⟩)
    · rintro z ⟨g1, g2⟩
      rw [Nat.zero_add] at g1 g2
      refine Tot.some_iff.2 ⟨by rw [g1, Nat.succ_mul], fun s => (g2 s).trans ?_⟩
      constructor
      · rintro (⟨i', j', a, b⟩ | ⟨j', a, b⟩)
        · exact ⟨i', j', by omega, b⟩
        · exact ⟨i, j', by omega, a, b⟩
      · rintro ⟨i', j', a, b, d⟩
        by_cases e : i' = i
        · subst e; exact .inr ⟨j', b, d⟩
        · exact .inl ⟨i', j', by omega, b, d⟩
  · rintro U ⟨_, h2⟩
    rw [Nat.zero_add] at h2
    exact h2
theorem grid_ct (s : BitVec 16) (U : List (BitVec 16)) : quorum_Grid_1 s U = some (U.contains s) := by
  unfold quorum_Grid_1 slices_Contains_uint16_uint16 slices_Index_uint16_uint16
  rw [index_loop (fun x => s == x) fun j x hx => by
    unfold slices_Index_uint16_uint16_B0
    rw [lat_nat, hx, Option.bind_some, u_beq, cond_some], Option.bind_some, Option.bind_some, idxI_ge]
def FullR (s : BitVec 16) (r c : Nat) : Prop := (∃ i, i < r ∧ ∀ j, j < c → s.getLsbD (i * c + j) = true) ∧ ∃ j, j < c ∧ ∀ i, i < r → s.getLsbD (i * c + j) = true
theorem bit_at (s : BitVec 16) (n : Nat) : ((((s >>> n) % (2 : BitVec 16)).toNat : Int) == ((1 : BitVec 16).toNat : Int)) = s.getLsbD n := by
  rw [← and_one, u_beq, Bool.eq_iff_iff, beq_iff_eq]
  have e : ((s >>> n) &&& (1 : BitVec 16)).toNat = s.toNat / 2 ^ n % 2 := by
    rw [BitVec.toNat_and, BitVec.toNat_ushiftRight, Nat.shiftRight_eq_div_pow]
    exact Nat.and_one_is_mod _
  rw [BitVec.toNat_eq, e, ← BitVec.testBit_toNat, Nat.testBit_eq_decide_div_mod_eq, decide_eq_true_eq]
  rfl
theorem full_law {s : BitVec 16} {r c : Nat} (hr : r ≤ 10) (hc : c ≤ 10) (hrc : r * c ≤ 10) : Tot (partlaw_QuorumMakes_2 s (r : Int) (c : Int)) fun b => b = true ↔ FullR s r c := by
  have ix : ∀ i j, i < r → j < c → cnt (w64 ((w64 ((i : Int) * (c : Int))) + (j : Int))) = some (i * c + j) := by
    intro i j hi hj
    have : i * c ≤ r * c := Nat.mul_le_mul_right _ (by omega)
    rw [show (i : Int) * (c : Int) = ((i * c : Nat) : Int) by push_cast; rfl, w64_id (x := ((i * c : Nat) : Int)) (by omega) (by omega), w64_id (by omega) (by omega)]
    exact cnt_nat (i * c + j)
  unfold partlaw_QuorumMakes_2
  rw [upTo_nat r (by omega), Option.bind_some, Tot.bind_iff]
  refine Tot.rangeF (fun i z => z = true ↔ ∃ i', i' < i ∧ ∀ j, j < c → s.getLsbD (i' * c + j) = true) (by simp) ?_ ?_
  · intro i z _ hi hI
    have hi : i < r := by omega
    unfold partlaw_QuorumMakes_2_B0
    rw [upTo_nat c (by omega), Option.bind_some, Tot.bind_iff]
    refine Tot.rangeF (fun j z => z = true ↔ ∀ j', j' < j → s.getLsbD (i * c + j') = true) (by simp) ?_ ?_
    · intro j z _ hj hJ
      unfold partlaw_QuorumMakes_2_B2
      rw [ix i j hi (by omega), Option.bind_some, bit_at, and_some, Option.bind_some, Tot.some_iff, Bool.and_eq_true, hJ]
      constructor
      · rintro ⟨a, b⟩ j' hj'
        by_cases e : j' = j
        · subst e; exact b
        · exact a j' (by omega)
      · intro a; exact ⟨fun j' hj' => a j' (by omega), a j (by omega)⟩
    · intro y hy
      rw [Nat.zero_add] at hy
      rw [or_some, Option.bind_some, Tot.some_iff, Bool.or_eq_true, hI, hy]
      constructor
      · rintro (⟨i', a, b⟩ | a)
        · exact ⟨i', by omega, b⟩
        · exact ⟨i, by omega, a⟩
      · rintro ⟨i', a, b⟩
        by_cases e : i' = i
        · subst e; exact .inr b
        · exact .inl ⟨i', by omega, b⟩
  · intro y hy
    rw [Nat.zero_add] at hy
    rw [upTo_nat c (by omega), Option.bind_some, Tot.bind_iff]
    refine Tot.rangeF (fun j z => z = true ↔ ∃ j', j' < j ∧ ∀ i, i < r → s.getLsbD (i * c + j') = true) (by simp) ?_ ?_
    · intro j z _ hj hJ
      have hj : j < c := by omega
      unfold partlaw_QuorumMakes_2_B4
      rw [upTo_nat r (by omega), Option.bind_some, Tot.bind_iff]
      refine Tot.rangeF (fun i z => z = true ↔ ∀ i', i' < i → s.getLsbD (i' * c + j) = true) (by simp) ?_ ?_
      · intro i z _ hi hI
        unfold partlaw_QuorumMakes_2_B6
        rw [ix i j (by omega) hj, Option.bind_some, bit_at, and_some, Option.bind_some, Tot.some_iff, Bool.and_eq_true, hI]
        constructor
        · rintro ⟨a, b⟩ i' hi'
          by_cases e : i' = i
          · subst e; exact b
          · exact a i' (by omega)
        · intro a; exact ⟨fun i' hi' => a i' (by omega), a i (by omega)⟩
      · intro w hw
        rw [Nat.zero_add] at hw
        rw [or_some, Option.bind_some, Tot.some_iff, Bool.or_eq_true, hJ, hw]
        constructor
        · rintro (⟨j', a, b⟩ | a)
          · exact ⟨j', by omega, b⟩
          · exact ⟨j, by omega, a⟩
        · rintro ⟨j', a, b⟩
          by_cases e : j' = j
          · subst e; exact .inr b
          · exact .inl ⟨j', by omega, b⟩
    · intro z hz
      rw [Nat.zero_add] at hz
      rw [and_some, Option.bind_some, Tot.some_iff, Bool.and_eq_true, hy, hz]
      rfl
def goodG (r c : Nat) (s : BitVec 16) : Bool := (partlaw_QuorumMakes_2 s (r : Int) (c : Int)).getD false
theorem goodG_eq {s : BitVec 16} {r c : Nat} (hr : r ≤ 10) (hc : c ≤ 10) (hrc : r * c ≤ 10) : partlaw_QuorumMakes_2 s (r : Int) (c : Int) = some (goodG r c s) ∧ (goodG r c s = true ↔ FullR s r c) := by
  obtain ⟨b, hb, h⟩ := full_law (s := s) hr hc hrc
  have : goodG r c s = b := by unfold goodG; rw [hb]; rfl
  rw [this]
  exact ⟨hb, h⟩
theorem minimalG {m fu : Nat} {U : List (BitVec 16)} (hm : m ≤ 10) (hfu : 2 ^ 17 < fu) : quorum_minimal_Grid_1 fu (m : Int) U = some (leastSets m fun s => U.contains s) := by
  refine Tot.eq ?_
  unfold quorum_minimal_Grid_1
  rw [cnt_nat, Option.bind_some, Tot.andThen_iff]
  refine (collect_law (good := fun s => U.contains s) (gd := fun s => quorum_Grid_1 s U) hm (by omega) (fun s => grid_ct s U) (body := quorum_minimal_Grid_1_B0 U m) fun z => rfl).mono ?_
  rintro o ⟨s, rfl⟩
  show Tot ((slices_SortFunc_uint16_uint16_quorum_compare fu _).bind _) _
  have hl := inOrder_len (good := fun s => U.contains s) hm (m + 1)
  rw [sort_law hm (by omega), Option.bind_some, pick_law (r := inOrder m fun s => U.contains s) (by unfold inOrder; exact Nat.le_trans hl (by omega)) (body := quorum_minimal_Grid_1_B2 (inOrder m fun s => U.contains s)) fun i z => rfl, Option.bind_some, Tot.some_iff]
  rfl
theorem leastG {r c fu : Nat} (hr : r ≤ 10) (hc : c ≤ 10) (hrc : r * c ≤ 10) (hfu : 2 ^ 17 < fu) : partref_LeastSets_QuorumMakes_2 fu ((r * c : Nat) : Int) (r : Int) (c : Int) = some (leastSets (r * c) (goodG r c)) := by
  unfold partref_LeastSets_QuorumMakes_2
  have e : upTo (w64 (((r * c : Nat) : Int) + 1)) = some (r * c + 1) := by
    rw [w64_id (by omega) (by omega)]
    exact upTo_nat (r * c + 1) (by omega)
  rw [e, Option.bind_some, ref_rounds (good := goodG r c) hrc hfu (gd := fun s => partlaw_QuorumMakes_2 s (r : Int) (c : Int)) (fun s => (goodG_eq hr hc hrc).1) (b2 := fun k => partref_LeastSets_QuorumMakes_2_B2 fu (r : Int) (c : Int) k (r * c)) (fun k z => rfl) (b0 := partref_LeastSets_QuorumMakes_2_B0 fu ((r * c : Nat) : Int) (r : Int) (c : Int)) (fun k z => by unfold partref_LeastSets_QuorumMakes_2_B0; rw [cnt_nat, Option.bind_some])]
  rfl
theorem grid_same {r c : Nat} {U : List (BitVec 16)} (hr : r ≤ 10) (hc0 : 0 < c) (hc : c ≤ 10) (hrc : r * c ≤ 10) (hU : ∀ s, s ∈ U ↔ ∃ i j, i < r ∧ j < c ∧ IsUn r c i j s) : leastSets (r * c) (fun s => U.contains s) = leastSets (r * c) (goodG r c) := by
  have idx : ∀ i j, i < r → j < c → i * c + j < r * c ∧ (i * c + j) / c = i ∧ (i * c + j) % c = j := by
    intro i j hi hj
    have : (i + 1) * c ≤ r * c := Nat.mul_le_mul_right _ hi
    rw [Nat.succ_mul] at this
    refine ⟨by omega, ?_, ?_⟩
    · rw [Nat.mul_comm, Nat.mul_add_div hc0, Nat.div_eq_of_lt hj, Nat.add_zero]
    · rw [Nat.mul_comm, Nat.mul_add_mod, Nat.mod_eq_of_lt hj]
  refine least_same hrc (fun s hs h => ?_) fun s hs h => ?_
  · obtain ⟨i, j, hi, hj, hu⟩ := (hU s).1 (List.contains_iff_mem.1 h)
    refine (goodG_eq hr hc hrc).2.2 ⟨⟨i, hi, fun j' hj' => ?_⟩, j, hj, fun i' hi' => ?_⟩
    · have := idx i j' hi hj'
      exact (hu _ (by omega)).2 ⟨this.1, .inl this.2.1⟩
    · have := idx i' j hi' hj
      exact (hu _ (by omega)).2 ⟨this.1, .inr this.2.2⟩
  · obtain ⟨⟨i, hi, h1⟩, j, hj, h2⟩ := (goodG_eq hr hc hrc).2.1 h
    obtain ⟨u, _, hu⟩ := union_law (i := i) (j := j) hc0 hc hrc
    have hsub : subB u s = true := subB_iff.2 fun t ht hb => by
      obtain ⟨a, b⟩ := (hu t ht).1 hb
      have hdm := Nat.div_add_mod t c
      have hmod := Nat.mod_lt t hc0
      have hdiv : t / c < r := by rw [Nat.div_lt_iff_lt_mul hc0]; exact a
      rw [Nat.mul_comm] at hdm
      rcases b with b | b
      · have := h1 (t % c) hmod
        rwa [← b, hdm] at this
      · have := h2 (t / c) hdiv
        rwa [← b, hdm] at this
    refine ⟨u, ?_, List.contains_iff_mem.2 ((hU u).2 ⟨i, j, hi, hj, hu⟩), hsub⟩
    have hb : ∀ t, u.toNat.testBit t = true → s.toNat.testBit t = true := by
      intro t ht
      rw [BitVec.testBit_toNat] at ht ⊢
      have h16 : t < 16 := BitVec.lt_of_getLsbD ht
      exact subB_iff.1 hsub t h16 ht
    refine Nat.lt_of_le_of_lt ?_ hs
    have hand : u.toNat &&& s.toNat = u.toNat := by
      apply Nat.eq_of_testBit_eq
      intro t
      rw [Nat.testBit_and]
      cases ht : u.toNat.testBit t with
      | false => rfl
      | true => rw [hb t ht]; rfl
    rw [← hand]
    exact Nat.and_le_right

theorem quorummakes_law (l : List Int) (need R C : Int) (_ : Rng.ok l) (_ : Rng.ok need) (_ : Rng.ok R) (_ : Rng.ok C) : ∃ fu, partlaw_QuorumMakes fu l need R C = some true := by
  refine ⟨2 ^ 18, Tot.eq ?_⟩
  -- the votes
  have hV : quorum_Votes (2 ^ 18) l need = some (if ((((decide ((l.length : Int) > 0) && decide ((l.length : Int) < 11)) && decide (need > 0)) && decide (need ≤ 16777215)) && l.all vb) = true then (leastSets l.length (goodV l need), 0) else ([], 1)) := by
    unfold quorum_Votes
    rw [in_law, Option.bind_some, in_law, Option.bind_some, or_some, Option.bind_some, votes_ct, Option.bind_some, or_some, Option.bind_some]
    have e : (!(decide ((l.length : Int) ≥ 1) && decide ((l.length : Int) ≤ 10)) || !(decide (need ≥ 1) && decide (need ≤ 16777215)) || l.any fun v => !(vb v)) = !((((decide ((l.length : Int) > 0) && decide ((l.length : Int) < 11)) && decide (need > 0)) && decide (need ≤ 16777215)) && l.all vb) := by
      have e1 : decide ((l.length : Int) ≥ 1) = decide ((l.length : Int) > 0) := decide_eq_decide.2 (by omega)
      have e2 : decide ((l.length : Int) ≤ 10) = decide ((l.length : Int) < 11) := decide_eq_decide.2 (by omega)
      have e3 : decide (need ≥ 1) = decide (need > 0) := decide_eq_decide.2 (by omega)
      have e4 : (l.any fun v => !(vb v)) = !(l.all vb) := by rw [List.not_all_eq_any_not]
      rw [e1, e2, e3, e4]
      cases decide ((l.length : Int) > 0) <;> cases decide ((l.length : Int) < 11) <;> cases decide (need > 0) <;> cases decide (need ≤ 16777215) <;> cases l.all vb <;> rfl
    rw [e]
    cases hq : ((((decide ((l.length : Int) > 0) && decide ((l.length : Int) < 11)) && decide (need > 0)) && decide (need ≤ 16777215)) && l.all vb) with
    | false => rfl
    | true =>
      rw [Bool.not_true, cond_false, if_pos rfl]
      simp only [Bool.and_eq_true, decide_eq_true_eq] at hq
      rw [minimalV (by omega) (by omega), Option.bind_some]
  unfold partlaw_QuorumMakes
  rw [hV, Option.bind_some]
  generalize hfu : 2 ^ 18 = fu
  have hfu' : 2 ^ 17 < fu := by omega
  -- the grid
  have hG : (∃ r c : Nat, R = (r : Int) ∧ C = (c : Int) ∧ 1 ≤ r ∧ r ≤ 10 ∧ 1 ≤ c ∧ c ≤ 10 ∧ r * c ≤ 10 ∧ quorum_Grid fu R C = some (leastSets (r * c) (goodG r c), 0)) ∨ ((decide (R < 1) || decide (C < 1) || decide (R > 10) || decide (C > 10) || decide (w64 (R * C) > 10)) = true ∧ quorum_Grid fu R C = some ([], 1)) := by
    unfold quorum_Grid
    rw [in_law, Option.bind_some, in_law, Option.bind_some, or_some, Option.bind_some, or_some, Option.bind_some]
    by_cases h : 1 ≤ R ∧ R ≤ 10 ∧ 1 ≤ C ∧ C ≤ 10 ∧ w64 (R * C) ≤ 10
    · obtain ⟨h1, h2, h3, h4, h5⟩ := h
      obtain ⟨r, rfl⟩ := int_nat (show 0 ≤ R by omega)
      obtain ⟨c, rfl⟩ := int_nat (show 0 ≤ C by omega)
      have hm : r * c ≤ 10 * 10 := Nat.mul_le_mul (by omega) (by omega)
      have ew : w64 ((r : Int) * (c : Int)) = ((r * c : Nat) : Int) := by
        rw [show (r : Int) * (c : Int) = ((r * c : Nat) : Int) by push_cast; rfl]
        exact w64_id (by omega) (by omega)
      rw [ew] at h5 ⊢
      have hrc : r * c ≤ 10 := by omega
      refine .inl ⟨r, c, rfl, rfl, by omega, by omega, by omega, by omega, hrc, ?_⟩
      rw [decide_eq_true (show (r : Int) ≥ 1 by omega), decide_eq_true (show (r : Int) ≤ 10 by omega), decide_eq_true (show (c : Int) ≥ 1 by omega), decide_eq_true (show (c : Int) ≤ 10 by omega), decide_eq_false (show ¬ ((r * c : Nat) : Int) > 10 by omega)]
      simp only [Bool.and_self, Bool.not_true, Bool.or_self, cond_false]
      refine Tot.eq ?_
      rw [upTo_nat r (by omega), Option.bind_some, Tot.bind_iff]
      refine (unions_law (r := r) (c := c) (by omega) (by omega) (by omega) hrc).mono fun U hU => ?_
      rw [minimalG hrc hfu', Option.bind_some, Tot.some_iff, grid_same (by omega) (by omega) (by omega) hrc hU]
    · refine .inr ⟨?_, ?_⟩
      · simp only [Bool.or_eq_true, decide_eq_true_eq]; omega
      · have : (!(decide (R ≥ 1) && decide (R ≤ 10)) || !(decide (C ≥ 1) && decide (C ≤ 10)) || decide (w64 (R * C) > 10)) = true := by
          simp only [Bool.or_eq_true, Bool.not_eq_true', Bool.and_eq_false_iff, decide_eq_false_iff_not, decide_eq_true_eq]; omega
        rw [this]; rfl
  obtain ⟨g, eg, hg⟩ : ∃ g, quorum_Grid fu R C = some g ∧ ((bif (decide (R < 1) || decide (C < 1) || decide (R > 10) || decide (C > 10) || decide (w64 (R * C) > 10)) then ((bif (g.1.length : Int) == (0 : Int) then (some (g.2 == (1 : Int))) else some false).bind fun y101 => some y101) else
      (partref_LeastSets_QuorumMakes_2 fu (w64 (R * C)) R C).bind fun r105 => (slices_Equal_uint16_uint16 g.1 r105).bind fun r111 => (bif r111 then (some (g.2 == (0 : Int))) else some false).bind fun y116 => some y116) = some true) := by
    rcases hG with ⟨r, c, rfl, rfl, h1, h2, h3, h4, h5, h6⟩ | ⟨h1, h2⟩
    · refine ⟨_, h6, ?_⟩
      have ew : w64 ((r : Int) * (c : Int)) = ((r * c : Nat) : Int) := by
        rw [show (r : Int) * (c : Int) = ((r * c : Nat) : Int) by push_cast; rfl]
        exact w64_id (by omega) (by omega)
      rw [ew, decide_eq_false (show ¬ (r : Int) < 1 by omega), decide_eq_false (show ¬ (c : Int) < 1 by omega), decide_eq_false (show ¬ (r : Int) > 10 by omega), decide_eq_false (show ¬ (c : Int) > 10 by omega), decide_eq_false (show ¬ ((r * c : Nat) : Int) > 10 by omega)]
      simp only [Bool.or_self, cond_false]
      rw [leastG h2 h4 h5 hfu', Option.bind_some, equal_self]
      rfl
    · refine ⟨_, h2, ?_⟩
      rw [h1]; rfl
  rw [eg, Option.bind_some]
  simp only [and_some, or_some, Option.bind_some, votes_all]
  rw [Tot.andThen_iff]
  have hfin : ∀ {Q : Bool → Prop}, Q true → Tot (bif (decide (R < 1) || decide (C < 1) || decide (R > 10) || decide (C > 10) || decide (w64 (R * C) > 10)) then ((bif (g.1.length : Int) == (0 : Int) then (some (g.2 == (1 : Int))) else some false).bind fun y101 => some y101) else
      (partref_LeastSets_QuorumMakes_2 fu (w64 (R * C)) R C).bind fun r105 => (slices_Equal_uint16_uint16 g.1 r105).bind fun r111 => (bif r111 then (some (g.2 == (0 : Int))) else some false).bind fun y116 => some y116) Q := fun h => ⟨true, hg, h⟩
  simp only [and_some, Option.bind_some] at hfin
  cases hq : ((((decide ((l.length : Int) > 0) && decide ((l.length : Int) < 11)) && decide (need > 0)) && decide (need ≤ 16777215)) && l.all vb) with
  | false =>
    rw [Bool.not_false, cond_true, if_neg (by decide)]
    simp only [List.length_nil, bne_self_eq_false, Bool.or_false]
    rw [show decide (((0 : Nat) : Int) > 0) = false from rfl, cond_false, Tot.some_iff]
    exact hfin rfl
  | true =>
    rw [Bool.not_true, cond_false, if_pos rfl]
    simp only [Bool.and_eq_true, decide_eq_true_eq] at hq
    rw [leastV (by omega) hfu', Option.bind_some]
    simp only [equal_self, Option.bind_some, Bool.not_true, bne_self_eq_false, Bool.or_self, cond_false]
    rw [Tot.some_iff]
    exact hfin rfl
end Go.Proofs.Ytnljiedichjagaa
