/-
  QuorumSays: the plain law.
-/
import Derived.Test.YtnljiedichjagaaQsQuorums
namespace Go.Proofs.Ytnljiedichjagaa
open Enc

/-- s meets all of l. -/
def meetsB (s : BitVec 16) (l : List (BitVec 16)) : Bool := !(l.any fun t => decide (s &&& t = 0))
theorem and_zero (s t : BitVec 16) : (((s &&& t).toNat : Int) == ((0 : BitVec 16).toNat : Int)) = decide (s &&& t = 0) := by
  rw [u_beq, Bool.eq_iff_iff, beq_iff_eq, decide_eq_true_eq]
theorem meets_law (s : BitVec 16) (l : List (BitVec 16)) : quorum_meets s l = some (meetsB s l) := by
  unfold quorum_meets slices_ContainsFunc_uint16_uint16_meets_1 slices_IndexFunc_uint16_uint16_meets_1
  rw [any_loop (fun t => decide (s &&& t = 0)) fun j x hx => by
    unfold slices_IndexFunc_uint16_uint16_meets_1_B0 quorum_meets_1
    rw [lat_nat, hx, Option.bind_some, and_zero, Option.bind_some, cond_some]]
  rfl
theorem lawmeets (s : BitVec 16) (l : List (BitVec 16)) : partlaw_QuorumSays_1 s l = some (meetsB s l) := by
  unfold partlaw_QuorumSays_1 slices_ContainsFunc_uint16_uint16_1_1 slices_IndexFunc_uint16_uint16_1_1
  rw [any_loop (fun t => decide (s &&& t = 0)) fun j x hx => by
    unfold slices_IndexFunc_uint16_uint16_1_1_B0 partlaw_QuorumSays_1_1
    rw [lat_nat, hx, Option.bind_some, and_zero, Option.bind_some, cond_some]]
  rfl
theorem Meets_ct (l c : List (BitVec 16)) : slices_ContainsFunc_uint16_uint16_Meets_1 l c = some (l.any fun s => !(meetsB s c)) := by
  unfold slices_ContainsFunc_uint16_uint16_Meets_1 slices_IndexFunc_uint16_uint16_Meets_1
  exact any_loop (fun s => !(meetsB s c)) fun j x hx => by
    unfold slices_IndexFunc_uint16_uint16_Meets_1_B0 quorum_Meets_1
    rw [lat_nat, hx, Option.bind_some, meets_law, Option.bind_some, Option.bind_some, cond_some]
theorem err_ct (l : List (BitVec 16)) (s : BitVec 16) : slices_ContainsFunc_uint16_uint16_QuorumErr_1 l s = some (l.any fun t => subB t s) := by
  unfold slices_ContainsFunc_uint16_uint16_QuorumErr_1 slices_IndexFunc_uint16_uint16_QuorumErr_1
  exact any_loop (fun t => subB t s) fun j x hx => by
    unfold slices_IndexFunc_uint16_uint16_QuorumErr_1_B0 partref_QuorumErr_1
    rw [lat_nat, hx, Option.bind_some, or_sub, Option.bind_some, cond_some]

/-! ### The code -/
def badAt (l : List (BitVec 16)) (i : Nat) (x : BitVec 16) : Bool := (decide (0 < i) && !(qlt (l[i - 1]?.getD 0) x)) || (l.take i).any fun t => subB t x
def oneCode (m : Nat) (l : List (BitVec 16)) (i : Nat) (x : BitVec 16) : Ctl Unit Int := bif decide (2 ^ m ≤ x.toNat) then .ret 1 else bif badAt l i x then .ret 4 else .go ()
theorem cnt_nat (k : Nat) : cnt (k : Int) = some k := by unfold cnt; rw [if_pos (by omega)]; rfl
theorem check_one {m i : Nat} {l : List (BitVec 16)} (hl : l.length ≤ 300) (hi : i < l.length) : quorum_Check_B1 (m : Int) l i () = some (oneCode m l i l[i]) := by
  unfold quorum_Check_B1 oneCode
  rw [lat_i hi, Option.bind_some, cnt_nat, Option.bind_some]
  have e1 : (((l[i] >>> m).toNat : Int) != ((0 : BitVec 16).toNat : Int)) = decide (2 ^ m ≤ l[i].toNat) := by
    rw [u_bne, Bool.eq_iff_iff, bne_iff_ne, decide_eq_true_eq, ne_eq, BitVec.toNat_eq, BitVec.toNat_ushiftRight, Nat.shiftRight_eq_div_pow]
    show ¬ l[i].toNat / 2 ^ m = 0 ↔ _
    rw [Nat.div_eq_zero_iff]
    have := Nat.two_pow_pos m
    omega
  rw [e1]
  cases decide (2 ^ m ≤ l[i].toNat) with
  | true => rfl
  | false =>
    rw [cond_false, cond_false]
    have e2 : (bif decide ((i : Int) > (0 : Int)) then ((lat l (w64 ((i : Int) - (1 : Int)))).bind fun x20 => (quorum_compare x20 l[i]).bind fun r23 => some (decide (r23 ≥ (0 : Int)))) else some false) = some (decide (0 < i) && !(qlt (l[i - 1]?.getD 0) l[i])) := by
      by_cases h : 0 < i
      · have e : w64 ((i : Int) - 1) = ((i - 1 : Nat) : Int) := by rw [w64_id (by omega) (by omega)]; omega
        have hi1 : i - 1 < l.length := by omega
        rw [decide_eq_true (show (i : Int) > 0 by omega), cond_true, e, lat_i hi1, Option.bind_some, qcmp_eq, Option.bind_some, decide_eq_true h, Bool.true_and, List.getElem?_eq_getElem hi1, Option.getD_some]
        refine congrArg some ?_
        unfold qlt
        rw [Bool.eq_iff_iff, decide_eq_true_eq, Bool.not_eq_true', decide_eq_false_iff_not]
        omega
      · rw [decide_eq_false (show ¬ (i : Int) > 0 by omega), cond_false, decide_eq_false h]; rfl
    rw [e2, Option.bind_some]
    have e3 : cutL l 0 (i : Int) = some (l.take i) := by unfold cutL; rw [if_pos (by omega)]; simp
    rw [e3, Option.bind_some, contains_law, Option.bind_some, or_some, Option.bind_some, cond_some]
    rfl
theorem err_one {m i fu : Nat} {l : List (BitVec 16)} (hm : m ≤ 10) (hfu : 2 ^ 16 < fu) (hl : l.length ≤ 300) (hi : i < l.length) : partref_QuorumErr_B0 fu (m : Int) l i () = some (oneCode m l i l[i]) := by
  unfold partref_QuorumErr_B0 oneCode
  have hp : 2 ^ m ≤ 2 ^ 10 := Nat.pow_le_pow_right (by omega) hm
  have hw : w64 ((1 : Int) * 2 ^ (min m 64)) = ((2 ^ m : Nat) : Int) := by
    rw [Nat.min_eq_left (by omega), Int.one_mul, show ((2 : Int) ^ m) = ((2 ^ m : Nat) : Int) by simp]
    generalize 2 ^ m = q at hp ⊢
    exact w64_id (by omega) (by omega)
  rw [lat_i hi, Option.bind_some, cnt_nat, Option.bind_some, hw]
  have e1 : decide ((l[i].toNat : Int) ≥ ((2 ^ m : Nat) : Int)) = decide (2 ^ m ≤ l[i].toNat) := by
    rw [Bool.eq_iff_iff, decide_eq_true_eq, decide_eq_true_eq]; omega
  rw [e1]
  cases decide (2 ^ m ≤ l[i].toNat) with
  | true => rfl
  | false =>
    rw [cond_false, cond_false]
    have e2 : (bif decide ((i : Int) > (0 : Int)) then ((partref_size fu l[i]).bind fun r23 => (lat l (w64 ((i : Int) - (1 : Int)))).bind fun x27 => (partref_size fu x27).bind fun r30 => (bif decide (r23 < r30) then (some true) else (partref_size fu l[i]).bind fun r37 => (lat l (w64 ((i : Int) - (1 : Int)))).bind fun x41 => (partref_size fu x41).bind fun r44 =>
        (bif r37 == r44 then ((lat l (w64 ((i : Int) - (1 : Int)))).bind fun x51 => some (decide ((l[i].toNat : Int) ≤ (x51.toNat : Int)))) else some false).bind fun y49 => some y49).bind fun y35 => some y35) else some false) = some (decide (0 < i) && !(qlt (l[i - 1]?.getD 0) l[i])) := by
      by_cases h : 0 < i
      · have e : w64 ((i : Int) - 1) = ((i - 1 : Nat) : Int) := by rw [w64_id (by omega) (by omega)]; omega
        have hi1 : i - 1 < l.length := by omega
        rw [decide_eq_true (show (i : Int) > 0 by omega), cond_true, e, lat_i hi1, decide_eq_true h, Bool.true_and, List.getElem?_eq_getElem hi1, Option.getD_some]
        simp only [size_law hfu, Option.bind_some, and_some, or_some]
        refine congrArg some ?_
        rw [Bool.eq_iff_iff, Bool.not_eq_true', qlt_false, Bool.or_eq_true, Bool.and_eq_true, decide_eq_true_eq, decide_eq_true_eq, beq_iff_eq]
        omega
      · rw [decide_eq_false (show ¬ (i : Int) > 0 by omega), cond_false, decide_eq_false h]; rfl
    rw [e2, Option.bind_some]
    have e3 : cutL l 0 (i : Int) = some (l.take i) := by unfold cutL; rw [if_pos (by omega)]; simp
    rw [e3, Option.bind_some, err_ct, Option.bind_some, or_some, Option.bind_some, cond_some]
    rfl
theorem codes {n : Int} {l : List (BitVec 16)} {fu : Nat} (hfu : 2 ^ 16 < fu) : ∃ c, quorum_Check n l = some c ∧ partref_QuorumErr fu n l = some c ∧ (c = 0 → ∃ m : Nat, n = (m : Int) ∧ m ≤ 10 ∧ 1 ≤ m ∧ l.length ≤ 300) := by
  unfold quorum_Check partref_QuorumErr quorum_in
  rw [and_some, Option.bind_some, or_some, Option.bind_some, Option.bind_some]
  by_cases h1 : n ≥ 1 ∧ n ≤ 10
  · obtain ⟨m, rfl⟩ := int_nat (show 0 ≤ n by omega)
    rw [decide_eq_true h1.1, decide_eq_true h1.2, decide_eq_false (show ¬ (m : Int) < 1 by omega), decide_eq_false (show ¬ (m : Int) > 10 by omega)]
    simp only [Bool.and_self, Bool.not_true, cond_false, Bool.or_self]
    by_cases h2 : (l.length : Int) > 300
    · rw [decide_eq_true h2]
      exact ⟨2, rfl, rfl, fun e => by omega⟩
    · rw [decide_eq_false h2, cond_false, cond_false]
      have hl : l.length ≤ 300 := by omega
      have e1 : rangeM (quorum_Check_B1 (m : Int) l) l.length 0 () = rangeM (fun i _ => some (oneCode m l i (l[i]?.getD 0))) l.length 0 () := rangeM_congr _ _ _ fun j s _ hj => by
        rw [check_one hl (by omega), List.getElem?_eq_getElem (by omega), Option.getD_some]
      have e2 : rangeM (partref_QuorumErr_B0 fu (m : Int) l) l.length 0 () = rangeM (fun i _ => some (oneCode m l i (l[i]?.getD 0))) l.length 0 () := rangeM_congr _ _ _ fun j s _ hj => by
        rw [err_one (by omega) hfu hl (by omega), List.getElem?_eq_getElem (by omega), Option.getD_some]
      rw [e1, e2]
      obtain ⟨c, ec, _⟩ : Tot (andThen (rangeM (fun i (_ : Unit) => some (oneCode m l i (l[i]?.getD 0))) l.length 0 ()) fun _ => some (0 : Int)) fun _ => True := by
        rw [Tot.andThen_iff]
        refine Tot.rangeM (fun _ _ => True) trivial ?_ fun _ _ => Tot.some_iff.2 trivial
        intro i _ _ _ _
        rw [Tot.some_iff]
        unfold oneCode
        cases decide (2 ^ m ≤ (l[i]?.getD 0).toNat) <;> cases badAt l i (l[i]?.getD 0) <;> trivial
      exact ⟨c, ec, ec, fun _ => ⟨m, rfl, by omega, by omega, hl⟩⟩
  · have e1 : (!(decide (n ≥ 1) && decide (n ≤ 10))) = true := by
      rw [Bool.not_eq_true', Bool.and_eq_false_iff, decide_eq_false_iff_not, decide_eq_false_iff_not]; omega
    have e2 : (decide (n < 1) || decide (n > 10)) = true := by
      rw [Bool.or_eq_true, decide_eq_true_eq, decide_eq_true_eq]; omega
    rw [e1, e2]
    exact ⟨1, rfl, rfl, fun e => by omega⟩

/-! ### Dual -/
theorem dual_law {m fu : Nat} {l : List (BitVec 16)} (hm : m ≤ 10) (hfu : 2 ^ 17 < fu) : quorum_minimal_Dual_1 fu (m : Int) l = some (leastSets m fun s => meetsB s l) := by
  refine Tot.eq ?_
  unfold quorum_minimal_Dual_1
  rw [cnt_nat, Option.bind_some, Tot.andThen_iff]
  refine (collect_law (good := fun s => meetsB s l) (gd := fun s => quorum_Dual_1 s l) hm (by omega) (fun s => by unfold quorum_Dual_1; rw [meets_law]; rfl) (body := quorum_minimal_Dual_1_B0 l m) fun z => rfl).mono ?_
  rintro o ⟨s, rfl⟩
  show Tot ((slices_SortFunc_uint16_uint16_quorum_compare fu _).bind _) _
  have hl := inOrder_len (good := fun s => meetsB s l) hm (m + 1)
  rw [sort_law hm (by omega), Option.bind_some, pick_law (r := inOrder m fun s => meetsB s l) (by unfold inOrder; exact Nat.le_trans hl (by omega)) (body := quorum_minimal_Dual_1_B2 (inOrder m fun s => meetsB s l)) fun i z => rfl, Option.bind_some, Tot.some_iff]
  rfl
theorem least_law {m fu : Nat} {l : List (BitVec 16)} (hm : m ≤ 10) (hfu : 2 ^ 17 < fu) : partref_LeastSets_QuorumSays_1 fu (m : Int) l = some (leastSets m fun s => meetsB s l) := by
  unfold partref_LeastSets_QuorumSays_1
  have e : upTo (w64 ((m : Int) + 1)) = some (m + 1) := by
    rw [w64_id (by omega) (by omega)]
    unfold upTo
    rw [if_pos (by omega)]
    rfl
  rw [e, Option.bind_some, ref_rounds (good := fun s => meetsB s l) hm hfu (gd := fun s => partlaw_QuorumSays_1 s l) (fun s => lawmeets s l) (b2 := fun k => partref_LeastSets_QuorumSays_1_B2 fu l k m) (fun k z => rfl) (b0 := partref_LeastSets_QuorumSays_1_B0 fu (m : Int) l) (fun k z => by unfold partref_LeastSets_QuorumSays_1_B0; rw [cnt_nat, Option.bind_some])]
  rfl
theorem equal_self (l : List (BitVec 16)) : slices_Equal_uint16_uint16 l l = some true := by
  unfold slices_Equal_uint16_uint16
  rw [show ((l.length : Int) != (l.length : Int)) = false from by simp, cond_false, rangeM_all l.length 0 fun j _ hj => by
    unfold slices_Equal_uint16_uint16_B0
    rw [lat_i (by omega), Option.bind_some, Option.bind_some]
    simp]
  rfl
theorem pairs_law {l : List (BitVec 16)} {s : BitVec 16} : rangeF (partlaw_QuorumSays_B0 l s) l.length 0 (true, false) = some (!(l.any fun s => !(meetsB s l)), l.any fun t => subB t s) := by
  have inner : ∀ (x : BitVec 16) (b : Bool), rangeF (partlaw_QuorumSays_B2 l x) l.length 0 b = some (b && meetsB x l) := by
    intro x b
    refine Tot.eq ?_
    refine Tot.rangeF (fun i z => z = (b && meetsB x (l.take i))) (by simp [meetsB]) ?_ ?_
    · rintro i z _ hi rfl
      have hi : i < l.length := by omega
      unfold partlaw_QuorumSays_B2
      rw [lat_i hi, Option.bind_some, and_some, Option.bind_some, Tot.some_iff]
      have e : decide (((x &&& l[i]).toNat : Int) > ((0 : BitVec 16).toNat : Int)) = !(decide (x &&& l[i] = 0)) := by
        rw [← and_zero, Bool.eq_iff_iff, decide_eq_true_eq, Bool.not_eq_true', beq_eq_false_iff_ne]
        show ((x &&& l[i]).toNat : Int) > 0 ↔ ((x &&& l[i]).toNat : Int) ≠ 0
        omega
      rw [e, List.take_add_one, List.getElem?_eq_getElem hi]
      unfold meetsB
      rw [List.any_append]
      simp [Bool.and_assoc]
    · intro z hz
      rw [Nat.zero_add, List.take_length] at hz
      exact hz
  refine Tot.eq ?_
  refine Tot.rangeF (fun i z => z = (!((l.take i).any fun s => !(meetsB s l)), (l.take i).any fun t => subB t s)) rfl ?_ ?_
  · rintro i z _ hi rfl
    have hi : i < l.length := by omega
    unfold partlaw_QuorumSays_B0
    simp only
    rw [lat_i hi, Option.bind_some, or_some, Option.bind_some, inner, Option.bind_some, Tot.some_iff]
    have e : (((l[i] ||| s).toNat : Int) == (s.toNat : Int)) = subB l[i] s := by rw [← or_sub, BitVec.or_comm]
    have ht : l.take (i + 1) = l.take i ++ [l[i]] := by rw [List.take_add_one, List.getElem?_eq_getElem hi]; rfl
    rw [e, ht]
    simp only [List.any_append, List.any_cons, List.any_nil, Bool.or_false, Bool.not_or, Bool.not_not]
  · intro z hz
    rw [Nat.zero_add, List.take_length] at hz
    exact hz
theorem quorumsays_law (n : Int) (l : List (BitVec 16)) (s : BitVec 16) (_ : Rng.ok n) (_ : Rng.ok l) (_ : Rng.ok s) : ∃ fu, partlaw_QuorumSays fu n l s = some true := by
  refine ⟨2 ^ 18, ?_⟩
  obtain ⟨c, h1, h2, h3⟩ := codes (n := n) (l := l) (fu := 2 ^ 18) (by decide)
  unfold partlaw_QuorumSays quorum_Meets quorum_Dual quorum_Has
  generalize hfu : 2 ^ 18 = fu at *
  rw [h1, h2]
  simp only [Option.bind_some, bne_self_eq_false, cond_false]
  by_cases h0 : c = 0
  · subst h0
    obtain ⟨m, rfl, hm, hm1, hl⟩ := h3 rfl
    simp only [bne_self_eq_false, cond_false, Option.bind_some, Meets_ct, dual_law hm (show 2 ^ 17 < fu by omega), least_law hm (show 2 ^ 17 < fu by omega), contains_law, pairs_law, equal_self]
    simp
  · have e : (c != 0) = true := by simpa using h0
    simp [e]
end Go.Proofs.Ytnljiedichjagaa
