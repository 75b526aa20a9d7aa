/-
  Lists of sets: the check.
-/
import Derived.Test.YticifbmaapnfbaaLsLib
namespace Go.Proofs.Yticifbmaapnfbaa
open Enc

def xa (a : List (BitVec 16)) (i : Nat) : BitVec 16 := a[i]?.getD 0
theorem xa_get {a : List (BitVec 16)} {i : Nat} (h : i < a.length) : a[i]? = some (xa a i) := by simp [xa, h]
theorem lat_xa {a : List (BitVec 16)} {i : Nat} (h : i < a.length) : lat a (i : Int) = some (xa a i) := by rw [lat_nat, xa_get h]
theorem xa_mem {a : List (BitVec 16)} {x : BitVec 16} : x ∈ a ↔ ∃ i, i < a.length ∧ xa a i = x := by
  constructor
  · intro h
    obtain ⟨i, hi⟩ := List.getElem?_of_mem h
    have hl := (List.getElem?_eq_some_iff.1 hi).1
    rw [xa_get hl] at hi
    exact ⟨i, hl, Option.some.inj hi⟩
  · rintro ⟨i, hi, rfl⟩
    exact List.mem_of_getElem? (xa_get hi)
def Up (a : List (BitVec 16)) : Prop := ∀ i j, i < j → j < a.length → (xa a i).toNat < (xa a j).toNat
theorem Up.of {a : List (BitVec 16)} (h : ∀ i, i + 1 < a.length → (xa a i).toNat < (xa a (i + 1)).toNat) : Up a := by
  intro i j hij
  induction j with
  | zero => omega
  | succ j ih =>
    intro hj
    have h1 := h j hj
    by_cases e : i = j
    · subst e; exact h1
    · have := ih (by omega) (by omega); omega
theorem mid_eq {i j : Nat} (h : i + j ≤ 2 ^ 40) : w64 (((BitVec.ofInt 64 (w64 ((i : Int) + (j : Int)))) >>> 1).toNat : Int) = (((i + j) / 2 : Nat) : Int) := by
  rw [w64_id (x := (i : Int) + (j : Int)) (by omega) (by omega), BitVec.toNat_ushiftRight, BitVec.toNat_ofInt, Nat.shiftRight_eq_div_pow]
  have : (((i : Int) + (j : Int)) % ((2 ^ 64 : Nat) : Int)).toNat = i + j := by omega
  rw [this]
  exact w64_id (by omega) (by omega)
theorem less_eq (x y : BitVec 16) : cmp_Less_uint16 x y = some (decide ((x.toNat : Int) < (y.toNat : Int))) := by
  unfold cmp_Less_uint16 cmp_isNaN_uint16
  simp
theorem bs_law {a : List (BitVec 16)} (hs : Up a) (hn : a.length ≤ 5000) (x : BitVec 16) {fu : Nat} (hf : a.length < fu) : ∃ r, slices_BinarySearch_uint16_uint16 fu a x = some (r, decide (x ∈ a)) := by
  have : Tot (slices_BinarySearch_uint16_uint16 fu a x) fun q => q.2 = decide (x ∈ a) := by
    unfold slices_BinarySearch_uint16_uint16
    rw [Tot.andThen_iff]
    refine Tot.whileM (fun z => ∃ i j : Nat, z = ((i : Int), (j : Int)) ∧ i ≤ j ∧ j ≤ a.length ∧ (∀ k, k < i → (xa a k).toNat < x.toNat) ∧ (∀ k, j ≤ k → k < a.length → x.toNat ≤ (xa a k).toNat)) (fun z => (z.2 - z.1).toNat)
      ⟨0, a.length, rfl, Nat.zero_le _, Nat.le_refl _, fun k h => by omega, fun k h1 h2 => by omega⟩ (by simp; omega) ?_
    rintro _ ⟨i, j, rfl, hij, hj, h1, h2⟩
    unfold slices_BinarySearch_uint16_uint16_B0
    simp only
    rw [Tot.ite_iff]
    constructor
    · intro hc
      have hc' : i < j := by have := of_decide_eq_true hc; omega
      have hm : (i + j) / 2 < a.length := by omega
      rw [mid_eq (by omega), lat_xa hm, Option.bind_some, less_eq, Option.bind_some, Tot.ite_iff]
      constructor
      · intro hl
        have hl' := of_decide_eq_true hl
        rw [w64_id (by omega) (by omega)]
        refine Tot.some_iff.2 (Tot.go_iff.2 ⟨⟨(i + j) / 2 + 1, j, rfl, by omega, hj, fun k hk => ?_, h2⟩, by simp only; omega⟩)
        by_cases e : k = (i + j) / 2
        · subst e; omega
        · have := hs k ((i + j) / 2) (by omega) hm; omega
      · intro hl
        have hl' := of_decide_eq_false hl
        refine Tot.some_iff.2 (Tot.go_iff.2 ⟨⟨i, (i + j) / 2, rfl, by omega, by omega, h1, fun k hk hk2 => ?_⟩, by simp only; omega⟩)
        by_cases e : k = (i + j) / 2
        · subst e; omega
        · have := hs ((i + j) / 2) k (by omega) hk2; omega
    · intro hc
      have hc' : i = j := by have := of_decide_eq_false hc; omega
      subst hc'
      refine Tot.some_iff.2 (Tot.brk_iff.2 (Tot.inl_iff.2 ?_))
      simp only
      have key : x ∈ a → i < a.length ∧ xa a i = x := fun hx => by
        obtain ⟨k, hk, e⟩ := xa_mem.1 hx
        have h3 : ¬ k < i := fun h => by have := h1 k h; rw [e] at this; omega
        by_cases e2 : k = i
        · subst e2; exact ⟨hk, e⟩
        · have h4 := hs i k (by omega) hk
          have h5 := h2 i (Nat.le_refl _) (by omega)
          rw [e] at h4; omega
      rw [Tot.ite_iff]
      constructor
      · intro hc
        have hi : i < a.length := by have := of_decide_eq_true hc; omega
        rw [lat_xa hi, Option.bind_some, Tot.ite_iff, u_beq]
        constructor
        · intro he
          have he' : xa a i = x := by simpa using he
          exact Tot.some_iff.2 (decide_eq_true (xa_mem.2 ⟨i, hi, he'⟩)).symm
        · intro he
          have he' : xa a i ≠ x := by simpa using he
          have hno : x ∉ a := fun h => he' (key h).2
          simp only [Option.bind_some, slices_isNaN_uint16, bne_self_eq_false, cond_false]
          exact Tot.some_iff.2 (decide_eq_false hno).symm
      · intro hc
        have hi : ¬ i < a.length := by have := of_decide_eq_false hc; omega
        exact Tot.some_iff.2 (decide_eq_false fun h => hi (key h).1).symm
  obtain ⟨⟨r, b⟩, e, h⟩ := this
  exact ⟨r, by rw [e]; simp only at h; rw [h]⟩
theorem indices_law (a : List (BitVec 16)) : ∃ m, lat_indices a = some m ∧ ∀ x, (mget m x).isSome = decide (x ∈ a) := by
  have : Tot (lat_indices a) fun m => ∀ x, (mget m x).isSome = decide (x ∈ a) := by
    unfold lat_indices
    rw [Tot.bind_iff]
    refine Tot.rangeF (fun i m => ∀ x, (mget m x).isSome = decide (x ∈ a.take i)) (fun x => by simp [mget_nil]) ?_ ?_
    · intro i m _ hi hI
      have hi' : i < a.length := by omega
      unfold lat_indices_B0
      rw [lat_xa hi', Option.bind_some, Let_eq]
      refine Tot.some_iff.2 fun x => ?_
      have e := xa_get hi'
      rw [mget_mset, List.take_succ_eq_append_getElem hi']
      rw [List.getElem?_eq_getElem hi'] at e
      rw [Option.some.inj e]
      by_cases h : x = xa a i
      · simp [h]
      · rw [if_neg h, hI x]; simp [h]
    · intro m hm
      refine Tot.some_iff.2 fun x => ?_
      have := hm x
      rwa [Nat.zero_add, List.take_length] at this
  exact this
theorem sets_B0 {a : List (BitVec 16)} {i : Nat} : partref_SetsErr_B0 a i () = lat_Check_B0 a i () := by
  unfold partref_SetsErr_B0 lat_Check_B0
  cases lat a (i : Int) with
  | none => rfl
  | some x =>
    rw [Option.bind_some, Option.bind_some]
    have : decide ((x.toNat : Int) > ((4095 : BitVec 16).toNat : Int)) = (((x >>> 12).toNat : Int) != ((0 : BitVec 16).toNat : Int)) := by
      rw [u_bne, Bool.eq_iff_iff, decide_eq_true_eq, bne_iff_ne, ne_eq, ← BitVec.toNat_inj, BitVec.toNat_ushiftRight, Nat.shiftRight_eq_div_pow]
      have h1 : ((4095 : BitVec 16).toNat : Int) = 4095 := rfl
      have h2 : (0 : BitVec 16).toNat = 0 := rfl
      rw [h1, h2]; omega
    rw [this]
theorem B0_some {a : List (BitVec 16)} {i : Nat} (hn : a.length ≤ 5000) (hi : i < a.length) : (lat_Check_B0 a i () = some (.go ()) ∧ (i = 0 ∨ (xa a (i - 1)).toNat < (xa a i).toNat)) ∨ ∃ t, t ≠ 0 ∧ lat_Check_B0 a i () = some (.ret t) := by
  unfold lat_Check_B0
  rw [lat_xa hi, Option.bind_some]
  cases ((xa a i >>> 12).toNat : Int) != ((0 : BitVec 16).toNat : Int) with
  | true => exact .inr ⟨1, by decide, rfl⟩
  | false =>
    rw [cond_false]
    by_cases h0 : i = 0
    · subst h0; exact .inl ⟨rfl, .inl rfl⟩
    · rw [show decide ((i : Int) > 0) = true from decide_eq_true (by omega), cond_true, w64_id (by omega) (by omega), show (i : Int) - 1 = ((i - 1 : Nat) : Int) by omega, lat_xa (by omega), Option.bind_some, Option.bind_some]
      cases h : decide (((xa a i).toNat : Int) ≤ ((xa a (i - 1)).toNat : Int)) with
      | true => exact .inr ⟨4, by decide, rfl⟩
      | false => exact .inl ⟨rfl, .inr (by have := of_decide_eq_false h; omega)⟩
structure SetsOk (a : List (BitVec 16)) : Prop where
  n1 : 1 ≤ a.length
  n2 : a.length ≤ 300
  up : Up a
  zero : xa a 0 = 0
  join : ∀ i j, i < a.length → j < a.length → (xa a i ||| xa a j) ∈ a
  meet : ∀ i j, i < a.length → j < a.length → (xa a i &&& xa a j) ∈ a
theorem check_law (a : List (BitVec 16)) {fu : Nat} (hf : 400 ≤ fu) : ∃ c, lat_Check a = some c ∧ partref_SetsErr fu a = some c ∧ (c = 0 → SetsOk a) := by
  unfold lat_Check partref_SetsErr
  have a1 : decide ((a.length : Int) < 1) = ((a.length : Int) == 0) := by rw [Bool.eq_iff_iff, decide_eq_true_eq, beq_iff_eq]; omega
  rw [a1]
  simp only [cond_some, Option.bind_some, Bool.cond_true_left]
  cases hc : ((a.length : Int) == 0 || decide ((a.length : Int) > 4096)) with
  | true => exact ⟨2, rfl, rfl, fun h => by cases h⟩
  | false =>
  have hn : 1 ≤ a.length ∧ a.length ≤ 4096 := by simp only [Bool.or_eq_false_iff, beq_eq_false_iff_ne, decide_eq_false_iff_not] at hc; omega
  rw [cond_false, cond_false, show (0 : Int) = ((0 : Nat) : Int) from rfl, lat_xa (by omega), Option.bind_some, Option.bind_some]
  have a2 : decide (((xa a 0).toNat : Int) > ((0 : BitVec 16).toNat : Int)) = (((xa a 0).toNat : Int) != ((0 : BitVec 16).toNat : Int)) := by
    rw [Bool.eq_iff_iff, decide_eq_true_eq, bne_iff_ne]
    have : ((0 : BitVec 16).toNat : Int) = 0 := rfl
    rw [this]; omega
  rw [a2, u_bne]
  cases h0 : (xa a 0 != 0) with
  | true => exact ⟨4, rfl, rfl, fun h => by cases h⟩
  | false =>
  have h0' : xa a 0 = 0 := by simpa using h0
  rw [cond_false, cond_false, rangeM_congr (f := partref_SetsErr_B0 a) (g := lat_Check_B0 a) a.length 0 () fun j _ _ _ => sets_B0]
  have hl : Tot (rangeM (lat_Check_B0 a) a.length 0 ()) fun o => match o with | .inl _ => Up a | .inr t => t ≠ 0 := by
    refine Tot.rangeM (fun i _ => ∀ j, j + 1 < i → (xa a j).toNat < (xa a (j + 1)).toNat) (fun j h => by omega) ?_ ?_
    · intro i _ _ hi hI
      rcases B0_some (a := a) (i := i) (by omega) (by omega) with ⟨e, h⟩ | ⟨t, ht, e⟩
      · rw [e]
        refine Tot.some_iff.2 fun j hj => ?_
        by_cases e2 : j + 1 = i
        · rcases h with h | h
          · omega
          · have : i - 1 = j := by omega
            rw [this] at h; rw [e2]; exact h
        · exact hI j (by omega)
      · rw [e]; exact Tot.some_iff.2 ht
    · intro _ hI
      rw [Nat.zero_add] at hI
      exact Up.of hI
  obtain ⟨o, ho, hq⟩ := hl
  rw [ho]
  cases o with
  | inr t => exact ⟨t, rfl, rfl, fun h => absurd h hq⟩
  | inl u =>
  have hup : Up a := hq
  simp only [andThen, Option.bind_some, Sum.elim_inl]
  cases h3 : decide ((a.length : Int) > 300) with
  | true => exact ⟨2, rfl, rfl, fun h => by cases h⟩
  | false =>
  have h3' : a.length ≤ 300 := by have := of_decide_eq_false h3; omega
  obtain ⟨m, hm, hmg⟩ := indices_law a
  rw [cond_false, cond_false, hm, Option.bind_some]
  have hb : ∀ i, i < a.length → ∀ j, j < a.length → partref_SetsErr_B4 fu a (xa a i) j () = lat_Check_B5 a m (xa a i) j () := by
    intro i hi j hj
    unfold partref_SetsErr_B4 lat_Check_B5
    obtain ⟨r1, e1⟩ := bs_law hup (by omega) (xa a i ||| xa a j) (fu := fu) (by omega)
    obtain ⟨r2, e2⟩ := bs_law hup (by omega) (xa a i &&& xa a j) (fu := fu) (by omega)
    rw [lat_xa hj, Option.bind_some, Option.bind_some, e1, Option.bind_some, e2, Option.bind_some, hmg, hmg]
    cases decide ((xa a i ||| xa a j) ∈ a) <;> cases decide ((xa a i &&& xa a j) ∈ a) <;> rfl
  have hB : ∀ i, i < a.length → partref_SetsErr_B2 fu a i () = lat_Check_B3 a m i () := by
    intro i hi
    unfold partref_SetsErr_B2 lat_Check_B3
    rw [lat_xa hi, Option.bind_some, Option.bind_some, rangeM_congr a.length 0 () fun j _ _ hj => hb i hi j (by omega)]
  have hr := rangeM_congr (f := partref_SetsErr_B2 fu a) (g := lat_Check_B3 a m) a.length 0 () fun j _ _ hj => hB j (by omega)
  rw [hr]
  have hin : ∀ i, i < a.length → Tot (rangeM (lat_Check_B5 a m (xa a i)) a.length 0 ()) fun o => match o with | .inl _ => ∀ j, j < a.length → (xa a i ||| xa a j) ∈ a ∧ (xa a i &&& xa a j) ∈ a | .inr t => t = .ret 4 := by
    intro i hi
    refine Tot.rangeM (fun k _ => ∀ j, j < k → (xa a i ||| xa a j) ∈ a ∧ (xa a i &&& xa a j) ∈ a) (fun j h => by omega) ?_ ?_
    · intro k _ _ hk hI
      unfold lat_Check_B5
      rw [lat_xa (by omega), Option.bind_some, hmg, hmg]
      by_cases q1 : (xa a i ||| xa a k) ∈ a
      · by_cases q2 : (xa a i &&& xa a k) ∈ a
        · simp only [q1, q2, decide_true, Bool.not_true, cond_false, Option.bind_some]
          refine Tot.some_iff.2 fun j hj => ?_
          by_cases e : j = k
          · subst e; exact ⟨q1, q2⟩
          · exact hI j (by omega)
        · simp only [q1, q2, decide_true, decide_false, Bool.not_true, Bool.not_false, cond_false, Option.bind_some, cond_true]
          exact Tot.some_iff.2 rfl
      · simp only [q1, decide_false, Bool.not_false, cond_true, Option.bind_some]
        exact Tot.some_iff.2 rfl
    · intro _ hI
      rw [Nat.zero_add] at hI
      exact hI
  have hout : Tot (rangeM (lat_Check_B3 a m) a.length 0 ()) fun o => match o with | .inl _ => ∀ i, i < a.length → ∀ j, j < a.length → (xa a i ||| xa a j) ∈ a ∧ (xa a i &&& xa a j) ∈ a | .inr t => t = 4 := by
    refine Tot.rangeM (fun k _ => ∀ i, i < k → ∀ j, j < a.length → (xa a i ||| xa a j) ∈ a ∧ (xa a i &&& xa a j) ∈ a) (fun j h => by omega) ?_ ?_
    · intro k _ _ hk hI
      unfold lat_Check_B3
      obtain ⟨o, ho, hq⟩ := hin k (by omega)
      rw [lat_xa (by omega), Option.bind_some]
      cases o with
      | inl u =>
        rw [ho]
        refine Tot.some_iff.2 fun i hi => ?_
        by_cases e : i = k
        · subst e; exact hq
        · exact hI i (by omega)
      | inr t =>
        rw [ho]
        simp only at hq
        subst hq
        exact Tot.some_iff.2 rfl
    · intro _ hI
      rw [Nat.zero_add] at hI
      exact hI
  obtain ⟨o, ho, hq⟩ := hout
  rw [ho]
  cases o with
  | inr t =>
    simp only at hq; subst hq
    exact ⟨4, rfl, rfl, fun h => by cases h⟩
  | inl u => exact ⟨0, rfl, rfl, fun _ => ⟨hn.1, h3', hup, h0', fun i j hi hj => (hq i hi j hj).1, fun i j hi hj => (hq i hi j hj).2⟩⟩
end Go.Proofs.Yticifbmaapnfbaa
