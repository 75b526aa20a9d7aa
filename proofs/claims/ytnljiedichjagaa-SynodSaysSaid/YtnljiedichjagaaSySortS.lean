/-
  The program's sort sorts.
-/
import Derived.Test.YtnljiedichjagaaSySort5
import Derived.Test.YtnljiedichjagaaSyStrOrd
namespace Go.Proofs.Ytnljiedichjagaa
open Enc

theorem insertion_inst (hlt : SWO (fun _ : Str => True) slt) {fu : Nat} {m : List (Str)} {a b : Nat} (hab : a ≤ b) (hb : b ≤ m.length) (hn : m.length < 2 ^ 16) (hfu : m.length + 10 < fu) : Tot (slices_insertionSortOrdered_string fu m a b) fun r => SP a b m r ∧ Srt slt a b r := by
  unfold slices_insertionSortOrdered_string
  rw [Tot.andThen_iff]
  refine (insertion_law (lt := slt) hlt hab hb (by omega) (fun _ _ => trivial) (by omega) (less := fun x y => some (slt x y)) (fun _ _ _ _ => rfl) (inner := slices_insertionSortOrdered_string_B2 (a : Int)) (fun z => ?_) (body := slices_insertionSortOrdered_string_B0 fu (a : Int) (b : Int)) (fun z => ?_)).mono ?_
  · unfold slices_insertionSortOrdered_string_B2; simp only [sless_eq, Option.bind_some]; try rfl
  · rfl
  · rintro o ⟨j, m', rfl, g1, g2⟩; exact Tot.some_iff.2 ⟨g1, g2⟩
theorem sift_inst (hlt : SWO (fun _ : Str => True) slt) {fu : Nat} {m : List (Str)} {f lo hi : Nat} (h1 : lo < hi) (hb : f + hi ≤ m.length) (hn : m.length ≤ 2 ^ 40) (hfu : hi < fu) (hh : Hp slt f (lo + 1) hi m) : Tot (slices_siftDownOrdered_string fu m lo hi f) fun r => SP (f + lo) (f + hi) m r ∧ Hp slt f lo hi r := by
  unfold slices_siftDownOrdered_string
  refine sift_law (lt := slt) hlt h1 hb hn (fun _ _ => trivial) hfu hh (body := slices_siftDownOrdered_string_B0 (hi : Int) (f : Int)) fun z => ?_
  unfold slices_siftDownOrdered_string_B0; simp only [sless_eq, Option.bind_some]; try rfl
theorem sift_zero {fu : Nat} {m : List (Str)} {f : Nat} : slices_siftDownOrdered_string (fu + 1) m 0 0 f = some m := by
  unfold slices_siftDownOrdered_string whileM
  have : slices_siftDownOrdered_string_B0 0 (f : Int) ((0 : Int), m) = some (.brk ((0 : Int), m)) := by
    unfold slices_siftDownOrdered_string_B0
    rfl
  rw [this]; rfl
theorem heap_inst (hlt : SWO (fun _ : Str => True) slt) {fu : Nat} {m : List (Str)} {a b : Nat} (hab : a < b) (hb : b ≤ m.length) (hn : m.length < 2 ^ 16) (hfu : m.length + 10 < fu) : Tot (slices_heapSortOrdered_string fu m a b) fun r => SP a b m r ∧ Srt slt a b r := by
  obtain ⟨f, rfl⟩ : ∃ f, fu = f + 1 := ⟨fu - 1, by omega⟩
  unfold slices_heapSortOrdered_string
  refine heap_law (lt := slt) hlt hab hb (by omega) (fun _ _ => trivial) (by omega) (sift := slices_siftDownOrdered_string (f + 1)) (fun m lo hi h1 h2 h3 h4 _ h5 => sift_inst hlt h1 h2 h3 h4 h5) (fun m => sift_zero) (b0 := slices_heapSortOrdered_string_B0 (f + 1) (a : Int) (b : Int)) (fun z => rfl) (b2 := slices_heapSortOrdered_string_B2 (f + 1) (a : Int)) (fun z => rfl)
theorem reverse_inst {fu : Nat} {m : List (Str)} {a b : Nat} (hab : a + 12 < b) (hb : b ≤ m.length) (hn : m.length < 2 ^ 16) (hfu : m.length + 10 < fu) : Tot (slices_reverseRangeOrdered_string fu m a b) (SP a b m) := by
  unfold slices_reverseRangeOrdered_string
  rw [Tot.andThen_iff]
  refine (reverse_law (by omega) hb (by omega) (by omega) (body := slices_reverseRangeOrdered_string_B0) fun z => rfl).mono ?_
  rintro o ⟨i, j, m', rfl, g⟩; exact Tot.some_iff.2 g
theorem partial_inst (hlt : SWO (fun _ : Str => True) slt) {fu : Nat} {m : List (Str)} {a b : Nat} (hab : a + 12 < b) (hb : b ≤ m.length) (hn : m.length < 2 ^ 16) (hfu : m.length + 10 < fu) (hlow : Low slt a b m) : Tot (slices_partialInsertionSortOrdered_string fu m a b) fun r => SP a b m r.1 ∧ (r.2 = true → Srt slt a b r.1) := by
  unfold slices_partialInsertionSortOrdered_string
  refine partial_law (lt := slt) hlt (by omega) hb (by omega) (fun _ _ => trivial) hlow (by omega) (b2 := slices_partialInsertionSortOrdered_string_B2 (b : Int)) (fun m z => ?_) (b4 := slices_partialInsertionSortOrdered_string_B4) (fun z => ?_) (b6 := slices_partialInsertionSortOrdered_string_B6 (b : Int)) (fun z => ?_) (b0 := slices_partialInsertionSortOrdered_string_B0 fu (a : Int) (b : Int)) (fun z => rfl)
  · unfold slices_partialInsertionSortOrdered_string_B2; simp only [sless_eq, Option.bind_some]; try rfl
  · unfold slices_partialInsertionSortOrdered_string_B4; simp only [sless_eq, Option.bind_some]; try rfl
  · unfold slices_partialInsertionSortOrdered_string_B6; simp only [sless_eq, Option.bind_some]; try rfl
theorem partEqual_inst (hlt : SWO (fun _ : Str => True) slt) {fu : Nat} {m : List (Str)} {a b c : Nat} (h1 : a ≤ c) (h2 : c < b) (hb : b ≤ m.length) (hn : m.length < 2 ^ 16) (hfu : m.length + 10 < fu) : Tot (slices_partitionEqualOrdered_string fu m a b c) fun r => ∃ (p : Nat) (x : Str), r.2 = (p : Int) ∧ a < p ∧ p ≤ b ∧ SP a b m r.1 ∧ m[c]? = some x ∧ Equal2 slt a b p x r.1 := by
  unfold slices_partitionEqualOrdered_string andThen
  refine partEqual_law (lt := slt) (fun x _ => ?_) h1 h2 hb (by omega) (by omega) (b2 := slices_partitionEqualOrdered_string_B2 (a : Int)) (fun y m z => ?_) (b4 := slices_partitionEqualOrdered_string_B4 (a : Int)) (fun m y z => ?_) (b0 := slices_partitionEqualOrdered_string_B0 fu (a : Int)) (fun z => rfl) fun p j x m' k1 k2 k3 k4 k5 => Tot.some_iff.2 ⟨p, x, rfl, k1, k2, k3, k4, k5⟩
  · cases hq : slt x x with
    | false => rfl
    | true => have := hlt.asymm x x trivial trivial hq; rw [hq] at this; exact this
  · unfold slices_partitionEqualOrdered_string_B2; simp only [sless_eq, Option.bind_some]; try rfl
  · unfold slices_partitionEqualOrdered_string_B4; simp only [sless_eq, Option.bind_some]; try rfl
theorem partition_inst {fu : Nat} {m : List (Str)} {a b c : Nat} (h1 : a ≤ c) (h2 : c < b) (hb : b ≤ m.length) (hn : m.length < 2 ^ 16) (hfu : m.length + 10 < fu) : Tot (slices_partitionOrdered_string fu m a b c) fun r => ∃ p : Nat, r.2.1 = (p : Int) ∧ a ≤ p ∧ p < b ∧ SP a b m r.1 ∧ Parted slt a b p r.1 := by
  unfold slices_partitionOrdered_string
  refine partition_law (lt := slt) h1 h2 hb (by omega) (by omega) (b0 := fun m => slices_partitionOrdered_string_B0 (a : Int) (b : Int) m) (fun m z => ?_) (b2 := fun m y => slices_partitionOrdered_string_B2 (a : Int) m y) (fun m y z => ?_) (b6 := slices_partitionOrdered_string_B6 (a : Int)) (fun y m z => ?_) (b8 := slices_partitionOrdered_string_B8 (a : Int)) (fun m y z => ?_) (b4 := slices_partitionOrdered_string_B4 fu (a : Int)) (fun z => rfl)
  · unfold slices_partitionOrdered_string_B0; simp only [sless_eq, Option.bind_some]; try rfl
  · unfold slices_partitionOrdered_string_B2; simp only [sless_eq, Option.bind_some]; try rfl
  · unfold slices_partitionOrdered_string_B6; simp only [sless_eq, Option.bind_some]; try rfl
  · unfold slices_partitionOrdered_string_B8; simp only [sless_eq, Option.bind_some]; try rfl

/-! ### A pivot -/
theorem median_inst {S : Int → Prop} {m : List (Str)} {i j k s : Int} (hi : S i) (hj : S j) (hk : S k) (hS : ∀ k, S k → ∃ x, lat m k = some x) {σ : Type} {Q : σ → Prop} {f : Int × Int → Option σ} (hf : ∀ s' p, S p → Tot (f (s', p)) Q) : Tot ((slices_medianOrdered_string m i j k s).bind f) Q := by
  unfold slices_medianOrdered_string slices_order2Ordered_string
  simp only [sless_eq, Option.bind_some]
  rw [Option.bind_assoc]
  refine order2_law (lt := slt) (S := S) hi hj hS fun s1 i1 j1 hi1 hj1 => ?_
  rw [Option.bind_assoc]
  refine order2_law (lt := slt) (S := S) hj1 hk hS fun s2 i2 j2 hi2 hj2 => ?_
  rw [Option.bind_assoc]
  refine order2_law (lt := slt) (S := S) hi1 hi2 hS fun s3 i3 j3 hi3 hj3 => ?_
  exact hf _ _ hj3
theorem choose_inst {m : List (Str)} {a b : Nat} (hab : a + 12 < b) (hb : b ≤ m.length) (hn : m.length < 2 ^ 16) : Tot (slices_choosePivotOrdered_string m a b) fun r => ∃ p : Nat, r.1 = (p : Int) ∧ a ≤ p ∧ p < b := by
  obtain ⟨n, rfl⟩ : ∃ n, b = a + n := ⟨b - a, by omega⟩
  have e1 : w64 (((a + n : Nat) : Int) - (a : Int)) = (n : Int) := by rw [w64_id (by omega) (by omega)]; push_cast; omega
  have e2 : w64 ((n : Int).tdiv 4) = ((n / 4 : Nat) : Int) := by
    rw [show (n : Int).tdiv 4 = ((n / 4 : Nat) : Int) from (Int.ofNat_tdiv _ _).symm]
    exact w64_id (by omega) (by omega)
  have q1 : w64 ((a : Int) + w64 (((n / 4 : Nat) : Int) * 1)) = ((a + n / 4 : Nat) : Int) := by rw [w64_id (x := ((n / 4 : Nat) : Int) * 1) (by omega) (by omega), w64_id (by omega) (by omega)]; push_cast; omega
  have q2 : w64 ((a : Int) + w64 (((n / 4 : Nat) : Int) * 2)) = ((a + n / 4 * 2 : Nat) : Int) := by rw [w64_id (x := ((n / 4 : Nat) : Int) * 2) (by omega) (by omega), w64_id (by omega) (by omega)]; push_cast; omega
  have q3 : w64 ((a : Int) + w64 (((n / 4 : Nat) : Int) * 3)) = ((a + n / 4 * 3 : Nat) : Int) := by rw [w64_id (x := ((n / 4 : Nat) : Int) * 3) (by omega) (by omega), w64_id (by omega) (by omega)]; push_cast; omega
  let S : Int → Prop := fun k => (a : Int) ≤ k ∧ k < ((a + n : Nat) : Int)
  have hS : ∀ k, S k → ∃ x, lat m k = some x := by
    intro k hk
    obtain ⟨j, rfl⟩ := int_nat (show 0 ≤ k by have := hk.1; omega)
    exact ⟨_, lat_i (by have := hk.2; omega)⟩
  have hk : ∀ k : Nat, a ≤ k → k < a + n → S (k : Int) := fun k h1 h2 => ⟨by omega, by omega⟩
  have fin : ∀ (y3 y4 : Int), S y3 → Tot (bif y4 == (0 : Int) then (some (y3, (1 : Int))) else bif y4 == (12 : Int) then (some (y3, (2 : Int))) else some (y3, (0 : Int))) fun r => ∃ p : Nat, r.1 = (p : Int) ∧ a ≤ p ∧ p < a + n := by
    intro y3 y4 h3
    obtain ⟨j, rfl⟩ := int_nat (show 0 ≤ y3 by have := h3.1; omega)
    have h1 := h3.1; have h2 := h3.2
    rw [Tot.ite_iff, Tot.ite_iff]
    exact ⟨fun _ => Tot.some_iff.2 ⟨j, rfl, by omega, by omega⟩, fun _ => ⟨fun _ => Tot.some_iff.2 ⟨j, rfl, by omega, by omega⟩, fun _ => Tot.some_iff.2 ⟨j, rfl, by omega, by omega⟩⟩⟩
  unfold slices_choosePivotOrdered_string
  simp only [e1, e2, q1, q2, q3]
  rw [decide_eq_true (show (n : Int) ≥ 8 by omega), cond_true, Option.bind_assoc, Tot.bind_iff]
  have h3 : Tot (bif decide ((n : Int) ≥ (50 : Int)) then ((slices_medianAdjacentOrdered_string m ((a + n / 4 : Nat) : Int) (0 : Int)).bind fun r13 => (slices_medianAdjacentOrdered_string m ((a + n / 4 * 2 : Nat) : Int) r13.1).bind fun r17 => (slices_medianAdjacentOrdered_string m ((a + n / 4 * 3 : Nat) : Int) r17.1).bind fun r21 => some (r13.2, r17.2, r21.2, r21.1)) else
      some (((a + n / 4 : Nat) : Int), ((a + n / 4 * 2 : Nat) : Int), ((a + n / 4 * 3 : Nat) : Int), (0 : Int))) fun r => S r.1 ∧ S r.2.1 ∧ S r.2.2.1 := by
    rw [Tot.ite_iff]
    refine ⟨fun k => ?_, fun _ => Tot.some_iff.2 ⟨hk _ (by omega) (by omega), hk _ (by omega) (by omega), hk _ (by omega) (by omega)⟩⟩
    have k : 50 ≤ n := by simp at k; omega
    have adj : ∀ (p : Nat) (s : Int), a + 1 ≤ p → p + 1 < a + n → ∀ {σ : Type} {Q : σ → Prop} {f : Int × Int → Option σ}, (∀ s' q, S q → Tot (f (s', q)) Q) → Tot ((slices_medianAdjacentOrdered_string m (p : Int) s).bind f) Q := by
      intro p s p1 p2 σ Q f hf
      unfold slices_medianAdjacentOrdered_string
      rw [Option.bind_assoc, w64_id (by omega) (by omega), w64_id (by omega) (by omega)]
      refine median_inst (S := S) ⟨by omega, by omega⟩ ⟨by omega, by omega⟩ ⟨by omega, by omega⟩ hS fun s' q hq => ?_
      exact hf _ _ hq
    refine adj _ _ (by omega) (by omega) fun s1 p1 h1 => ?_
    refine adj _ _ (by omega) (by omega) fun s2 p2 h2 => ?_
    refine adj _ _ (by omega) (by omega) fun s3 p3 h3 => ?_
    exact Tot.some_iff.2 ⟨h1, h2, h3⟩
  refine h3.mono ?_
  rintro ⟨y7, y8, y9, y10⟩ ⟨k1, k2, k3⟩
  show Tot (((slices_medianOrdered_string m y7 y8 y9 y10).bind _).bind _) _
  rw [Option.bind_assoc]
  refine median_inst (S := S) k1 k2 k3 hS fun s' q hq => ?_
  exact fin q s' hq

/-! ### The next power of two -/
theorem len8 : (List.range 256).all (fun k => match ([0, 1, 2, 2, 3, 3, 3, 3, 4, 4, 4, 4, 4, 4, 4, 4, 5, 5, 5, 5, 5, 5, 5, 5, 5, 5, 5, 5, 5, 5, 5, 5, 6, 6, 6, 6, 6, 6, 6, 6, 6, 6, 6, 6, 6, 6, 6, 6, 6, 6, 6, 6, 6, 6, 6, 6, 6, 6, 6, 6, 6, 6, 6, 6, 7, 7, 7, 7, 7, 7, 7, 7, 7, 7, 7, 7, 7, 7, 7, 7, 7, 7, 7, 7, 7, 7, 7, 7, 7, 7, 7, 7, 7, 7, 7, 7, 7, 7, 7, 7, 7, 7, 7, 7, 7, 7, 7, 7, 7, 7, 7, 7, 7, 7, 7, 7, 7, 7, 7, 7, 7, 7, 7, 7, 7, 7, 7, 7, 8, 8, 8, 8, 8, 8, 8, 8, 8, 8, 8, 8, 8, 8, 8, 8, 8, 8, 8, 8, 8, 8, 8, 8, 8, 8, 8, 8, 8, 8, 8, 8, 8, 8, 8, 8, 8, 8, 8, 8, 8, 8, 8, 8, 8, 8, 8, 8, 8, 8, 8, 8, 8, 8, 8, 8, 8, 8, 8, 8, 8, 8, 8, 8, 8, 8, 8, 8, 8, 8, 8, 8, 8, 8, 8, 8, 8, 8, 8, 8, 8, 8, 8, 8, 8, 8, 8, 8, 8, 8, 8, 8, 8, 8, 8, 8, 8, 8, 8, 8, 8, 8, 8, 8, 8, 8, 8, 8, 8, 8, 8, 8, 8, 8, 8, 8, 8, 8, 8, 8, 8, 8, 8, 8, 8, 8, 8, 8] : Str)[k]? with
    | none => false
    | some v => decide (v.toNat ≤ 8 ∧ k < 2 ^ v.toNat ∧ (k = 0 ∨ 2 ^ v.toNat ≤ 2 * k))) = true := by kernel_rfl
theorem len8_at {tbl : Str} (ht : (List.range 256).all (fun k => match tbl[k]? with
    | none => false
    | some v => decide (v.toNat ≤ 8 ∧ k < 2 ^ v.toNat ∧ (k = 0 ∨ 2 ^ v.toNat ≤ 2 * k))) = true) {k : Nat} (hk : k < 256) : ∃ v : UInt8, lat tbl (k : Int) = some v ∧ v.toNat ≤ 8 ∧ k < 2 ^ v.toNat ∧ (k = 0 ∨ 2 ^ v.toNat ≤ 2 * k) := by
  have := List.all_eq_true.1 ht k (List.mem_range.2 hk)
  rw [lat_nat]
  cases h : tbl[k]? with
  | none => rw [h] at this; cases this
  | some v => rw [h] at this; exact ⟨v, rfl, by simpa using this⟩
set_option maxRecDepth 20000 in
theorem len_inst {n : Nat} (hn : n < 2 ^ 16) : ∃ k : Nat, math_bits_Len (BitVec.ofInt 64 (n : Int)) = some (k : Int) ∧ k ≤ 16 ∧ (n = 0 ∨ 2 ^ k ≤ 2 * n) := by
  have hv : (BitVec.ofInt 64 (n : Int)).toNat = n := by
    rw [BitVec.ofInt_natCast, BitVec.toNat_ofNat, Nat.mod_eq_of_lt (by omega)]
  unfold math_bits_Len math_bits_Len64
  rw [hv, decide_eq_false (show ¬ (n : Int) ≥ ((4294967296 : BitVec 64).toNat : Int) by simp; omega), cond_false, Option.bind_some]
  simp only
  rw [hv, decide_eq_false (show ¬ (n : Int) ≥ ((65536 : BitVec 64).toNat : Int) by simp; omega), cond_false, Option.bind_some]
  simp only
  rw [hv]
  by_cases h256 : 256 ≤ n
  · have hs : ((BitVec.ofInt 64 (n : Int)) >>> 8).toNat = n / 256 := by
      rw [BitVec.toNat_ushiftRight, hv, Nat.shiftRight_eq_div_pow]
    rw [decide_eq_true (show (n : Int) ≥ ((256 : BitVec 64).toNat : Int) by simp; omega), cond_true, Option.bind_some]
    simp only
    rw [hs]
    obtain ⟨v, e1, e2, e3, e4⟩ := len8_at len8 (k := n / 256) (by omega)
    have ei : ((BitVec.ofInt 8 ((n / 256 : Nat) : Int)).toNat : Int) = ((n / 256 : Nat) : Int) := by rw [BitVec.ofInt_natCast, BitVec.toNat_ofNat, Nat.mod_eq_of_lt (by omega)]
    rw [ei, e1, Option.bind_some, Option.bind_some]
    have e5 : w64 (w64 ((0 : Int) + 8) + (v.toBitVec.toNat : Int)) = ((8 + v.toNat : Nat) : Int) := by
      rw [w64_id (x := (0 : Int) + 8) (by omega) (by omega)]
      show w64 (0 + 8 + ((v.toNat : Nat) : Int)) = _
      rw [w64_id (by omega) (by omega)]; push_cast; omega
    rw [e5]
    refine ⟨_, rfl, by omega, .inr ?_⟩
    rw [Nat.pow_add]
    omega
  · rw [decide_eq_false (show ¬ (n : Int) ≥ ((256 : BitVec 64).toNat : Int) by simp; omega), cond_false, Option.bind_some]
    simp only
    rw [hv]
    obtain ⟨v, e1, e2, e3, e4⟩ := len8_at len8 (k := n) (by omega)
    have ei : ((BitVec.ofInt 8 (n : Int)).toNat : Int) = (n : Int) := by rw [BitVec.ofInt_natCast, BitVec.toNat_ofNat, Nat.mod_eq_of_lt (by omega)]
    rw [ei, e1, Option.bind_some, Option.bind_some]
    have e5 : w64 ((0 : Int) + (v.toBitVec.toNat : Int)) = ((v.toNat : Nat) : Int) := by
      show w64 (0 + ((v.toNat : Nat) : Int)) = _
      rw [w64_id (by omega) (by omega)]; omega
    rw [e5]
    exact ⟨_, rfl, by omega, e4⟩
theorem npow_inst {n : Nat} (h8 : 8 ≤ n) (hn : n < 2 ^ 16) : ∃ r, slices_nextPowerOfTwo (n : Int) = some r ∧ (r - (1 : BitVec 64)).toNat < 2 * n := by
  obtain ⟨k, ek, hk, hk2⟩ := len_inst hn
  have hk2 : 2 ^ k ≤ 2 * n := hk2.resolve_left (by omega)
  have ec : cnt (k : Int) = some k := by unfold cnt; rw [if_pos (by omega)]; rfl
  refine ⟨(1 : BitVec 64) <<< k, by unfold slices_nextPowerOfTwo; rw [ek, Option.bind_some, ec]; rfl, ?_⟩
  have hp : 1 ≤ 2 ^ k := Nat.one_le_two_pow
  have hp2 : 2 ^ k ≤ 2 ^ 16 := Nat.pow_le_pow_right (by omega) hk
  have e : ((1 : BitVec 64) <<< k).toNat = 2 ^ k := by
    rw [BitVec.toNat_shiftLeft, Nat.shiftLeft_eq]
    simp only [BitVec.ofNat_eq_ofNat, BitVec.toNat_ofNat]
    rw [Nat.mod_eq_of_lt (by omega)]; omega
  rw [BitVec.toNat_sub, e]
  simp only [BitVec.ofNat_eq_ofNat, BitVec.toNat_ofNat]
  omega
theorem break_inst {fu : Nat} {m : List (Str)} {a b : Nat} (hab : a + 12 < b) (hb : b ≤ m.length) (hn : m.length < 2 ^ 16) (hfu : m.length + 10 < fu) : Tot (slices_breakPatternsOrdered_string fu m a b) (SP a b m) := by
  obtain ⟨n, rfl⟩ : ∃ n, b = a + n := ⟨b - a, by omega⟩
  have e1 : w64 (((a + n : Nat) : Int) - (a : Int)) = (n : Int) := by rw [w64_id (by omega) (by omega)]; push_cast; omega
  unfold slices_breakPatternsOrdered_string
  obtain ⟨r5, h1, h2⟩ := npow_inst (n := n) (by omega) (by omega)
  rw [decide_eq_true (show w64 (((a + n : Nat) : Int) - (a : Int)) ≥ 8 by rw [e1]; omega), cond_true, show slices_nextPowerOfTwo (w64 (((a + n : Nat) : Int) - (a : Int))) = some r5 by rw [e1]; exact h1, Option.bind_some]
  exact break_law (by omega) hb (by omega) (by omega) h2 (nxt := slices_xorshift_Next) (fun s => ⟨_, rfl⟩) (b0 := slices_breakPatternsOrdered_string_B0 (a : Int) ((a + n : Nat) : Int) r5) fun z => rfl

/-! ### All together -/
theorem pdq_inst (hlt : SWO (fun _ : Str => True) slt) {fu : Nat} {l : List (Str)} {lim : Int} (hn : l.length < 2 ^ 16) (hfu : 2 * l.length + 20 < fu) : Tot (slices_pdqsortOrdered_string fu l 0 (l.length : Int) lim) fun r => SP 0 l.length l r ∧ Srt slt 0 l.length r := by
  refine pdq_law (lt := slt) hlt (pdq := slices_pdqsortOrdered_string) (ins := slices_insertionSortOrdered_string) (heap := slices_heapSortOrdered_string) (brk := slices_breakPatternsOrdered_string) (rev := slices_reverseRangeOrdered_string) (chs := slices_choosePivotOrdered_string) (pis := slices_partialInsertionSortOrdered_string) (pe := slices_partitionEqualOrdered_string) (pt := slices_partitionOrdered_string) (fun fu => ?_) (body := slices_pdqsortOrdered_string_B0) (fun fu rc z => ?_) (fun fu l a b lim => rfl) fu l 0 l.length lim (Nat.zero_le _) (Nat.le_refl _) hn (fun _ _ => trivial) (.inl rfl) (by omega)
  · exact ⟨fun m a b h1 h2 h3 h4 _ => insertion_inst hlt h1 h2 h3 h4, fun m a b h1 h2 h3 h4 _ => heap_inst hlt h1 h2 h3 h4, fun m a b h1 h2 h3 h4 => break_inst h1 h2 h3 h4, fun m a b h1 h2 h3 h4 => reverse_inst h1 h2 h3 h4, fun m a b h1 h2 h3 => choose_inst h1 h2 h3, fun m a b h1 h2 h3 h4 _ h5 => partial_inst hlt h1 h2 h3 h4 h5, fun m a b c h1 h2 h3 h4 h5 _ => partEqual_inst hlt h1 h2 h3 h4 h5, fun m a b c h1 h2 h3 h4 h5 => partition_inst h1 h2 h3 h4 h5⟩
  · unfold slices_pdqsortOrdered_string_B0; simp only [sless_eq, Option.bind_some]; try rfl
end Go.Proofs.Ytnljiedichjagaa
