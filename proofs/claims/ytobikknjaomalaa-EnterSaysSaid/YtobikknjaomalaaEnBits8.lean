/-
  The number of ones of a byte.
-/
import Derived.Test.YtobikknjaomalaaEnSp
import Derived.Test.YtobikknjaomalaaGoW
namespace Go.Proofs.Ytobikknjaomalaa
open Enc

/-- The number of ones among the first bits. -/
def pcF : Nat → Nat → Nat
  | 0, _ => 0
  | f + 1, m => m % 2 + pcF f (m / 2)
theorem pcF_add : ∀ (a b m : Nat), pcF (a + b) m = pcF a (m % 2 ^ a) + pcF b (m / 2 ^ a)
  | 0, b, m => by simp [pcF]
  | a + 1, b, m => by
    rw [show a + 1 + b = (a + b) + 1 by omega]
    show m % 2 + pcF (a + b) (m / 2) = (m % 2 ^ (a + 1)) % 2 + pcF a (m % 2 ^ (a + 1) / 2) + pcF b (m / 2 ^ (a + 1))
    rw [pcF_add a b (m / 2)]
    have e1 : m % 2 ^ (a + 1) % 2 = m % 2 := by
      rw [Nat.pow_succ, Nat.mul_comm, Nat.mod_mul_right_mod]
    have e2 : m % 2 ^ (a + 1) / 2 = m / 2 % 2 ^ a := by
      rw [Nat.pow_succ, Nat.mul_comm, Nat.mod_mul_right_div_self]
    have e3 : m / 2 / 2 ^ a = m / 2 ^ (a + 1) := by
      rw [Nat.div_div_eq_div_mul, Nat.pow_succ, Nat.mul_comm]
    rw [e1, e2, e3]; omega
theorem pcF_le : ∀ (a m : Nat), pcF a m ≤ a
  | 0, _ => Nat.le_refl _
  | a + 1, m => by
    have := pcF_le a (m / 2)
    show m % 2 + pcF a (m / 2) ≤ a + 1
    omega
def pc (x : BitVec 16) : Nat := pcF 16 x.toNat
theorem pc_le (x : BitVec 16) : pc x ≤ 16 := pcF_le _ _
theorem ones_at {tbl : Str} (ht : (List.range 256).all (fun k => match tbl[k]? with
    | none => false
    | some v => decide (v.toNat = pcF 8 k)) = true) {k : Nat} (hk : k < 256) : ∃ v : UInt8, lat tbl (k : Int) = some v ∧ v.toNat = pcF 8 k := by
  have := List.all_eq_true.1 ht k (List.mem_range.2 hk)
  rw [lat_nat]
  cases h : tbl[k]? with
  | none => rw [h] at this; cases this
  | some v => rw [h] at this; exact ⟨v, rfl, by simpa using this⟩
theorem size_law {fu : Nat} (hfu : 2 ^ 16 < fu) (x : BitVec 16) : partref_size fu x = some (pc x : Int) := by
  refine Tot.eq ?_
  unfold partref_size
  rw [Tot.andThen_iff]
  have hx := x.isLt
  refine Tot.whileM (fun z : (BitVec 16) × Int => ∃ f : Nat, f ≤ 16 ∧ z.1.toNat < 2 ^ f ∧ z.2 + pcF f z.1.toNat = pc x ∧ 0 ≤ z.2) (fun z => z.1.toNat) ⟨16, by omega, hx, by unfold pc; simp, by simp only; omega⟩ (by simp only; omega) ?_
  rintro ⟨y, n⟩ ⟨f, hf, h1, h2, h0⟩
  simp only at h1 h2 h0
  unfold partref_size_B0
  simp only
  rw [Tot.ite_iff]
  refine ⟨fun k => ?_, fun k => ?_⟩
  · have k : 0 < y.toNat := by have := of_decide_eq_true k; simp at this; omega
    obtain ⟨f, rfl⟩ : ∃ g, f = g + 1 := ⟨f - 1, by
      rcases Nat.eq_zero_or_pos f with rfl | q
      · simp at h1; omega
      · omega⟩
    have e1 : (y / (2 : BitVec 16)).toNat = y.toNat / 2 := by rw [BitVec.toNat_udiv]; rfl
    have e2 : (y % (2 : BitVec 16)).toNat = y.toNat % 2 := by rw [BitVec.toNat_umod]; rfl
    have hp : pcF (f + 1) y.toNat = y.toNat % 2 + pcF f (y.toNat / 2) := rfl
    have hle := pc_le x
    rw [Tot.some_iff, e2, w64_id (by omega) (by omega)]
    refine ⟨⟨f, by omega, ?_, ?_, by simp only; omega⟩, ?_⟩
    · simp only [e1]; rw [Nat.pow_succ] at h1; omega
    · simp only [e1]; rw [hp] at h2; push_cast at h2 ⊢; omega
    · simp only [e1]; omega
  · have k : y.toNat = 0 := by have := of_decide_eq_false k; simp at this; omega
    rw [Tot.some_iff]
    show Tot (some n) _
    rw [Tot.some_iff]
    rw [k] at h2
    have hz : ∀ f, pcF f 0 = 0 := by
      intro f
      induction f with
      | zero => rfl
      | succ f ih => show 0 % 2 + pcF f (0 / 2) = 0; simpa using ih
    rw [hz] at h2
    omega
theorem pcF_small {m : Nat} (h : m < 256) : pcF 16 m = pcF 8 m := by
  have := pcF_add 8 8 m
  rw [show m / 2 ^ 8 = 0 by omega, Nat.mod_eq_of_lt (by omega)] at this
  rw [this]; simp [pcF]
def one8 (x : BitVec 8) : Nat := pcF 8 x.toNat
theorem one8_le (x : BitVec 8) : one8 x ≤ 8 := pcF_le _ _
theorem size8 {fu : Nat} (hfu : 2 ^ 16 < fu) (x : BitVec 8) : partref_size fu (BitVec.ofInt 16 (x.toNat : Int)) = some (one8 x : Int) := by
  rw [size_law hfu]
  have hx := x.isLt
  congr 2
  unfold pc one8
  have : (BitVec.ofInt 16 (x.toNat : Int)).toNat = x.toNat := by rw [BitVec.toNat_ofInt]; omega
  rw [this, pcF_small (by omega)]
end Go.Proofs.Ytobikknjaomalaa
