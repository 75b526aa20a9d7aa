/-
  The order of quorums: by size, then by number.
-/
import Derived.Test.YtnljiedichjagaaQmSort5
import Derived.Test.YtnljiedichjagaaQmSp
namespace Go.Proofs.Ytnljiedichjagaa
open Enc

/-- The number of ones among the first bits. -/
def pcF : Nat → Nat → Nat
  | 0, _ => 0
  | f + 1, m => m % 2 + pcF f (m / 2)
theorem pcF_add : ∀ (a b m : Nat), pcF (a + b) m = pcF a (m % 2 ^ a) + pcF b (m / 2 ^ a)
  | 0, b, m => by simp [pcF]
  | a + 1, b, m => by
    rw [show a + 1 + b = (a + b) + 1 by omega]
    show m % 2 + pcF (a + b) (m / 2) = (m % 2 ^ (a + 1)) % 2 + pcF a (m % 2 ^ (a + 1) / 2) + pcF b (m / 2 ^ (a + 1))
    rw [pcF_add a b (m / 2)]
    have e1 : m % 2 ^ (a + 1) % 2 = m % 2 := by
      rw [Nat.pow_succ, Nat.mul_comm, Nat.mod_mul_right_mod]
    have e2 : m % 2 ^ (a + 1) / 2 = m / 2 % 2 ^ a := by
      rw [Nat.pow_succ, Nat.mul_comm, Nat.mod_mul_right_div_self]
    have e3 : m / 2 / 2 ^ a = m / 2 ^ (a + 1) := by
      rw [Nat.div_div_eq_div_mul, Nat.pow_succ, Nat.mul_comm]
    rw [e1, e2, e3]; omega
theorem pcF_le : ∀ (a m : Nat), pcF a m ≤ a
  | 0, _ => Nat.le_refl _
  | a + 1, m => by
    have := pcF_le a (m / 2)
    show m % 2 + pcF a (m / 2) ≤ a + 1
    omega
def pc (x : BitVec 16) : Nat := pcF 16 x.toNat
theorem pc_le (x : BitVec 16) : pc x ≤ 16 := pcF_le _ _
theorem ones_at {tbl : Str} (ht : (List.range 256).all (fun k => match tbl[k]? with
    | none => false
    | some v => decide (v.toNat = pcF 8 k)) = true) {k : Nat} (hk : k < 256) : ∃ v : UInt8, lat tbl (k : Int) = some v ∧ v.toNat = pcF 8 k := by
  have := List.all_eq_true.1 ht k (List.mem_range.2 hk)
  rw [lat_nat]
  cases h : tbl[k]? with
  | none => rw [h] at this; cases this
  | some v => rw [h] at this; exact ⟨v, rfl, by simpa using this⟩
theorem ones_two {tbl : Str} (ht : (List.range 256).all (fun k => match tbl[k]? with
    | none => false
    | some v => decide (v.toNat = pcF 8 k)) = true) (x : BitVec 16) : ((lat tbl ((x >>> 8).toNat : Int)).bind fun x1 => (lat tbl ((x &&& (255 : BitVec 16)).toNat : Int)).bind fun x3 => some ((x1.toBitVec + x3.toBitVec).toNat : Int)) = some (pc x : Int) := by
  have h1 : (x >>> 8).toNat = x.toNat / 2 ^ 8 := by rw [BitVec.toNat_ushiftRight, Nat.shiftRight_eq_div_pow]
  have h2 : (x &&& (255 : BitVec 16)).toNat = x.toNat % 2 ^ 8 := by
    rw [BitVec.toNat_and]
    exact Nat.and_two_pow_sub_one_eq_mod x.toNat 8
  have hx := x.isLt
  obtain ⟨v, a1, a2⟩ := ones_at ht (k := x.toNat / 2 ^ 8) (by omega)
  obtain ⟨u, b1, b2⟩ := ones_at ht (k := x.toNat % 2 ^ 8) (by omega)
  rw [h1, h2, a1, Option.bind_some, b1, Option.bind_some]
  congr 1
  have e : pc x = pcF 8 (x.toNat % 2 ^ 8) + pcF 8 (x.toNat / 2 ^ 8) := pcF_add 8 8 x.toNat
  have p1 := pcF_le 8 (x.toNat % 2 ^ 8)
  have p2 := pcF_le 8 (x.toNat / 2 ^ 8)
  rw [BitVec.toNat_add]
  show (((v.toNat + u.toNat) % 2 ^ 8 : Nat) : Int) = _
  rw [a2, b2, e, Nat.mod_eq_of_lt (by omega)]
  push_cast; omega
def cmpZ (x y : Int) : Int := if x < y then -1 else if x > y then 1 else 0
theorem compare_int (x y : Int) : cmp_Compare_int x y = some (cmpZ x y) := by
  unfold cmp_Compare_int cmp_isNaN_int cmpZ
  simp only [bne_self_eq_false, Option.bind_some, cond_false]
  by_cases h : x < y
  · simp [h]
  · by_cases h2 : x > y
    · simp [h, h2]
    · simp [h, h2]
theorem compare_u16 (x y : BitVec 16) : cmp_Compare_uint16 x y = some (cmpZ x.toNat y.toNat) := by
  unfold cmp_Compare_uint16 cmp_isNaN_uint16 cmpZ
  simp only [bne_self_eq_false, Option.bind_some, cond_false]
  by_cases h : (x.toNat : Int) < y.toNat
  · simp [h]
  · by_cases h2 : (x.toNat : Int) > y.toNat
    · simp [h, h2]
    · simp [h, h2]
theorem or_int (x y : Int) : cmp_Or_int [x, y] = some (if x ≠ 0 then x else y) := by
  unfold cmp_Or_int
  show andThen (rangeM (cmp_Or_int_B0 [x, y]) 2 0 ()) _ = _
  unfold rangeM cmp_Or_int_B0
  rw [show lat [x, y] ((0 : Nat) : Int) = some x from rfl, Option.bind_some]
  by_cases h : x = 0
  · subst h
    simp only [bne_self_eq_false, cond_false, Option.bind_some]
    unfold rangeM
    rw [show lat [(0 : Int), y] ((0 + 1 : Nat) : Int) = some y from rfl, Option.bind_some]
    by_cases h2 : y = 0
    · subst h2; rfl
    · have : (y != 0) = true := by simpa using h2
      simp [this, andThen]
  · have : (x != 0) = true := by simpa using h
    simp [this, andThen, h]
theorem onescount_law (x : BitVec 16) : math_bits_OnesCount16 x = some (pc x : Int) := by
  unfold math_bits_OnesCount16
  exact ones_two (by kernel_rfl) x
def qcmp (x y : BitVec 16) : Int := if cmpZ (pc x) (pc y) ≠ 0 then cmpZ (pc x) (pc y) else cmpZ x.toNat y.toNat
theorem qcmp_eq (x y : BitVec 16) : quorum_compare x y = some (qcmp x y) := by
  unfold quorum_compare
  simp only [onescount_law, compare_int, compare_u16, or_int, Option.bind_some]
  rfl
def qlt (x y : BitVec 16) : Bool := decide (qcmp x y < 0)
theorem qlt_iff {x y : BitVec 16} : qlt x y = true ↔ pc x < pc y ∨ (pc x = pc y ∧ x.toNat < y.toNat) := by
  unfold qlt qcmp cmpZ
  rw [decide_eq_true_eq]
  repeat' split
  all_goals omega
theorem qlt_false {x y : BitVec 16} : qlt x y = false ↔ ¬ (pc x < pc y ∨ (pc x = pc y ∧ x.toNat < y.toNat)) := by rw [← qlt_iff]; cases qlt x y <;> simp
theorem qlt_swo : SWO (fun _ : BitVec 16 => True) qlt := by
  refine ⟨fun x y _ _ h => ?_, fun x y z _ _ _ h1 h2 => ?_⟩
  · rw [qlt_iff] at h; rw [qlt_false]; omega
  · rw [qlt_false] at *; omega
end Go.Proofs.Ytnljiedichjagaa
