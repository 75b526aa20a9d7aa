/-
  Bits of bytes.
-/
import Derived.Test.YtobikknjaomalaaEnBits8
namespace Go.Proofs.Ytobikknjaomalaa
open Enc

theorem cnt_n (n : Nat) : cnt (n : Int) = some n := by unfold cnt; rw [if_pos (by omega)]; simp
theorem cut_take {α : Type} {l : List α} {i : Nat} (h : i ≤ l.length) : cutL l 0 (i : Int) = some (l.take i) := by
  unfold cutL; rw [if_pos (by omega)]; simp
def tb (x : BitVec 8) (k : Nat) : Bool := x.toNat.testBit k
theorem one8v : ((1 : BitVec 8).toNat : Int) = 1 := rfl
theorem zero8v : ((0 : BitVec 8).toNat : Int) = 0 := rfl
theorem tb_val (x : BitVec 8) (k : Nat) : ((x >>> k) % (2 : BitVec 8)).toNat = x.toNat / 2 ^ k % 2 ∧ ((x >>> k) &&& (1 : BitVec 8)).toNat = x.toNat / 2 ^ k % 2 := by
  constructor
  · rw [BitVec.toNat_umod, BitVec.toNat_ushiftRight, Nat.shiftRight_eq_div_pow]; rfl
  · rw [BitVec.toNat_and, BitVec.toNat_ushiftRight, Nat.shiftRight_eq_div_pow]
    exact Nat.and_one_is_mod _
theorem tb_def (x : BitVec 8) (k : Nat) : tb x k = decide (x.toNat / 2 ^ k % 2 = 1) := by unfold tb; rw [Nat.testBit_eq_decide_div_mod_eq]
theorem tb_mod (x : BitVec 8) (k : Nat) : ((((x >>> k) % (2 : BitVec 8)).toNat : Int) == ((1 : BitVec 8).toNat : Int)) = tb x k := by
  rw [(tb_val x k).1, one8v, Bool.eq_iff_iff, tb_def, beq_iff_eq, decide_eq_true_eq]
  generalize x.toNat / 2 ^ k = m
  omega
theorem tb_and (x : BitVec 8) (k : Nat) : ((((x >>> k) &&& (1 : BitVec 8)).toNat : Int) == ((1 : BitVec 8).toNat : Int)) = tb x k := by
  rw [(tb_val x k).2, one8v, Bool.eq_iff_iff, tb_def, beq_iff_eq, decide_eq_true_eq]
  generalize x.toNat / 2 ^ k = m
  omega
theorem tb_mod0 (x : BitVec 8) (k : Nat) : ((((x >>> k) % (2 : BitVec 8)).toNat : Int) == ((0 : BitVec 8).toNat : Int)) = !tb x k := by
  rw [(tb_val x k).1, zero8v, Bool.eq_iff_iff, tb_def, beq_iff_eq, Bool.not_eq_true', decide_eq_false_iff_not]
  generalize x.toNat / 2 ^ k = m
  omega
theorem tb_and0 (x : BitVec 8) (k : Nat) : ((((x >>> k) &&& (1 : BitVec 8)).toNat : Int) == ((0 : BitVec 8).toNat : Int)) = !tb x k := by
  rw [(tb_val x k).2, zero8v, Bool.eq_iff_iff, tb_def, beq_iff_eq, Bool.not_eq_true', decide_eq_false_iff_not]
  generalize x.toNat / 2 ^ k = m
  omega
theorem tb_or (x y : BitVec 8) (k : Nat) : tb (x ||| y) k = (tb x k || tb y k) := by
  unfold tb
  rw [BitVec.toNat_or, Nat.testBit_or]
theorem tb_get (x : BitVec 8) (k : Nat) : tb x k = x.getLsbD k := rfl
theorem tb_both (x y : BitVec 8) (k : Nat) : tb (x &&& y) k = (tb x k && tb y k) := by rw [tb_get, tb_get, tb_get, BitVec.getLsbD_and]
theorem tb_less {k : Nat} (x y : BitVec 8) (hk : k < 8) : tb (x &&& ~~~y) k = (tb x k && !tb y k) := by
  rw [tb_get, tb_get, tb_get, BitVec.getLsbD_and, BitVec.getLsbD_not]; simp [hk]
theorem tb_ext {x y : BitVec 8} (h : ∀ k, k < 8 → tb x k = tb y k) : x = y := BitVec.eq_of_getLsbD_eq fun k hk => h k hk
theorem tb_zero (k : Nat) : tb 0 k = false := by simp [tb_get]
theorem tb_bit {n k : Nat} (hk : k < 8) : tb ((1 : BitVec 8) <<< n) k = decide (k = n) := by
  rw [tb_get, BitVec.getLsbD_shiftLeft, Bool.eq_iff_iff]
  by_cases h : k < n
  · simp [h]; omega
  · by_cases e : k = n
    · subst e; simp [hk]
    · have : ((1 : BitVec 8)).getLsbD (k - n) = false := by
        have h0 : k - n ≠ 0 := by omega
        simp [h0]
      rw [this]; simp [e]
theorem bit_both (x : BitVec 8) (n : Nat) : x &&& ((1 : BitVec 8) <<< n) = bif tb x n then (1 : BitVec 8) <<< n else 0 := tb_ext fun k hk => by
  rw [tb_both, tb_bit hk]
  by_cases e : k = n
  · subst e
    cases q : tb x k
    · rw [Bool.false_and, cond_false, tb_zero]
    · rw [Bool.true_and, cond_true, tb_bit hk]
  · rw [decide_eq_false e, Bool.and_false]
    cases tb x n
    · rw [cond_false, tb_zero]
    · rw [cond_true, tb_bit hk, decide_eq_false e]
/-- A set without another, as a difference. -/
theorem sub_both (x y : BitVec 8) : x - (x &&& y) = x &&& ~~~y := by
  have h0 : (x &&& y) &&& (x &&& ~~~y) = 0 := tb_ext fun k hk => by
    rw [tb_both, tb_both, tb_less _ _ hk, tb_zero]; cases tb x k <;> cases tb y k <;> rfl
  have h1 : (x &&& y) + (x &&& ~~~y) = x := by
    rw [BitVec.add_eq_or_of_and_eq_zero _ _ h0]
    exact tb_ext fun k hk => by rw [tb_or, tb_both, tb_less _ _ hk]; cases tb x k <;> cases tb y k <;> rfl
  calc x - (x &&& y) = ((x &&& y) + (x &&& ~~~y)) - (x &&& y) := by rw [h1]
    _ = x &&& ~~~y := by rw [BitVec.add_comm, BitVec.add_sub_cancel]
/-- All of one set lies in another. -/
theorem within (x y : BitVec 8) : (((x &&& ~~~y).toNat : Int) != ((0 : BitVec 8).toNat : Int)) = (((x ||| y).toNat : Int) != (y.toNat : Int)) := by
  rw [u_bne, u_bne, Bool.eq_iff_iff, bne_iff_ne, bne_iff_ne]
  refine not_congr ⟨fun h => ?_, fun h => ?_⟩
  · refine tb_ext fun k hk => ?_
    have := congrArg (tb · k) h
    simp only [tb_less _ _ hk, tb_zero] at this
    rw [tb_or]
    revert this; cases tb x k <;> cases tb y k <;> decide
  · refine tb_ext fun k hk => ?_
    have := congrArg (tb · k) h
    simp only [tb_or] at this
    rw [tb_less _ _ hk, tb_zero]
    revert this; cases tb x k <;> cases tb y k <;> decide
theorem above6 (x : BitVec 8) : (((x >>> 6).toNat : Int) != ((0 : BitVec 8).toNat : Int)) = decide ((x.toNat : Int) > ((63 : BitVec 8).toNat : Int)) := by
  have e : ((63 : BitVec 8).toNat : Int) = 63 := rfl
  rw [BitVec.toNat_ushiftRight, Nat.shiftRight_eq_div_pow, zero8v, e, Bool.eq_iff_iff, bne_iff_ne, decide_eq_true_eq]
  omega
theorem above6_or (x y : BitVec 8) : ((((x ||| y) >>> 6).toNat : Int) != ((0 : BitVec 8).toNat : Int)) = (decide ((x.toNat : Int) > ((63 : BitVec 8).toNat : Int)) || decide ((y.toNat : Int) > ((63 : BitVec 8).toNat : Int))) := by
  rw [above6]
  have e : ((63 : BitVec 8).toNat : Int) = 63 := rfl
  rw [e, BitVec.toNat_or, Bool.eq_iff_iff, Bool.or_eq_true, decide_eq_true_eq, decide_eq_true_eq, decide_eq_true_eq]
  constructor
  · intro h
    refine Classical.byContradiction fun hh => ?_
    have := Nat.or_lt_two_pow (x := x.toNat) (y := y.toNat) (n := 6) (by omega) (by omega)
    omega
  · intro h
    have h1 : x.toNat ≤ x.toNat ||| y.toNat := Nat.left_le_or
    have h2 : y.toNat ≤ x.toNat ||| y.toNat := Nat.right_le_or
    omega
theorem pos8 (x : BitVec 8) : decide ((x.toNat : Int) > ((0 : BitVec 8).toNat : Int)) = ((x.toNat : Int) != ((0 : BitVec 8).toNat : Int)) := by
  rw [zero8v, Bool.eq_iff_iff, decide_eq_true_eq, bne_iff_ne]; omega
theorem less1 (x : BitVec 8) : decide ((x.toNat : Int) < ((1 : BitVec 8).toNat : Int)) = ((x.toNat : Int) == ((0 : BitVec 8).toNat : Int)) := by
  rw [zero8v, one8v, Bool.eq_iff_iff, decide_eq_true_eq, beq_iff_eq]; omega
end Go.Proofs.Ytobikknjaomalaa
