/-
  What the functions of the slices library compute.
-/
import Derived.Test.YtobikknjaomalaaRiSp
import Derived.Test.YtobikknjaomalaaGoW
namespace Go.Proofs.Ytobikknjaomalaa
open Enc
theorem eq_slices_Index_int_int (l : List Int) (a : Int) : slices_Index_int_int l a = some (idxI (a == ·) l) := by
  unfold slices_Index_int_int
  refine index_loop _ fun j x hx => ?_
  unfold slices_Index_int_int_B0
  rw [lat_nat, hx, Option.bind_some]
  first | (cases (a == x) <;> rfl) | (by_cases e : a = x <;> simp [e])
theorem eq_slices_Contains_int_int (l : List Int) (a : Int) : slices_Contains_int_int l a = some (l.contains a) := by
  unfold slices_Contains_int_int
  rw [eq_slices_Index_int_int, Option.bind_some, idxI_ge]
theorem mul_one (y : BitVec 64) : math_bits_Mul (BitVec.ofInt 64 1) y = some (0, y) := by
  unfold math_bits_Mul math_bits_Mul64
  rw [Option.bind_some]
  have e1 : (BitVec.ofInt 64 1 : BitVec 64) >>> 32 = 0 := by decide
  have e2 : (BitVec.ofInt 64 1 : BitVec 64) &&& (4294967295 : BitVec 64) = 1 := by decide
  have e3 : (BitVec.ofInt 64 1 : BitVec 64) = 1 := by decide
  simp only [e1, e2]
  rw [e3]
  have := mul1 y
  congr 1
  simp only [BitVec.ofNat_eq_ofNat, BitVec.zero_mul, BitVec.one_mul, BitVec.zero_add] at this ⊢
  have h1 := low0 y
  simp only [BitVec.ofNat_eq_ofNat] at h1
  rw [h1] at this ⊢
  rw [this]
  simp
theorem eq_slices_Repeat_bool_bool {x : Bool} {n fu : Nat} (h1 : 1 ≤ n) (h2 : n ≤ 2 ^ 30) (hf : n < fu) : slices_Repeat_bool_bool fu [x] (n : Int) = some (List.replicate n x) := by
  unfold slices_Repeat_bool_bool
  have e1 : decide ((n : Int) < 0) = false := decide_eq_false (by omega)
  have e2 : (BitVec.ofInt 64 (n : Int)).toNat = n := by rw [BitVec.toNat_ofInt]; omega
  rw [e1, cond_false, show (([x].length : Nat) : Int) = 1 from rfl, mul_one, Option.bind_some]
  simp only [Bool.cond_true_left, cond_some, Option.bind_some, e2]
  rw [show (decide (((0 : BitVec 64).toNat : Int) > ((0 : BitVec 64).toNat : Int)) || decide ((n : Int) > ((9223372036854775807 : BitVec 64).toNat : Int))) = false from by simp; omega, cond_false, w64_id (by omega) (by omega)]
  have hmk : mkLen (n : Int) = some n := by unfold mkLen; rw [if_pos (by omega)]; rfl
  rw [hmk, Option.bind_some]
  have key := repeat_loop (z := false) (x := x) (body := slices_Repeat_bool_bool_B0) (fun n l => rfl) fu 1 n (Nat.le_refl _) h1 (by omega) (by omega)
  have e3 : copyL (List.replicate n false) 0 (List.replicate n false).length [x] = List.replicate 1 x ++ List.replicate (n - 1) false := by
    have hmin : min n 1 = 1 := by omega
    simp [copyL, List.take_of_length_le (show [x].length ≤ n by simpa using h1), hmin]
  have e4 : copyN 0 (List.replicate n false).length [x] = ((1 : Nat) : Int) := by
    have hmin : min n 1 = 1 := by omega
    simp [copyN, hmin]
  rw [Let_eq, e3, e4, key]
  rfl
theorem eq_slices_Index_bool_bool (l : List Bool) (a : Bool) : slices_Index_bool_bool l a = some (idxI (a == ·) l) := by
  unfold slices_Index_bool_bool
  refine index_loop _ fun j x hx => ?_
  unfold slices_Index_bool_bool_B0
  rw [lat_nat, hx, Option.bind_some]
  first | (cases (a == x) <;> rfl) | (by_cases e : a = x <;> simp [e])
end Go.Proofs.Ytobikknjaomalaa
