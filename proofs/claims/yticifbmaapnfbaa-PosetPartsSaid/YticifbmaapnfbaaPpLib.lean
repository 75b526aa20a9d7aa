/-
  What the functions of the slices library compute.
-/
import Derived.Test.YticifbmaapnfbaaPpSp
import Derived.Test.YticifbmaapnfbaaGoW
namespace Go.Proofs.Yticifbmaapnfbaa
open Enc
theorem idxI_any {α : Type} (p : α → Bool) (l : List α) : decide (idxI p l ≥ 0) = l.any p := by
  rw [Bool.eq_iff_iff, decide_eq_true_eq, List.any_eq_true]
  rcases idxI_cases p l with ⟨h, h1⟩ | ⟨i, y, h, h1, h2, _⟩
  · rw [h]
    constructor
    · omega
    · rintro ⟨x, hx, k⟩; rw [h1 x hx] at k; cases k
  · rw [h]
    exact ⟨fun _ => ⟨y, List.mem_of_getElem? h1, h2⟩, fun _ => by omega⟩
theorem eq_slices_IndexFunc_api_Pair_api_Pair_Check_1 (a0 : List Pair) (a1_c0 : Int) (a1_c1 : Int) (p : Pair → Bool) (hp : ∀ x ∈ a0, match_Check_1 x a1_c0 a1_c1 = some (p x)) : slices_IndexFunc_api_Pair_api_Pair_Check_1 a0 a1_c0 a1_c1 = some (idxI p a0) := by
  unfold slices_IndexFunc_api_Pair_api_Pair_Check_1
  refine index_loop p fun j x hx => ?_
  unfold slices_IndexFunc_api_Pair_api_Pair_Check_1_B0
  rw [lat_nat, hx, Option.bind_some, hp x (List.mem_of_getElem? hx), Option.bind_some]
  cases p x <;> rfl
theorem eq_slices_ContainsFunc_api_Pair_api_Pair_Check_1 (a0 : List Pair) (a1_c0 : Int) (a1_c1 : Int) (p : Pair → Bool) (hp : ∀ x ∈ a0, match_Check_1 x a1_c0 a1_c1 = some (p x)) : slices_ContainsFunc_api_Pair_api_Pair_Check_1 a0 a1_c0 a1_c1 = some (a0.any p) := by
  unfold slices_ContainsFunc_api_Pair_api_Pair_Check_1
  rw [eq_slices_IndexFunc_api_Pair_api_Pair_Check_1 a0 a1_c0 a1_c1 p hp, Option.bind_some, idxI_any]
theorem mul_one (y : BitVec 64) : math_bits_Mul (BitVec.ofInt 64 1) y = some (0, y) := by
  unfold math_bits_Mul math_bits_Mul64
  rw [Option.bind_some]
  have e1 : (BitVec.ofInt 64 1 : BitVec 64) >>> 32 = 0 := by decide
  have e2 : (BitVec.ofInt 64 1 : BitVec 64) &&& (4294967295 : BitVec 64) = 1 := by decide
  have e3 : (BitVec.ofInt 64 1 : BitVec 64) = 1 := by decide
  simp only [e1, e2]
  rw [e3]
  have := mul1 y
  congr 1
  simp only [BitVec.ofNat_eq_ofNat, BitVec.zero_mul, BitVec.one_mul, BitVec.zero_add] at this ⊢
  have h1 := low0 y
  simp only [BitVec.ofNat_eq_ofNat] at h1
  rw [h1] at this ⊢
  rw [this]
  simp
theorem eq_slices_Repeat_int_int {x : Int} {n fu : Nat} (h1 : 1 ≤ n) (h2 : n ≤ 2 ^ 30) (hf : n < fu) : slices_Repeat_int_int fu [x] (n : Int) = some (List.replicate n x) := by
  unfold slices_Repeat_int_int
  have e1 : decide ((n : Int) < 0) = false := decide_eq_false (by omega)
  have e2 : (BitVec.ofInt 64 (n : Int)).toNat = n := by rw [BitVec.toNat_ofInt]; omega
  rw [e1, cond_false, show (([x].length : Nat) : Int) = 1 from rfl, mul_one, Option.bind_some]
  simp only [Bool.cond_true_left, cond_some, Option.bind_some, e2]
  rw [show (decide (((0 : BitVec 64).toNat : Int) > ((0 : BitVec 64).toNat : Int)) || decide ((n : Int) > ((9223372036854775807 : BitVec 64).toNat : Int))) = false from by simp; omega, cond_false, w64_id (by omega) (by omega)]
  have hmk : mkLen (n : Int) = some n := by unfold mkLen; rw [if_pos (by omega)]; rfl
  rw [hmk, Option.bind_some]
  have key := repeat_loop (z := (0 : Int)) (x := x) (body := slices_Repeat_int_int_B0) (fun n l => rfl) fu 1 n (Nat.le_refl _) h1 (by omega) (by omega)
  have e3 : copyL (List.replicate n (0 : Int)) 0 (List.replicate n (0 : Int)).length [x] = List.replicate 1 x ++ List.replicate (n - 1) (0 : Int) := by
    have hmin : min n 1 = 1 := by omega
    simp [copyL, List.take_of_length_le (show [x].length ≤ n by simpa using h1), hmin]
  have e4 : copyN 0 (List.replicate n (0 : Int)).length [x] = ((1 : Nat) : Int) := by
    have hmin : min n 1 = 1 := by omega
    simp [copyN, hmin]
  rw [Let_eq, e3, e4, key]
  rfl
theorem eq_slices_Index_int_int (l : List Int) (a : Int) : slices_Index_int_int l a = some (idxI (a == ·) l) := by
  unfold slices_Index_int_int
  refine index_loop _ fun j x hx => ?_
  unfold slices_Index_int_int_B0
  rw [lat_nat, hx, Option.bind_some]
  try rw [u_beq]
  first | (cases (a == x) <;> rfl) | (by_cases e : a = x <;> simp [e]; done) | (rw [show (a == x) = decide (a = x) from by (rw [Bool.eq_iff_iff]; simp)]; cases decide (a = x) <;> rfl)
theorem eq_slices_Repeat_bool_bool {x : Bool} {n fu : Nat} (h1 : 1 ≤ n) (h2 : n ≤ 2 ^ 30) (hf : n < fu) : slices_Repeat_bool_bool fu [x] (n : Int) = some (List.replicate n x) := by
  unfold slices_Repeat_bool_bool
  have e1 : decide ((n : Int) < 0) = false := decide_eq_false (by omega)
  have e2 : (BitVec.ofInt 64 (n : Int)).toNat = n := by rw [BitVec.toNat_ofInt]; omega
  rw [e1, cond_false, show (([x].length : Nat) : Int) = 1 from rfl, mul_one, Option.bind_some]
  simp only [Bool.cond_true_left, cond_some, Option.bind_some, e2]
  rw [show (decide (((0 : BitVec 64).toNat : Int) > ((0 : BitVec 64).toNat : Int)) || decide ((n : Int) > ((9223372036854775807 : BitVec 64).toNat : Int))) = false from by simp; omega, cond_false, w64_id (by omega) (by omega)]
  have hmk : mkLen (n : Int) = some n := by unfold mkLen; rw [if_pos (by omega)]; rfl
  rw [hmk, Option.bind_some]
  have key := repeat_loop (z := false) (x := x) (body := slices_Repeat_bool_bool_B0) (fun n l => rfl) fu 1 n (Nat.le_refl _) h1 (by omega) (by omega)
  have e3 : copyL (List.replicate n false) 0 (List.replicate n false).length [x] = List.replicate 1 x ++ List.replicate (n - 1) false := by
    have hmin : min n 1 = 1 := by omega
    simp [copyL, List.take_of_length_le (show [x].length ≤ n by simpa using h1), hmin]
  have e4 : copyN 0 (List.replicate n false).length [x] = ((1 : Nat) : Int) := by
    have hmin : min n 1 = 1 := by omega
    simp [copyN, hmin]
  rw [Let_eq, e3, e4, key]
  rfl
theorem eq_slices_Contains_int_int (l : List Int) (a : Int) : slices_Contains_int_int l a = some (l.contains a) := by
  unfold slices_Contains_int_int
  rw [eq_slices_Index_int_int, Option.bind_some, idxI_ge]
theorem eq_slices_Index_api_Pair_api_Pair (l : List Pair) (a : Pair) : slices_Index_api_Pair_api_Pair l a = some (idxI (a == ·) l) := by
  unfold slices_Index_api_Pair_api_Pair
  refine index_loop _ fun j x hx => ?_
  unfold slices_Index_api_Pair_api_Pair_B0
  rw [lat_nat, hx, Option.bind_some]
  try rw [u_beq]
  first | (cases (a == x) <;> rfl) | (by_cases e : a = x <;> simp [e]; done) | (rw [show (a == x) = decide (a = x) from by (rw [Bool.eq_iff_iff]; simp)]; cases decide (a = x) <;> rfl)
theorem eq_slices_Contains_api_Pair_api_Pair (l : List Pair) (a : Pair) : slices_Contains_api_Pair_api_Pair l a = some (l.contains a) := by
  unfold slices_Contains_api_Pair_api_Pair
  rw [eq_slices_Index_api_Pair_api_Pair, Option.bind_some, idxI_ge]
theorem eq_slices_Equal_int_int (l m : List Int) : slices_Equal_int_int l m = some (decide (l = m)) := by
  unfold slices_Equal_int_int
  exact equal_loop (fun x y => x != y) (fun x y => by first | rfl | (rw [Bool.eq_iff_iff]; simp; done) | (rw [u_bne, Bool.eq_iff_iff]; simp)) (fun j => rfl)
end Go.Proofs.Yticifbmaapnfbaa
