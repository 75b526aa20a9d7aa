/-
  What the functions of the slices library compute.
-/
import Derived.Test.YtnkfphbggemlbaaSnSp
import Derived.Test.YtnkfphbggemlbaaGoW
namespace Go.Proofs.Ytnkfphbggemlbaa
open Enc
theorem idxI_any {α : Type} (p : α → Bool) (l : List α) : decide (idxI p l ≥ 0) = l.any p := by
  rw [Bool.eq_iff_iff, decide_eq_true_eq, List.any_eq_true]
  rcases idxI_cases p l with ⟨h, h1⟩ | ⟨i, y, h, h1, h2, _⟩
  · rw [h]
    constructor
    · omega
    · rintro ⟨x, hx, k⟩; rw [h1 x hx] at k; cases k
  · rw [h]
    exact ⟨fun _ => ⟨y, List.mem_of_getElem? h1, h2⟩, fun _ => by omega⟩
theorem eq_slices_IndexFunc_int_int_Check_1 (a0 : List Int) (p : Int → Bool) (hp : ∀ x ∈ a0, snap_Check_1 x = some (p x)) : slices_IndexFunc_int_int_Check_1 a0 = some (idxI p a0) := by
  unfold slices_IndexFunc_int_int_Check_1
  refine index_loop p fun j x hx => ?_
  unfold slices_IndexFunc_int_int_Check_1_B0
  rw [lat_nat, hx, Option.bind_some, hp x (List.mem_of_getElem? hx), Option.bind_some]
  cases p x <;> rfl
theorem eq_slices_ContainsFunc_int_int_Check_1 (a0 : List Int) (p : Int → Bool) (hp : ∀ x ∈ a0, snap_Check_1 x = some (p x)) : slices_ContainsFunc_int_int_Check_1 a0 = some (a0.any p) := by
  unfold slices_ContainsFunc_int_int_Check_1
  rw [eq_slices_IndexFunc_int_int_Check_1 a0 p hp, Option.bind_some, idxI_any]
theorem eq_slices_Clone_int_int {l : List Int} (h : l.length ≤ 2 ^ 40) : slices_Clone_int_int l = some l := by
  unfold slices_Clone_int_int
  rw [room_ok (by simpa using h)]; rfl
theorem eq_slices_Index_bool_bool (l : List Bool) (a : Bool) : slices_Index_bool_bool l a = some (idxI (a == ·) l) := by
  unfold slices_Index_bool_bool
  refine index_loop _ fun j x hx => ?_
  unfold slices_Index_bool_bool_B0
  rw [lat_nat, hx, Option.bind_some]
  try rw [u_beq]
  first | (cases (a == x) <;> rfl) | (by_cases e : a = x <;> simp [e]; done) | (rw [show (a == x) = decide (a = x) from by (rw [Bool.eq_iff_iff]; simp)]; cases decide (a = x) <;> rfl)
theorem eq_slices_Contains_bool_bool (l : List Bool) (a : Bool) : slices_Contains_bool_bool l a = some (l.contains a) := by
  unfold slices_Contains_bool_bool
  rw [eq_slices_Index_bool_bool, Option.bind_some, idxI_ge]
theorem eq_slices_Equal_int_int (l m : List Int) : slices_Equal_int_int l m = some (decide (l = m)) := by
  unfold slices_Equal_int_int
  exact equal_loop (fun x y => x != y) (fun x y => by first | rfl | (rw [Bool.eq_iff_iff]; simp; done) | (rw [u_bne, Bool.eq_iff_iff]; simp)) (fun j => rfl)
theorem mul_one (y : BitVec 64) : math_bits_Mul (BitVec.ofInt 64 1) y = some (0, y) := by
  unfold math_bits_Mul math_bits_Mul64
  rw [Option.bind_some]
  have e1 : (BitVec.ofInt 64 1 : BitVec 64) >>> 32 = 0 := by decide
  have e2 : (BitVec.ofInt 64 1 : BitVec 64) &&& (4294967295 : BitVec 64) = 1 := by decide
  have e3 : (BitVec.ofInt 64 1 : BitVec 64) = 1 := by decide
  simp only [e1, e2]
  rw [e3]
  have := mul1 y
  congr 1
  simp only [BitVec.ofNat_eq_ofNat, BitVec.zero_mul, BitVec.one_mul, BitVec.zero_add] at this ⊢
  have h1 := low0 y
  simp only [BitVec.ofNat_eq_ofNat] at h1
  rw [h1] at this ⊢
  rw [this]
  simp
theorem eq_slices_Repeat_int_int {x : Int} {n fu : Nat} (h1 : 1 ≤ n) (h2 : n ≤ 2 ^ 30) (hf : n < fu) : slices_Repeat_int_int fu [x] (n : Int) = some (List.replicate n x) := by
  unfold slices_Repeat_int_int
  have e1 : decide ((n : Int) < 0) = false := decide_eq_false (by omega)
  have e2 : (BitVec.ofInt 64 (n : Int)).toNat = n := by rw [BitVec.toNat_ofInt]; omega
  rw [e1, cond_false, show (([x].length : Nat) : Int) = 1 from rfl, mul_one, Option.bind_some]
  simp only [Bool.cond_true_left, cond_some, Option.bind_some, e2]
  rw [show (decide (((0 : BitVec 64).toNat : Int) > ((0 : BitVec 64).toNat : Int)) || decide ((n : Int) > ((9223372036854775807 : BitVec 64).toNat : Int))) = false from by simp; omega, cond_false, w64_id (by omega) (by omega)]
  have hmk : mkLen (n : Int) = some n := by unfold mkLen; rw [if_pos (by omega)]; rfl
  rw [hmk, Option.bind_some]
  have key := repeat_loop (z := (0 : Int)) (x := x) (body := slices_Repeat_int_int_B0) (fun n l => rfl) fu 1 n (Nat.le_refl _) h1 (by omega) (by omega)
  have e3 : copyL (List.replicate n (0 : Int)) 0 (List.replicate n (0 : Int)).length [x] = List.replicate 1 x ++ List.replicate (n - 1) (0 : Int) := by
    have hmin : min n 1 = 1 := by omega
    simp [copyL, List.take_of_length_le (show [x].length ≤ n by simpa using h1), hmin]
  have e4 : copyN 0 (List.replicate n (0 : Int)).length [x] = ((1 : Nat) : Int) := by
    have hmin : min n 1 = 1 := by omega
    simp [copyN, hmin]
  rw [Let_eq, e3, e4, key]
  rfl
theorem eq_slices_IndexFunc_partref_thing_partref_thing_Picture_2 (a0 : List Thing) (a1_c0 : Move) (p : Thing → Bool) (hp : ∀ x ∈ a0, partref_Picture_2 x a1_c0 = some (p x)) : slices_IndexFunc_partref_thing_partref_thing_Picture_2 a0 a1_c0 = some (idxI p a0) := by
  unfold slices_IndexFunc_partref_thing_partref_thing_Picture_2
  refine index_loop p fun j x hx => ?_
  unfold slices_IndexFunc_partref_thing_partref_thing_Picture_2_B0
  rw [lat_nat, hx, Option.bind_some, hp x (List.mem_of_getElem? hx), Option.bind_some]
  cases p x <;> rfl
theorem eq_slices_Delete_partref_thing_partref_thing {l : List Thing} {k : Nat} (h : k < l.length) (h2 : l.length ≤ 2 ^ 40) : slices_Delete_partref_thing_partref_thing l (k : Int) (w64 ((k : Int) + 1)) = some (l.eraseIdx k) := by
  have e64 : w64 ((k : Int) + 1) = ((k + 1 : Nat) : Int) := by rw [w64_id (by omega) (by omega)]; rfl
  unfold slices_Delete_partref_thing_partref_thing
  rw [e64]
  have c1 : ∀ i j : Int, 0 ≤ i → i ≤ j → j ≤ l.length → ∃ m, cutL l i j = some m := fun i j a b c => ⟨_, by unfold cutL; rw [if_pos ⟨a, b, c⟩]⟩
  obtain ⟨m1, q1⟩ := c1 (k : Int) ((k + 1 : Nat) : Int) (by omega) (by omega) (by omega)
  obtain ⟨m2, q2⟩ := c1 0 (k : Int) (by omega) (by omega) (by omega)
  obtain ⟨m3, q3⟩ := c1 ((k + 1 : Nat) : Int) (l.length : Int) (by omega) (by omega) (by omega)
  rw [q1, Option.bind_some, show (((k : Int)) == ((k + 1 : Nat) : Int)) = false from by simp; omega, cond_false, q2, Option.bind_some, q3, Option.bind_some, List.eraseIdx_eq_take_drop_succ]
  rfl
theorem eq_slices_Index_int_int (l : List Int) (a : Int) : slices_Index_int_int l a = some (idxI (a == ·) l) := by
  unfold slices_Index_int_int
  refine index_loop _ fun j x hx => ?_
  unfold slices_Index_int_int_B0
  rw [lat_nat, hx, Option.bind_some]
  try rw [u_beq]
  first | (cases (a == x) <;> rfl) | (by_cases e : a = x <;> simp [e]; done) | (rw [show (a == x) = decide (a = x) from by (rw [Bool.eq_iff_iff]; simp)]; cases decide (a = x) <;> rfl)
theorem eq_slices_Contains_int_int (l : List Int) (a : Int) : slices_Contains_int_int l a = some (l.contains a) := by
  unfold slices_Contains_int_int
  rw [eq_slices_Index_int_int, Option.bind_some, idxI_ge]
end Go.Proofs.Ytnkfphbggemlbaa
