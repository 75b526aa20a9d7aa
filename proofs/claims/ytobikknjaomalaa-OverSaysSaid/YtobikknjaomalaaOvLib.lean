/-
  What the functions of the slices library compute.
-/
import Derived.Test.YtobikknjaomalaaOvSp
import Derived.Test.YtobikknjaomalaaGoW
namespace Go.Proofs.Ytobikknjaomalaa
open Enc
theorem mul_one (y : BitVec 64) : math_bits_Mul (BitVec.ofInt 64 1) y = some (0, y) := by
  unfold math_bits_Mul math_bits_Mul64
  rw [Option.bind_some]
  have e1 : (BitVec.ofInt 64 1 : BitVec 64) >>> 32 = 0 := by decide
  have e2 : (BitVec.ofInt 64 1 : BitVec 64) &&& (4294967295 : BitVec 64) = 1 := by decide
  have e3 : (BitVec.ofInt 64 1 : BitVec 64) = 1 := by decide
  simp only [e1, e2]
  rw [e3]
  have := mul1 y
  congr 1
  simp only [BitVec.ofNat_eq_ofNat, BitVec.zero_mul, BitVec.one_mul, BitVec.zero_add] at this ⊢
  have h1 := low0 y
  simp only [BitVec.ofNat_eq_ofNat] at h1
  rw [h1] at this ⊢
  rw [this]
  simp
theorem eq_slices_Repeat_api_Hand_api_Hand {x : Hand} {n fu : Nat} (h1 : 1 ≤ n) (h2 : n ≤ 2 ^ 30) (hf : n < fu) : slices_Repeat_api_Hand_api_Hand fu [x] (n : Int) = some (List.replicate n x) := by
  unfold slices_Repeat_api_Hand_api_Hand
  have e1 : decide ((n : Int) < 0) = false := decide_eq_false (by omega)
  have e2 : (BitVec.ofInt 64 (n : Int)).toNat = n := by rw [BitVec.toNat_ofInt]; omega
  rw [e1, cond_false, show (([x].length : Nat) : Int) = 1 from rfl, mul_one, Option.bind_some]
  simp only [Bool.cond_true_left, cond_some, Option.bind_some, e2]
  rw [show (decide (((0 : BitVec 64).toNat : Int) > ((0 : BitVec 64).toNat : Int)) || decide ((n : Int) > ((9223372036854775807 : BitVec 64).toNat : Int))) = false from by simp; omega, cond_false, w64_id (by omega) (by omega)]
  have hmk : mkLen (n : Int) = some n := by unfold mkLen; rw [if_pos (by omega)]; rfl
  rw [hmk, Option.bind_some]
  have key := repeat_loop (z := Hand.zero) (x := x) (body := slices_Repeat_api_Hand_api_Hand_B0) (fun n l => rfl) fu 1 n (Nat.le_refl _) h1 (by omega) (by omega)
  have e3 : copyL (List.replicate n Hand.zero) 0 (List.replicate n Hand.zero).length [x] = List.replicate 1 x ++ List.replicate (n - 1) Hand.zero := by
    have hmin : min n 1 = 1 := by omega
    simp [copyL, List.take_of_length_le (show [x].length ≤ n by simpa using h1), hmin]
  have e4 : copyN 0 (List.replicate n Hand.zero).length [x] = ((1 : Nat) : Int) := by
    have hmin : min n 1 = 1 := by omega
    simp [copyN, hmin]
  rw [Let_eq, e3, e4, key]
  rfl
theorem eq_slices_Clone_api_Hand_api_Hand {l : List Hand} (h : l.length ≤ 2 ^ 40) : slices_Clone_api_Hand_api_Hand l = some l := by
  unfold slices_Clone_api_Hand_api_Hand
  rw [room_ok (by simpa using h)]; rfl
theorem eq_slices_Clone_api_Word_api_Word {l : List Word} (h : l.length ≤ 2 ^ 40) : slices_Clone_api_Word_api_Word l = some l := by
  unfold slices_Clone_api_Word_api_Word
  rw [room_ok (by simpa using h)]; rfl
theorem eq_slices_Delete_api_Word_api_Word {l : List Word} {k : Nat} (h : k < l.length) (h2 : l.length ≤ 2 ^ 40) : slices_Delete_api_Word_api_Word l (k : Int) (w64 ((k : Int) + 1)) = some (l.eraseIdx k) := by
  have e64 : w64 ((k : Int) + 1) = ((k + 1 : Nat) : Int) := by rw [w64_id (by omega) (by omega)]; rfl
  unfold slices_Delete_api_Word_api_Word
  rw [e64]
  have c1 : ∀ i j : Int, 0 ≤ i → i ≤ j → j ≤ l.length → ∃ m, cutL l i j = some m := fun i j a b c => ⟨_, by unfold cutL; rw [if_pos ⟨a, b, c⟩]⟩
  obtain ⟨m1, q1⟩ := c1 (k : Int) ((k + 1 : Nat) : Int) (by omega) (by omega) (by omega)
  obtain ⟨m2, q2⟩ := c1 0 (k : Int) (by omega) (by omega) (by omega)
  obtain ⟨m3, q3⟩ := c1 ((k + 1 : Nat) : Int) (l.length : Int) (by omega) (by omega) (by omega)
  rw [q1, Option.bind_some, show (((k : Int)) == ((k + 1 : Nat) : Int)) = false from by simp; omega, cond_false, q2, Option.bind_some, q3, Option.bind_some, List.eraseIdx_eq_take_drop_succ]
  rfl
theorem eq_slices_Equal_api_Hand_api_Hand (l m : List Hand) : slices_Equal_api_Hand_api_Hand l m = some (decide (l = m)) := by
  unfold slices_Equal_api_Hand_api_Hand
  exact equal_loop (fun x y => !(decide (x = y))) (fun x y => by first | rfl | (rw [Bool.eq_iff_iff]; simp)) (fun j => rfl)
theorem eq_slices_Equal_api_Word_api_Word (l m : List Word) : slices_Equal_api_Word_api_Word l m = some (decide (l = m)) := by
  unfold slices_Equal_api_Word_api_Word
  exact equal_loop (fun x y => !(decide (x = y))) (fun x y => by first | rfl | (rw [Bool.eq_iff_iff]; simp)) (fun j => rfl)
theorem eq_slices_Concat_api_Word_api_Word {l m : List Word} (h : l.length + m.length ≤ 2 ^ 30) : slices_Concat_api_Word_api_Word [l, m] = some (l ++ m) := by
  have hmk : mkLen ((l.length + m.length : Nat) : Int) = some (l.length + m.length) := by unfold mkLen; rw [if_pos (by omega)]; rfl
  have e0 : w64 ((0 : Int) - 0) = 0 := by rw [w64_id (by omega) (by omega)]; rfl
  have hg : slices_Grow_api_Word_api_Word ((l.length + m.length : Nat) : Int) = some [] := by
    unfold slices_Grow_api_Word_api_Word
    rw [show decide (((l.length + m.length : Nat) : Int) < 0) = false from decide_eq_false (by omega), cond_false, e0, Int.sub_zero, w64_id (by omega) (by omega), hmk]
    cases decide (((l.length + m.length : Nat) : Int) > 0) with
    | false => rfl
    | true =>
      rw [cond_true, Option.bind_some]
      have : ∀ q : List Word, cutL q 0 0 = some [] := fun q => by unfold cutL; rw [if_pos (by omega)]; rfl
      rw [this]; rfl
  have e1 : w64 ((0 : Int) + (l.length : Int)) = (l.length : Int) := by rw [w64_id (by omega) (by omega)]; omega
  have e2 : w64 ((l.length : Int) + (m.length : Int)) = ((l.length + m.length : Nat) : Int) := by rw [w64_id (by omega) (by omega)]; omega
  have l1 : rangeF (slices_Concat_api_Word_api_Word_B0 [l, m]) [l, m].length 0 (0 : Int) = some ((l.length + m.length : Nat) : Int) := by
    show rangeF (slices_Concat_api_Word_api_Word_B0 [l, m]) 2 0 0 = _
    simp only [rangeF]
    unfold slices_Concat_api_Word_api_Word_B0
    simp only [lat_nat, List.getElem?_cons_zero, List.getElem?_cons_succ, Option.bind_some, e1, e2, show decide ((l.length : Int) < 0) = false from decide_eq_false (by omega), show decide (((l.length + m.length : Nat) : Int) < 0) = false from decide_eq_false (by omega), cond_false, Nat.zero_add]
  have l2 : rangeF (slices_Concat_api_Word_api_Word_B2 [l, m]) [l, m].length 0 [] = some (l ++ m) := by
    show rangeF (slices_Concat_api_Word_api_Word_B2 [l, m]) 2 0 [] = _
    simp only [rangeF]
    unfold slices_Concat_api_Word_api_Word_B2
    simp only [lat_nat, List.getElem?_cons_zero, List.getElem?_cons_succ, Option.bind_some, Nat.zero_add, List.nil_append]
    rw [room_ok (by simp; omega), Option.bind_some, Option.bind_some, room_ok (by omega)]
    rfl
  unfold slices_Concat_api_Word_api_Word
  rw [l1, Option.bind_some, hg, Option.bind_some, l2]
  rfl
end Go.Proofs.Ytobikknjaomalaa
