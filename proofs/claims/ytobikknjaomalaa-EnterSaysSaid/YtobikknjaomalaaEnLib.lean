/-
  What the functions of the slices library compute.
-/
import Derived.Test.YtobikknjaomalaaEnSp
import Derived.Test.YtobikknjaomalaaGoW
namespace Go.Proofs.Ytobikknjaomalaa
open Enc
theorem eq_slices_Index_int_int (l : List Int) (a : Int) : slices_Index_int_int l a = some (idxI (a == ·) l) := by
  unfold slices_Index_int_int
  refine index_loop _ fun j x hx => ?_
  unfold slices_Index_int_int_B0
  rw [lat_nat, hx, Option.bind_some]
  try rw [u_beq]
  first | (cases (a == x) <;> rfl) | (by_cases e : a = x <;> simp [e]; done) | (rw [show (a == x) = decide (a = x) from by (rw [Bool.eq_iff_iff]; simp)]; cases decide (a = x) <;> rfl)
theorem eq_slices_Contains_int_int (l : List Int) (a : Int) : slices_Contains_int_int l a = some (l.contains a) := by
  unfold slices_Contains_int_int
  rw [eq_slices_Index_int_int, Option.bind_some, idxI_ge]
theorem eq_slices_Clone_api_Word_api_Word {l : List Word} (h : l.length ≤ 2 ^ 40) : slices_Clone_api_Word_api_Word l = some l := by
  unfold slices_Clone_api_Word_api_Word
  rw [room_ok (by simpa using h)]; rfl
theorem eq_slices_Clone_int_int {l : List Int} (h : l.length ≤ 2 ^ 40) : slices_Clone_int_int l = some l := by
  unfold slices_Clone_int_int
  rw [room_ok (by simpa using h)]; rfl
theorem eq_slices_Delete_api_Word_api_Word {l : List Word} {k : Nat} (h : k < l.length) (h2 : l.length ≤ 2 ^ 40) : slices_Delete_api_Word_api_Word l (k : Int) (w64 ((k : Int) + 1)) = some (l.eraseIdx k) := by
  have e64 : w64 ((k : Int) + 1) = ((k + 1 : Nat) : Int) := by rw [w64_id (by omega) (by omega)]; rfl
  unfold slices_Delete_api_Word_api_Word
  rw [e64]
  have c1 : ∀ i j : Int, 0 ≤ i → i ≤ j → j ≤ l.length → ∃ m, cutL l i j = some m := fun i j a b c => ⟨_, by unfold cutL; rw [if_pos ⟨a, b, c⟩]⟩
  obtain ⟨m1, q1⟩ := c1 (k : Int) ((k + 1 : Nat) : Int) (by omega) (by omega) (by omega)
  obtain ⟨m2, q2⟩ := c1 0 (k : Int) (by omega) (by omega) (by omega)
  obtain ⟨m3, q3⟩ := c1 ((k + 1 : Nat) : Int) (l.length : Int) (by omega) (by omega) (by omega)
  rw [q1, Option.bind_some, show (((k : Int)) == ((k + 1 : Nat) : Int)) = false from by simp; omega, cond_false, q2, Option.bind_some, q3, Option.bind_some, List.eraseIdx_eq_take_drop_succ]
  rfl
theorem eq_slices_Equal_int_int (l m : List Int) : slices_Equal_int_int l m = some (decide (l = m)) := by
  unfold slices_Equal_int_int
  exact equal_loop (fun x y => x != y) (fun x y => by first | rfl | (rw [Bool.eq_iff_iff]; simp; done) | (rw [u_bne, Bool.eq_iff_iff]; simp)) (fun j => rfl)
theorem eq_slices_Equal_api_Word_api_Word (l m : List Word) : slices_Equal_api_Word_api_Word l m = some (decide (l = m)) := by
  unfold slices_Equal_api_Word_api_Word
  exact equal_loop (fun x y => !(decide (x = y))) (fun x y => by first | rfl | (rw [Bool.eq_iff_iff]; simp; done) | (rw [u_bne, Bool.eq_iff_iff]; simp)) (fun j => rfl)
theorem eq_slices_Concat_api_Word_api_Word {l m : List Word} (h : l.length + m.length ≤ 2 ^ 30) : slices_Concat_api_Word_api_Word [l, m] = some (l ++ m) := by
  have hmk : mkLen ((l.length + m.length : Nat) : Int) = some (l.length + m.length) := by unfold mkLen; rw [if_pos (by omega)]; rfl
  have e0 : w64 ((0 : Int) - 0) = 0 := by rw [w64_id (by omega) (by omega)]; rfl
  have hg : slices_Grow_api_Word_api_Word ((l.length + m.length : Nat) : Int) = some [] := by
    unfold slices_Grow_api_Word_api_Word
    rw [show decide (((l.length + m.length : Nat) : Int) < 0) = false from decide_eq_false (by omega), cond_false, e0, Int.sub_zero, w64_id (by omega) (by omega), hmk]
    cases decide (((l.length + m.length : Nat) : Int) > 0) with
    | false => rfl
    | true =>
      rw [cond_true, Option.bind_some]
      have : ∀ q : List Word, cutL q 0 0 = some [] := fun q => by unfold cutL; rw [if_pos (by omega)]; rfl
      rw [this]; rfl
  have e1 : w64 ((0 : Int) + (l.length : Int)) = (l.length : Int) := by rw [w64_id (by omega) (by omega)]; omega
  have e2 : w64 ((l.length : Int) + (m.length : Int)) = ((l.length + m.length : Nat) : Int) := by rw [w64_id (by omega) (by omega)]; omega
  have l1 : rangeF (slices_Concat_api_Word_api_Word_B0 [l, m]) [l, m].length 0 (0 : Int) = some ((l.length + m.length : Nat) : Int) := by
    show rangeF (slices_Concat_api_Word_api_Word_B0 [l, m]) 2 0 0 = _
    simp only [rangeF]
    unfold slices_Concat_api_Word_api_Word_B0
    simp only [lat_nat, List.getElem?_cons_zero, List.getElem?_cons_succ, Option.bind_some, e1, e2, show decide ((l.length : Int) < 0) = false from decide_eq_false (by omega), show decide (((l.length + m.length : Nat) : Int) < 0) = false from decide_eq_false (by omega), cond_false, Nat.zero_add]
  have l2 : rangeF (slices_Concat_api_Word_api_Word_B2 [l, m]) [l, m].length 0 [] = some (l ++ m) := by
    show rangeF (slices_Concat_api_Word_api_Word_B2 [l, m]) 2 0 [] = _
    simp only [rangeF]
    unfold slices_Concat_api_Word_api_Word_B2
    simp only [lat_nat, List.getElem?_cons_zero, List.getElem?_cons_succ, Option.bind_some, Nat.zero_add, List.nil_append]
    rw [room_ok (by simp; omega), Option.bind_some, Option.bind_some, room_ok (by omega)]
    rfl
  unfold slices_Concat_api_Word_api_Word
  rw [l1, Option.bind_some, hg, Option.bind_some, l2]
  rfl
end Go.Proofs.Ytobikknjaomalaa
