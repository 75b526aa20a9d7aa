/-
  What the functions of the slices library compute.
-/
import Derived.Test.YtobikknjaomalaaTuSp
import Derived.Test.YtobikknjaomalaaGoW
namespace Go.Proofs.Ytobikknjaomalaa
open Enc
theorem eq_slices_Index_int_int (l : List Int) (a : Int) : slices_Index_int_int l a = some (idxI (a == ·) l) := by
  unfold slices_Index_int_int
  refine index_loop _ fun j x hx => ?_
  unfold slices_Index_int_int_B0
  rw [lat_nat, hx, Option.bind_some]
  try rw [u_beq]
  first | (cases (a == x) <;> rfl) | (by_cases e : a = x <;> simp [e]; done) | (rw [show (a == x) = decide (a = x) from by (rw [Bool.eq_iff_iff]; simp)]; cases decide (a = x) <;> rfl)
theorem eq_slices_Contains_int_int (l : List Int) (a : Int) : slices_Contains_int_int l a = some (l.contains a) := by
  unfold slices_Contains_int_int
  rw [eq_slices_Index_int_int, Option.bind_some, idxI_ge]
theorem idxI_any {α : Type} (p : α → Bool) (l : List α) : decide (idxI p l ≥ 0) = l.any p := by
  rw [Bool.eq_iff_iff, decide_eq_true_eq, List.any_eq_true]
  rcases idxI_cases p l with ⟨h, h1⟩ | ⟨i, y, h, h1, h2, _⟩
  · rw [h]
    constructor
    · omega
    · rintro ⟨x, hx, k⟩; rw [h1 x hx] at k; cases k
  · rw [h]
    exact ⟨fun _ => ⟨y, List.mem_of_getElem? h1, h2⟩, fun _ => by omega⟩
theorem eq_slices_IndexFunc_int_int_Check_1 (a0 : List Int) (a1_c0 : Turn) (p : Int → Bool) (hp : ∀ x ∈ a0, turn_Check_1 x a1_c0 = some (p x)) : slices_IndexFunc_int_int_Check_1 a0 a1_c0 = some (idxI p a0) := by
  unfold slices_IndexFunc_int_int_Check_1
  refine index_loop p fun j x hx => ?_
  unfold slices_IndexFunc_int_int_Check_1_B0
  rw [lat_nat, hx, Option.bind_some, hp x (List.mem_of_getElem? hx), Option.bind_some]
  cases p x <;> rfl
theorem eq_slices_ContainsFunc_int_int_Check_1 (a0 : List Int) (a1_c0 : Turn) (p : Int → Bool) (hp : ∀ x ∈ a0, turn_Check_1 x a1_c0 = some (p x)) : slices_ContainsFunc_int_int_Check_1 a0 a1_c0 = some (a0.any p) := by
  unfold slices_ContainsFunc_int_int_Check_1
  rw [eq_slices_IndexFunc_int_int_Check_1 a0 a1_c0 p hp, Option.bind_some, idxI_any]
theorem eq_slices_Clone_int_int {l : List Int} (h : l.length ≤ 2 ^ 40) : slices_Clone_int_int l = some l := by
  unfold slices_Clone_int_int
  rw [room_ok (by simpa using h)]; rfl
theorem eq_slices_IndexFunc_int_int_pass_1_v2 (a0 : List Int) (a1_c0_p : Turn) (p : Int → Bool) (hp : ∀ x ∈ a0, turn_pass_1_v2 x a1_c0_p = some (p x)) : slices_IndexFunc_int_int_pass_1_v2 a0 a1_c0_p = some (idxI p a0) := by
  unfold slices_IndexFunc_int_int_pass_1_v2
  refine index_loop p fun j x hx => ?_
  unfold slices_IndexFunc_int_int_pass_1_v2_B0
  rw [lat_nat, hx, Option.bind_some, hp x (List.mem_of_getElem? hx), Option.bind_some]
  cases p x <;> rfl
theorem eq_slices_DeleteFunc_int_int_pass_1_v2 {fu : Nat} (a0 : List Int) (a1_c0_p : Turn) (p : Int → Bool) (hp : ∀ x ∈ a0, turn_pass_1_v2 x a1_c0_p = some (p x)) (hl : a0.length ≤ 2 ^ 40) (hf : a0.length + 1 < fu) : slices_DeleteFunc_int_int_pass_1_v2 fu a0 a1_c0_p = some (a0.filter fun x => !p x) := by
  unfold slices_DeleteFunc_int_int_pass_1_v2
  rw [eq_slices_IndexFunc_int_int_pass_1_v2 a0 a1_c0_p p hp, Option.bind_some]
  rcases idxI_cases p a0 with ⟨e, h1⟩ | ⟨i, y, e, hy, h2, h3⟩
  · rw [e, show ((-1 : Int) == -1) = true from rfl, cond_true]
    congr 1
    exact (List.filter_eq_self.2 fun x hx => by rw [h1 x hx]; rfl).symm
  · have hil := (List.getElem?_eq_some_iff.1 hy).1
    have htk : (a0.take i).filter (fun x => !p x) = a0.take i := List.filter_eq_self.2 fun x hx => by
      obtain ⟨j, hj⟩ := List.getElem?_of_mem hx
      have hji : j < i := by have := (List.getElem?_eq_some_iff.1 hj).1; simp at this; omega
      rw [List.getElem?_take, if_pos hji] at hj
      rw [h3 j x hji hj]; rfl
    have htk1 : (a0.take (i + 1)).filter (fun x => !p x) = a0.take i := by
      rw [List.take_add_one, hy, List.filter_append, htk]
      simp [h2]
    rw [e, show ((i : Int) == -1) = false from by simp <;> omega, cond_false, w64_id (by omega) (by omega), show ((i : Int) + 1) = ((i + 1 : Nat) : Int) from rfl]
    obtain ⟨k, ys, e1, h4, h5, h6⟩ := delete_loop (l := a0) (p := p) (F := fun x => turn_pass_1_v2 x a1_c0_p) (body := slices_DeleteFunc_int_int_pass_1_v2_B0 a1_c0_p) (by omega) hp (fun i j xs => rfl)
      fu i (i + 1) a0 (by omega) (by omega) (by omega) rfl htk1.symm (by rw [htk1]; simp <;> omega) rfl
    rw [e1, andThen_inl]
    simp only
    have hc1 : ∃ q, cutL ys (k : Int) (ys.length : Int) = some q := ⟨_, by unfold cutL; rw [if_pos (by omega)]⟩
    obtain ⟨q, hq⟩ := hc1
    rw [hq, Option.bind_some, clear_take (by omega), Option.bind_some, h6]
theorem eq_slices_Equal_int_int (l m : List Int) : slices_Equal_int_int l m = some (decide (l = m)) := by
  unfold slices_Equal_int_int
  exact equal_loop (fun x y => x != y) (fun x y => by first | rfl | (rw [Bool.eq_iff_iff]; simp; done) | (rw [u_bne, Bool.eq_iff_iff]; simp)) (fun j => rfl)
theorem eq_slices_Concat_int_int {l m : List Int} (h : l.length + m.length ≤ 2 ^ 30) : slices_Concat_int_int [l, m] = some (l ++ m) := by
  have hmk : mkLen ((l.length + m.length : Nat) : Int) = some (l.length + m.length) := by unfold mkLen; rw [if_pos (by omega)]; rfl
  have e0 : w64 ((0 : Int) - 0) = 0 := by rw [w64_id (by omega) (by omega)]; rfl
  have hg : slices_Grow_int_int ((l.length + m.length : Nat) : Int) = some [] := by
    unfold slices_Grow_int_int
    rw [show decide (((l.length + m.length : Nat) : Int) < 0) = false from decide_eq_false (by omega), cond_false, e0, Int.sub_zero, w64_id (by omega) (by omega), hmk]
    cases decide (((l.length + m.length : Nat) : Int) > 0) with
    | false => rfl
    | true =>
      rw [cond_true, Option.bind_some]
      have : ∀ q : List Int, cutL q 0 0 = some [] := fun q => by unfold cutL; rw [if_pos (by omega)]; rfl
      rw [this]; rfl
  have e1 : w64 ((0 : Int) + (l.length : Int)) = (l.length : Int) := by rw [w64_id (by omega) (by omega)]; omega
  have e2 : w64 ((l.length : Int) + (m.length : Int)) = ((l.length + m.length : Nat) : Int) := by rw [w64_id (by omega) (by omega)]; omega
  have l1 : rangeF (slices_Concat_int_int_B0 [l, m]) [l, m].length 0 (0 : Int) = some ((l.length + m.length : Nat) : Int) := by
    show rangeF (slices_Concat_int_int_B0 [l, m]) 2 0 0 = _
    simp only [rangeF]
    unfold slices_Concat_int_int_B0
    simp only [lat_nat, List.getElem?_cons_zero, List.getElem?_cons_succ, Option.bind_some, e1, e2, show decide ((l.length : Int) < 0) = false from decide_eq_false (by omega), show decide (((l.length + m.length : Nat) : Int) < 0) = false from decide_eq_false (by omega), cond_false, Nat.zero_add]
  have l2 : rangeF (slices_Concat_int_int_B2 [l, m]) [l, m].length 0 [] = some (l ++ m) := by
    show rangeF (slices_Concat_int_int_B2 [l, m]) 2 0 [] = _
    simp only [rangeF]
    unfold slices_Concat_int_int_B2
    simp only [lat_nat, List.getElem?_cons_zero, List.getElem?_cons_succ, Option.bind_some, Nat.zero_add, List.nil_append]
    rw [room_ok (by simp; omega), Option.bind_some, Option.bind_some, room_ok (by omega)]
    rfl
  unfold slices_Concat_int_int
  rw [l1, Option.bind_some, hg, Option.bind_some, l2]
  rfl
end Go.Proofs.Ytobikknjaomalaa
