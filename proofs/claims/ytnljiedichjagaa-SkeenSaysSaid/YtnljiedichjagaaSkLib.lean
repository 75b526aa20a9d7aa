/-
  What the functions of the slices library compute.
-/
import Derived.Test.YtnljiedichjagaaSkSp
import Derived.Test.YtnljiedichjagaaGoW
namespace Go.Proofs.Ytnljiedichjagaa
open Enc
theorem idxI_any {α : Type} (p : α → Bool) (l : List α) : decide (idxI p l ≥ 0) = l.any p := by
  rw [Bool.eq_iff_iff, decide_eq_true_eq, List.any_eq_true]
  rcases idxI_cases p l with ⟨h, h1⟩ | ⟨i, y, h, h1, h2, _⟩
  · rw [h]
    constructor
    · omega
    · rintro ⟨x, hx, k⟩; rw [h1 x hx] at k; cases k
  · rw [h]
    exact ⟨fun _ => ⟨y, List.mem_of_getElem? h1, h2⟩, fun _ => by omega⟩
theorem eq_slices_IndexFunc_api_Wait_api_Wait_SkeenErr_1 (a0 : List Wait) (a1_c0 : Wait) (p : Wait → Bool) (hp : ∀ x ∈ a0, partref_SkeenErr_1 x a1_c0 = some (p x)) : slices_IndexFunc_api_Wait_api_Wait_SkeenErr_1 a0 a1_c0 = some (idxI p a0) := by
  unfold slices_IndexFunc_api_Wait_api_Wait_SkeenErr_1
  refine index_loop p fun j x hx => ?_
  unfold slices_IndexFunc_api_Wait_api_Wait_SkeenErr_1_B0
  rw [lat_nat, hx, Option.bind_some, hp x (List.mem_of_getElem? hx), Option.bind_some]
  cases p x <;> rfl
theorem eq_slices_ContainsFunc_api_Wait_api_Wait_SkeenErr_1 (a0 : List Wait) (a1_c0 : Wait) (p : Wait → Bool) (hp : ∀ x ∈ a0, partref_SkeenErr_1 x a1_c0 = some (p x)) : slices_ContainsFunc_api_Wait_api_Wait_SkeenErr_1 a0 a1_c0 = some (a0.any p) := by
  unfold slices_ContainsFunc_api_Wait_api_Wait_SkeenErr_1
  rw [eq_slices_IndexFunc_api_Wait_api_Wait_SkeenErr_1 a0 a1_c0 p hp, Option.bind_some, idxI_any]
theorem eq_slices_IndexFunc_api_Wait_api_Wait_wait_1 (a0 : List Wait) (a1_c0 : Wait) (p : Wait → Bool) (hp : ∀ x ∈ a0, skeen_wait_1 x a1_c0 = some (p x)) : slices_IndexFunc_api_Wait_api_Wait_wait_1 a0 a1_c0 = some (idxI p a0) := by
  unfold slices_IndexFunc_api_Wait_api_Wait_wait_1
  refine index_loop p fun j x hx => ?_
  unfold slices_IndexFunc_api_Wait_api_Wait_wait_1_B0
  rw [lat_nat, hx, Option.bind_some, hp x (List.mem_of_getElem? hx), Option.bind_some]
  cases p x <;> rfl
theorem eq_slices_ContainsFunc_api_Wait_api_Wait_wait_1 (a0 : List Wait) (a1_c0 : Wait) (p : Wait → Bool) (hp : ∀ x ∈ a0, skeen_wait_1 x a1_c0 = some (p x)) : slices_ContainsFunc_api_Wait_api_Wait_wait_1 a0 a1_c0 = some (a0.any p) := by
  unfold slices_ContainsFunc_api_Wait_api_Wait_wait_1
  rw [eq_slices_IndexFunc_api_Wait_api_Wait_wait_1 a0 a1_c0 p hp, Option.bind_some, idxI_any]
theorem eq_slices_IndexFunc_api_Wait_api_Wait_Offer_1 (a0 : List Wait) (a1_c0 : Int) (p : Wait → Bool) (hp : ∀ x ∈ a0, skeen_Offer_1 x a1_c0 = some (p x)) : slices_IndexFunc_api_Wait_api_Wait_Offer_1 a0 a1_c0 = some (idxI p a0) := by
  unfold slices_IndexFunc_api_Wait_api_Wait_Offer_1
  refine index_loop p fun j x hx => ?_
  unfold slices_IndexFunc_api_Wait_api_Wait_Offer_1_B0
  rw [lat_nat, hx, Option.bind_some, hp x (List.mem_of_getElem? hx), Option.bind_some]
  cases p x <;> rfl
theorem eq_slices_ContainsFunc_api_Wait_api_Wait_Offer_1 (a0 : List Wait) (a1_c0 : Int) (p : Wait → Bool) (hp : ∀ x ∈ a0, skeen_Offer_1 x a1_c0 = some (p x)) : slices_ContainsFunc_api_Wait_api_Wait_Offer_1 a0 a1_c0 = some (a0.any p) := by
  unfold slices_ContainsFunc_api_Wait_api_Wait_Offer_1
  rw [eq_slices_IndexFunc_api_Wait_api_Wait_Offer_1 a0 a1_c0 p hp, Option.bind_some, idxI_any]
theorem eq_slices_Clone_api_Wait_api_Wait {l : List Wait} (h : l.length ≤ 2 ^ 40) : slices_Clone_api_Wait_api_Wait l = some l := by
  unfold slices_Clone_api_Wait_api_Wait
  rw [room_ok (by simpa using h)]; rfl
theorem eq_slices_IndexFunc_api_Wait_api_Wait_Fix_1 (a0 : List Wait) (a1_c0 : Int) (p : Wait → Bool) (hp : ∀ x ∈ a0, skeen_Fix_1 x a1_c0 = some (p x)) : slices_IndexFunc_api_Wait_api_Wait_Fix_1 a0 a1_c0 = some (idxI p a0) := by
  unfold slices_IndexFunc_api_Wait_api_Wait_Fix_1
  refine index_loop p fun j x hx => ?_
  unfold slices_IndexFunc_api_Wait_api_Wait_Fix_1_B0
  rw [lat_nat, hx, Option.bind_some, hp x (List.mem_of_getElem? hx), Option.bind_some]
  cases p x <;> rfl
theorem eq_slices_IndexFunc_api_Wait_api_Wait_Fix_2 (a0 : List Wait) (a1_c0 : Int) (a1_c1 : Num) (p : Wait → Bool) (hp : ∀ x ∈ a0, skeen_Fix_2 x a1_c0 a1_c1 = some (p x)) : slices_IndexFunc_api_Wait_api_Wait_Fix_2 a0 a1_c0 a1_c1 = some (idxI p a0) := by
  unfold slices_IndexFunc_api_Wait_api_Wait_Fix_2
  refine index_loop p fun j x hx => ?_
  unfold slices_IndexFunc_api_Wait_api_Wait_Fix_2_B0
  rw [lat_nat, hx, Option.bind_some, hp x (List.mem_of_getElem? hx), Option.bind_some]
  cases p x <;> rfl
theorem eq_slices_ContainsFunc_api_Wait_api_Wait_Fix_2 (a0 : List Wait) (a1_c0 : Int) (a1_c1 : Num) (p : Wait → Bool) (hp : ∀ x ∈ a0, skeen_Fix_2 x a1_c0 a1_c1 = some (p x)) : slices_ContainsFunc_api_Wait_api_Wait_Fix_2 a0 a1_c0 a1_c1 = some (a0.any p) := by
  unfold slices_ContainsFunc_api_Wait_api_Wait_Fix_2
  rw [eq_slices_IndexFunc_api_Wait_api_Wait_Fix_2 a0 a1_c0 a1_c1 p hp, Option.bind_some, idxI_any]
theorem eq_slices_Index_api_Num_api_Num (l : List Num) (a : Num) : slices_Index_api_Num_api_Num l a = some (idxI (a == ·) l) := by
  unfold slices_Index_api_Num_api_Num
  refine index_loop _ fun j x hx => ?_
  unfold slices_Index_api_Num_api_Num_B0
  rw [lat_nat, hx, Option.bind_some]
  try rw [u_beq]
  first | (cases (a == x) <;> rfl) | (by_cases e : a = x <;> simp [e]; done) | (rw [show (a == x) = decide (a = x) from by (rw [Bool.eq_iff_iff]; simp)]; cases decide (a = x) <;> rfl)
theorem eq_slices_Contains_api_Num_api_Num (l : List Num) (a : Num) : slices_Contains_api_Num_api_Num l a = some (l.contains a) := by
  unfold slices_Contains_api_Num_api_Num
  rw [eq_slices_Index_api_Num_api_Num, Option.bind_some, idxI_ge]
theorem eq_slices_IndexFunc_api_Num_api_Num_SkeenSays_1 (a0 : List Num) (a1_c0 : Num) (p : Num → Bool) (hp : ∀ x ∈ a0, partlaw_SkeenSays_1 x a1_c0 = some (p x)) : slices_IndexFunc_api_Num_api_Num_SkeenSays_1 a0 a1_c0 = some (idxI p a0) := by
  unfold slices_IndexFunc_api_Num_api_Num_SkeenSays_1
  refine index_loop p fun j x hx => ?_
  unfold slices_IndexFunc_api_Num_api_Num_SkeenSays_1_B0
  rw [lat_nat, hx, Option.bind_some, hp x (List.mem_of_getElem? hx), Option.bind_some]
  cases p x <;> rfl
theorem eq_slices_ContainsFunc_api_Num_api_Num_SkeenSays_1 (a0 : List Num) (a1_c0 : Num) (p : Num → Bool) (hp : ∀ x ∈ a0, partlaw_SkeenSays_1 x a1_c0 = some (p x)) : slices_ContainsFunc_api_Num_api_Num_SkeenSays_1 a0 a1_c0 = some (a0.any p) := by
  unfold slices_ContainsFunc_api_Num_api_Num_SkeenSays_1
  rw [eq_slices_IndexFunc_api_Num_api_Num_SkeenSays_1 a0 a1_c0 p hp, Option.bind_some, idxI_any]
theorem eq_slices_Equal_api_Wait_api_Wait (l m : List Wait) : slices_Equal_api_Wait_api_Wait l m = some (decide (l = m)) := by
  unfold slices_Equal_api_Wait_api_Wait
  exact equal_loop (fun x y => !(decide (x = y))) (fun x y => by first | rfl | (rw [Bool.eq_iff_iff]; simp; done) | (rw [u_bne, Bool.eq_iff_iff]; simp)) (fun j => rfl)
theorem eq_slices_IndexFunc_api_Wait_api_Wait_SkeenSays_2 (a0 : List Wait) (a1_c0 : Int) (p : Wait → Bool) (hp : ∀ x ∈ a0, partlaw_SkeenSays_2 x a1_c0 = some (p x)) : slices_IndexFunc_api_Wait_api_Wait_SkeenSays_2 a0 a1_c0 = some (idxI p a0) := by
  unfold slices_IndexFunc_api_Wait_api_Wait_SkeenSays_2
  refine index_loop p fun j x hx => ?_
  unfold slices_IndexFunc_api_Wait_api_Wait_SkeenSays_2_B0
  rw [lat_nat, hx, Option.bind_some, hp x (List.mem_of_getElem? hx), Option.bind_some]
  cases p x <;> rfl
theorem eq_slices_ContainsFunc_api_Wait_api_Wait_SkeenSays_2 (a0 : List Wait) (a1_c0 : Int) (p : Wait → Bool) (hp : ∀ x ∈ a0, partlaw_SkeenSays_2 x a1_c0 = some (p x)) : slices_ContainsFunc_api_Wait_api_Wait_SkeenSays_2 a0 a1_c0 = some (a0.any p) := by
  unfold slices_ContainsFunc_api_Wait_api_Wait_SkeenSays_2
  rw [eq_slices_IndexFunc_api_Wait_api_Wait_SkeenSays_2 a0 a1_c0 p hp, Option.bind_some, idxI_any]
theorem eq_slices_Concat_api_Wait_api_Wait {l m : List Wait} (h : l.length + m.length ≤ 2 ^ 30) : slices_Concat_api_Wait_api_Wait [l, m] = some (l ++ m) := by
  have hmk : mkLen ((l.length + m.length : Nat) : Int) = some (l.length + m.length) := by unfold mkLen; rw [if_pos (by omega)]; rfl
  have e0 : w64 ((0 : Int) - 0) = 0 := by rw [w64_id (by omega) (by omega)]; rfl
  have hg : slices_Grow_api_Wait_api_Wait ((l.length + m.length : Nat) : Int) = some [] := by
    unfold slices_Grow_api_Wait_api_Wait
    rw [show decide (((l.length + m.length : Nat) : Int) < 0) = false from decide_eq_false (by omega), cond_false, e0, Int.sub_zero, w64_id (by omega) (by omega), hmk]
    cases decide (((l.length + m.length : Nat) : Int) > 0) with
    | false => rfl
    | true =>
      rw [cond_true, Option.bind_some]
      have : ∀ q : List Wait, cutL q 0 0 = some [] := fun q => by unfold cutL; rw [if_pos (by omega)]; rfl
      rw [this]; rfl
  have e1 : w64 ((0 : Int) + (l.length : Int)) = (l.length : Int) := by rw [w64_id (by omega) (by omega)]; omega
  have e2 : w64 ((l.length : Int) + (m.length : Int)) = ((l.length + m.length : Nat) : Int) := by rw [w64_id (by omega) (by omega)]; omega
  have l1 : rangeF (slices_Concat_api_Wait_api_Wait_B0 [l, m]) [l, m].length 0 (0 : Int) = some ((l.length + m.length : Nat) : Int) := by
    show rangeF (slices_Concat_api_Wait_api_Wait_B0 [l, m]) 2 0 0 = _
    simp only [rangeF]
    unfold slices_Concat_api_Wait_api_Wait_B0
    simp only [lat_nat, List.getElem?_cons_zero, List.getElem?_cons_succ, Option.bind_some, e1, e2, show decide ((l.length : Int) < 0) = false from decide_eq_false (by omega), show decide (((l.length + m.length : Nat) : Int) < 0) = false from decide_eq_false (by omega), cond_false, Nat.zero_add]
  have l2 : rangeF (slices_Concat_api_Wait_api_Wait_B2 [l, m]) [l, m].length 0 [] = some (l ++ m) := by
    show rangeF (slices_Concat_api_Wait_api_Wait_B2 [l, m]) 2 0 [] = _
    simp only [rangeF]
    unfold slices_Concat_api_Wait_api_Wait_B2
    simp only [lat_nat, List.getElem?_cons_zero, List.getElem?_cons_succ, Option.bind_some, Nat.zero_add, List.nil_append]
    rw [room_ok (by simp; omega), Option.bind_some, Option.bind_some, room_ok (by omega)]
    rfl
  unfold slices_Concat_api_Wait_api_Wait
  rw [l1, Option.bind_some, hg, Option.bind_some, l2]
  rfl
theorem eq_slices_IndexFunc_api_Wait_api_Wait_Fix_1_v2 (a0 : List Wait) (a1_c0 : Int) (p : Wait → Bool) (hp : ∀ x ∈ a0, partref_Fix_1 x a1_c0 = some (p x)) : slices_IndexFunc_api_Wait_api_Wait_Fix_1_v2 a0 a1_c0 = some (idxI p a0) := by
  unfold slices_IndexFunc_api_Wait_api_Wait_Fix_1_v2
  refine index_loop p fun j x hx => ?_
  unfold slices_IndexFunc_api_Wait_api_Wait_Fix_1_v2_B0
  rw [lat_nat, hx, Option.bind_some, hp x (List.mem_of_getElem? hx), Option.bind_some]
  cases p x <;> rfl
theorem eq_slices_Equal_int_int (l m : List Int) : slices_Equal_int_int l m = some (decide (l = m)) := by
  unfold slices_Equal_int_int
  exact equal_loop (fun x y => x != y) (fun x y => by first | rfl | (rw [Bool.eq_iff_iff]; simp; done) | (rw [u_bne, Bool.eq_iff_iff]; simp)) (fun j => rfl)
end Go.Proofs.Ytnljiedichjagaa
