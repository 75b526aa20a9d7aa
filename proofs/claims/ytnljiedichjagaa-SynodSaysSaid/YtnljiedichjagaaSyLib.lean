/-
  What the functions of the slices library compute.
-/
import Derived.Test.YtnljiedichjagaaSySp
import Derived.Test.YtnljiedichjagaaGoW
namespace Go.Proofs.Ytnljiedichjagaa
open Enc
theorem idxI_any {α : Type} (p : α → Bool) (l : List α) : decide (idxI p l ≥ 0) = l.any p := by
  rw [Bool.eq_iff_iff, decide_eq_true_eq, List.any_eq_true]
  rcases idxI_cases p l with ⟨h, h1⟩ | ⟨i, y, h, h1, h2, _⟩
  · rw [h]
    constructor
    · omega
    · rintro ⟨x, hx, k⟩; rw [h1 x hx] at k; cases k
  · rw [h]
    exact ⟨fun _ => ⟨y, List.mem_of_getElem? h1, h2⟩, fun _ => by omega⟩
theorem eq_slices_IndexFunc_api_Round_api_Round_round_1 (a0 : List Round) (a1_c0 : Round) (p : Round → Bool) (hp : ∀ x ∈ a0, synod_round_1 x a1_c0 = some (p x)) : slices_IndexFunc_api_Round_api_Round_round_1 a0 a1_c0 = some (idxI p a0) := by
  unfold slices_IndexFunc_api_Round_api_Round_round_1
  refine index_loop p fun j x hx => ?_
  unfold slices_IndexFunc_api_Round_api_Round_round_1_B0
  rw [lat_nat, hx, Option.bind_some, hp x (List.mem_of_getElem? hx), Option.bind_some]
  cases p x <;> rfl
theorem eq_slices_ContainsFunc_api_Round_api_Round_round_1 (a0 : List Round) (a1_c0 : Round) (p : Round → Bool) (hp : ∀ x ∈ a0, synod_round_1 x a1_c0 = some (p x)) : slices_ContainsFunc_api_Round_api_Round_round_1 a0 a1_c0 = some (a0.any p) := by
  unfold slices_ContainsFunc_api_Round_api_Round_round_1
  rw [eq_slices_IndexFunc_api_Round_api_Round_round_1 a0 a1_c0 p hp, Option.bind_some, idxI_any]
theorem eq_slices_IndexFunc_api_Round_api_Round_find_1 (a0 : List Round) (a1_c0 : Int) (p : Round → Bool) (hp : ∀ x ∈ a0, synod_find_1 x a1_c0 = some (p x)) : slices_IndexFunc_api_Round_api_Round_find_1 a0 a1_c0 = some (idxI p a0) := by
  unfold slices_IndexFunc_api_Round_api_Round_find_1
  refine index_loop p fun j x hx => ?_
  unfold slices_IndexFunc_api_Round_api_Round_find_1_B0
  rw [lat_nat, hx, Option.bind_some, hp x (List.mem_of_getElem? hx), Option.bind_some]
  cases p x <;> rfl
theorem eq_slices_Clone_api_Voter_api_Voter {l : List Voter} (h : l.length ≤ 2 ^ 40) : slices_Clone_api_Voter_api_Voter l = some l := by
  unfold slices_Clone_api_Voter_api_Voter
  rw [room_ok (by simpa using h)]; rfl
theorem eq_slices_Clone_api_Round_api_Round {l : List Round} (h : l.length ≤ 2 ^ 40) : slices_Clone_api_Round_api_Round l = some l := by
  unfold slices_Clone_api_Round_api_Round
  rw [room_ok (by simpa using h)]; rfl
theorem eq_slices_Equal_api_Voter_api_Voter (l m : List Voter) : slices_Equal_api_Voter_api_Voter l m = some (decide (l = m)) := by
  unfold slices_Equal_api_Voter_api_Voter
  exact equal_loop (fun x y => !(decide (x = y))) (fun x y => by first | rfl | (rw [Bool.eq_iff_iff]; simp; done) | (rw [u_bne, Bool.eq_iff_iff]; simp)) (fun j => rfl)
theorem eq_slices_Equal_api_Round_api_Round (l m : List Round) : slices_Equal_api_Round_api_Round l m = some (decide (l = m)) := by
  unfold slices_Equal_api_Round_api_Round
  exact equal_loop (fun x y => !(decide (x = y))) (fun x y => by first | rfl | (rw [Bool.eq_iff_iff]; simp; done) | (rw [u_bne, Bool.eq_iff_iff]; simp)) (fun j => rfl)
theorem eq_slices_Index_string_string (l : List Str) (a : Str) : slices_Index_string_string l a = some (idxI (a == ·) l) := by
  unfold slices_Index_string_string
  refine index_loop _ fun j x hx => ?_
  unfold slices_Index_string_string_B0
  rw [lat_nat, hx, Option.bind_some]
  try rw [u_beq]
  first | (cases (a == x) <;> rfl) | (by_cases e : a = x <;> simp [e]; done) | (rw [show (a == x) = decide (a = x) from by (rw [Bool.eq_iff_iff]; simp)]; cases decide (a = x) <;> rfl)
theorem eq_slices_Contains_string_string (l : List Str) (a : Str) : slices_Contains_string_string l a = some (l.contains a) := by
  unfold slices_Contains_string_string
  rw [eq_slices_Index_string_string, Option.bind_some, idxI_ge]
theorem eq_slices_Equal_string_string (l m : List Str) : slices_Equal_string_string l m = some (decide (l = m)) := by
  unfold slices_Equal_string_string
  exact equal_loop (fun x y => !(decide (x = y))) (fun x y => by first | rfl | (rw [Bool.eq_iff_iff]; simp; done) | (rw [u_bne, Bool.eq_iff_iff]; simp)) (fun j => rfl)
theorem eq_slices_IndexFunc_api_Round_api_Round_SynodStep_1 (a0 : List Round) (a1_c0 : Act) (p : Round → Bool) (hp : ∀ x ∈ a0, partref_SynodStep_1 x a1_c0 = some (p x)) : slices_IndexFunc_api_Round_api_Round_SynodStep_1 a0 a1_c0 = some (idxI p a0) := by
  unfold slices_IndexFunc_api_Round_api_Round_SynodStep_1
  refine index_loop p fun j x hx => ?_
  unfold slices_IndexFunc_api_Round_api_Round_SynodStep_1_B0
  rw [lat_nat, hx, Option.bind_some, hp x (List.mem_of_getElem? hx), Option.bind_some]
  cases p x <;> rfl
end Go.Proofs.Ytnljiedichjagaa
