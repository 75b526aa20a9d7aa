/-
  What the functions of the slices library compute.
-/
import Derived.Test.YtchmclllcdknjaaGreatDoorTrSp
import Derived.Test.YtchmclllcdknjaaGreatDoorGoW
namespace Go.Proofs.YtchmclllcdknjaaGreatDoor
open Enc
theorem eq_slices_Concat_api_Deed_api_Deed {l m : List Deed} (h : l.length + m.length ≤ 2 ^ 30) : slices_Concat_api_Deed_api_Deed [l, m] = some (l ++ m) := by
  have hmk : mkLen ((l.length + m.length : Nat) : Int) = some (l.length + m.length) := by unfold mkLen; rw [if_pos (by omega)]; rfl
  have e0 : w64 ((0 : Int) - 0) = 0 := by rw [w64_id (by omega) (by omega)]; rfl
  have hg : slices_Grow_api_Deed_api_Deed ((l.length + m.length : Nat) : Int) = some [] := by
    unfold slices_Grow_api_Deed_api_Deed
    rw [show decide (((l.length + m.length : Nat) : Int) < 0) = false from decide_eq_false (by omega), cond_false, e0, Int.sub_zero, w64_id (by omega) (by omega), hmk]
    cases decide (((l.length + m.length : Nat) : Int) > 0) with
    | false => rfl
    | true =>
      rw [cond_true, Option.bind_some]
      have : ∀ q : List Deed, cutL q 0 0 = some [] := fun q => by unfold cutL; rw [if_pos (by omega)]; rfl
      rw [this]; rfl
  have e1 : w64 ((0 : Int) + (l.length : Int)) = (l.length : Int) := by rw [w64_id (by omega) (by omega)]; omega
  have e2 : w64 ((l.length : Int) + (m.length : Int)) = ((l.length + m.length : Nat) : Int) := by rw [w64_id (by omega) (by omega)]; omega
  have l1 : rangeF (slices_Concat_api_Deed_api_Deed_B0 [l, m]) [l, m].length 0 (0 : Int) = some ((l.length + m.length : Nat) : Int) := by
    show rangeF (slices_Concat_api_Deed_api_Deed_B0 [l, m]) 2 0 0 = _
    simp only [rangeF]
    unfold slices_Concat_api_Deed_api_Deed_B0
    simp only [lat_nat, List.getElem?_cons_zero, List.getElem?_cons_succ, Option.bind_some, e1, e2, show decide ((l.length : Int) < 0) = false from decide_eq_false (by omega), show decide (((l.length + m.length : Nat) : Int) < 0) = false from decide_eq_false (by omega), cond_false, Nat.zero_add]
  have l2 : rangeF (slices_Concat_api_Deed_api_Deed_B2 [l, m]) [l, m].length 0 [] = some (l ++ m) := by
    show rangeF (slices_Concat_api_Deed_api_Deed_B2 [l, m]) 2 0 [] = _
    simp only [rangeF]
    unfold slices_Concat_api_Deed_api_Deed_B2
    simp only [lat_nat, List.getElem?_cons_zero, List.getElem?_cons_succ, Option.bind_some, Nat.zero_add, List.nil_append]
    rw [room_ok (by simp; omega), Option.bind_some, Option.bind_some, room_ok (by omega)]
    rfl
  unfold slices_Concat_api_Deed_api_Deed
  rw [l1, Option.bind_some, hg, Option.bind_some, l2]
  rfl
theorem eq_slices_Equal_api_Saying_api_Saying (l m : List Saying) : slices_Equal_api_Saying_api_Saying l m = some (decide (l = m)) := by
  unfold slices_Equal_api_Saying_api_Saying
  exact equal_loop (fun x y => !(decide (x = y))) (fun x y => by first | rfl | (rw [Bool.eq_iff_iff]; simp; done) | (rw [u_bne, Bool.eq_iff_iff]; simp)) (fun j => rfl)
end Go.Proofs.YtchmclllcdknjaaGreatDoor
