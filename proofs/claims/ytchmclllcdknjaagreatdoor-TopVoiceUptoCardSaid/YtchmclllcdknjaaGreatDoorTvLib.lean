/-
  What the functions of the slices library compute.
-/
import Derived.Test.YtchmclllcdknjaaGreatDoorTvSp
import Derived.Test.YtchmclllcdknjaaGreatDoorGoW
namespace Go.Proofs.YtchmclllcdknjaaGreatDoor
open Enc
theorem eq_slices_Index_string_string (l : List Str) (a : Str) : slices_Index_string_string l a = some (idxI (a == ·) l) := by
  unfold slices_Index_string_string
  refine index_loop _ fun j x hx => ?_
  unfold slices_Index_string_string_B0
  rw [lat_nat, hx, Option.bind_some]
  try rw [u_beq]
  first | (cases (a == x) <;> rfl) | (by_cases e : a = x <;> simp [e]; done) | (rw [show (a == x) = decide (a = x) from by (rw [Bool.eq_iff_iff]; simp)]; cases decide (a = x) <;> rfl)
theorem eq_slices_Index_int_int (l : List Int) (a : Int) : slices_Index_int_int l a = some (idxI (a == ·) l) := by
  unfold slices_Index_int_int
  refine index_loop _ fun j x hx => ?_
  unfold slices_Index_int_int_B0
  rw [lat_nat, hx, Option.bind_some]
  try rw [u_beq]
  first | (cases (a == x) <;> rfl) | (by_cases e : a = x <;> simp [e]; done) | (rw [show (a == x) = decide (a = x) from by (rw [Bool.eq_iff_iff]; simp)]; cases decide (a = x) <;> rfl)
theorem eq_slices_Contains_int_int (l : List Int) (a : Int) : slices_Contains_int_int l a = some (l.contains a) := by
  unfold slices_Contains_int_int
  rw [eq_slices_Index_int_int, Option.bind_some, idxI_ge]
end Go.Proofs.YtchmclllcdknjaaGreatDoor
