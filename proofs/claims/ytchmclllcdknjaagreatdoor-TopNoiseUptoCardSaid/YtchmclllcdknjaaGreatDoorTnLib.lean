/-
  What the functions of the slices library compute.
-/
import Derived.Test.YtchmclllcdknjaaGreatDoorTnSp
import Derived.Test.YtchmclllcdknjaaGreatDoorGoW
namespace Go.Proofs.YtchmclllcdknjaaGreatDoor
open Enc
theorem eq_slices_Index_string_string (l : List Str) (a : Str) : slices_Index_string_string l a = some (idxI (a == ·) l) := by
  unfold slices_Index_string_string
  refine index_loop _ fun j x hx => ?_
  unfold slices_Index_string_string_B0
  rw [lat_nat, hx, Option.bind_some]
  try rw [u_beq]
  first | (cases (a == x) <;> rfl) | (by_cases e : a = x <;> simp [e]; done) | (rw [show (a == x) = decide (a = x) from by (rw [Bool.eq_iff_iff]; simp)]; cases decide (a = x) <;> rfl)
end Go.Proofs.YtchmclllcdknjaaGreatDoor
