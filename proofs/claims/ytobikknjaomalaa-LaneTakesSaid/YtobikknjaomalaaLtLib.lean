/-
  What the functions of the slices library compute.
-/
import Derived.Test.YtobikknjaomalaaLtSp
import Derived.Test.YtobikknjaomalaaGoW
namespace Go.Proofs.Ytobikknjaomalaa
open Enc
theorem eq_slices_Clone_api_Parcel_api_Parcel {l : List Parcel} (h : l.length ≤ 2 ^ 40) : slices_Clone_api_Parcel_api_Parcel l = some l := by
  unfold slices_Clone_api_Parcel_api_Parcel
  rw [room_ok (by simpa using h)]; rfl
theorem eq_slices_Equal_api_Parcel_api_Parcel (l m : List Parcel) : slices_Equal_api_Parcel_api_Parcel l m = some (decide (l = m)) := by
  unfold slices_Equal_api_Parcel_api_Parcel
  exact equal_loop (fun x y => !(decide (x = y))) (fun x y => by first | rfl | (rw [Bool.eq_iff_iff]; simp; done) | (rw [u_bne, Bool.eq_iff_iff]; simp)) (fun j => rfl)
theorem eq_slices_Equal_string_string (l m : List Str) : slices_Equal_string_string l m = some (decide (l = m)) := by
  unfold slices_Equal_string_string
  exact equal_loop (fun x y => !(decide (x = y))) (fun x y => by first | rfl | (rw [Bool.eq_iff_iff]; simp; done) | (rw [u_bne, Bool.eq_iff_iff]; simp)) (fun j => rfl)
end Go.Proofs.Ytobikknjaomalaa
