/-
  What the functions of the slices library compute.
-/
import Derived.Test.YticifbmaapnfbaaPsSp
import Derived.Test.YticifbmaapnfbaaGoW
namespace Go.Proofs.Yticifbmaapnfbaa
open Enc
theorem eq_slices_Index_int_int (l : List Int) (a : Int) : slices_Index_int_int l a = some (idxI (a == ·) l) := by
  unfold slices_Index_int_int
  refine index_loop _ fun j x hx => ?_
  unfold slices_Index_int_int_B0
  rw [lat_nat, hx, Option.bind_some]
  try rw [u_beq]
  first | (cases (a == x) <;> rfl) | (by_cases e : a = x <;> simp [e])
theorem eq_slices_Contains_int_int (l : List Int) (a : Int) : slices_Contains_int_int l a = some (l.contains a) := by
  unfold slices_Contains_int_int
  rw [eq_slices_Index_int_int, Option.bind_some, idxI_ge]
theorem eq_slices_Equal_api_Pair_api_Pair (l m : List Pair) : slices_Equal_api_Pair_api_Pair l m = some (decide (l = m)) := by
  unfold slices_Equal_api_Pair_api_Pair
  exact equal_loop (fun x y => !(decide (x = y))) (fun x y => by first | rfl | (rw [Bool.eq_iff_iff]; simp; done) | (rw [u_bne, Bool.eq_iff_iff]; simp)) (fun j => rfl)
theorem eq_slices_Equal_int_int (l m : List Int) : slices_Equal_int_int l m = some (decide (l = m)) := by
  unfold slices_Equal_int_int
  exact equal_loop (fun x y => x != y) (fun x y => by first | rfl | (rw [Bool.eq_iff_iff]; simp; done) | (rw [u_bne, Bool.eq_iff_iff]; simp)) (fun j => rfl)
end Go.Proofs.Yticifbmaapnfbaa
