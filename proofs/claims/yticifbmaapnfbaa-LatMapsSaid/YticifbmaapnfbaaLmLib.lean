/-
  What the functions of the slices library compute.
-/
import Derived.Test.YticifbmaapnfbaaLmSp
import Derived.Test.YticifbmaapnfbaaGoW
namespace Go.Proofs.Yticifbmaapnfbaa
open Enc
theorem eq_slices_Index_uint16_uint16 (l : List (BitVec 16)) (a : (BitVec 16)) : slices_Index_uint16_uint16 l a = some (idxI (a == ·) l) := by
  unfold slices_Index_uint16_uint16
  refine index_loop _ fun j x hx => ?_
  unfold slices_Index_uint16_uint16_B0
  rw [lat_nat, hx, Option.bind_some]
  try rw [u_beq]
  first | (cases (a == x) <;> rfl) | (by_cases e : a = x <;> simp [e])
end Go.Proofs.Yticifbmaapnfbaa
