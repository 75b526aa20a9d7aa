/-
  What the functions of the slices library compute.
-/
import Derived.Test.YticifbmaapnfbaaLsSp
import Derived.Test.YticifbmaapnfbaaGoW
namespace Go.Proofs.Yticifbmaapnfbaa
open Enc
theorem eq_slices_Equal_uint16_uint16 (l m : List (BitVec 16)) : slices_Equal_uint16_uint16 l m = some (decide (l = m)) := by
  unfold slices_Equal_uint16_uint16
  exact equal_loop (fun x y => (x.toNat : Int) != (y.toNat : Int)) (fun x y => by first | rfl | (rw [Bool.eq_iff_iff]; simp; done) | (rw [u_bne, Bool.eq_iff_iff]; simp)) (fun j => rfl)
theorem eq_slices_Equal_api_Pair_api_Pair (l m : List Pair) : slices_Equal_api_Pair_api_Pair l m = some (decide (l = m)) := by
  unfold slices_Equal_api_Pair_api_Pair
  exact equal_loop (fun x y => !(decide (x = y))) (fun x y => by first | rfl | (rw [Bool.eq_iff_iff]; simp; done) | (rw [u_bne, Bool.eq_iff_iff]; simp)) (fun j => rfl)
end Go.Proofs.Yticifbmaapnfbaa
