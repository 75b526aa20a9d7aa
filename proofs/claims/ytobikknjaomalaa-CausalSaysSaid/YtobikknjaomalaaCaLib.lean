/-
  What the functions of the slices library compute.
-/
import Derived.Test.YtobikknjaomalaaCaSp
import Derived.Test.YtobikknjaomalaaGoW
namespace Go.Proofs.Ytobikknjaomalaa
open Enc
theorem eq_slices_Clone_api_Mail_api_Mail {l : List Mail} (h : l.length ≤ 2 ^ 40) : slices_Clone_api_Mail_api_Mail l = some l := by
  unfold slices_Clone_api_Mail_api_Mail
  rw [room_ok (by simpa using h)]; rfl
theorem eq_slices_Delete_api_Mail_api_Mail {l : List Mail} {k : Nat} (h : k < l.length) (h2 : l.length ≤ 2 ^ 40) : slices_Delete_api_Mail_api_Mail l (k : Int) (w64 ((k : Int) + 1)) = some (l.eraseIdx k) := by
  have e64 : w64 ((k : Int) + 1) = ((k + 1 : Nat) : Int) := by rw [w64_id (by omega) (by omega)]; rfl
  unfold slices_Delete_api_Mail_api_Mail
  rw [e64]
  have c1 : ∀ i j : Int, 0 ≤ i → i ≤ j → j ≤ l.length → ∃ m, cutL l i j = some m := fun i j a b c => ⟨_, by unfold cutL; rw [if_pos ⟨a, b, c⟩]⟩
  obtain ⟨m1, q1⟩ := c1 (k : Int) ((k + 1 : Nat) : Int) (by omega) (by omega) (by omega)
  obtain ⟨m2, q2⟩ := c1 0 (k : Int) (by omega) (by omega) (by omega)
  obtain ⟨m3, q3⟩ := c1 ((k + 1 : Nat) : Int) (l.length : Int) (by omega) (by omega) (by omega)
  rw [q1, Option.bind_some, show (((k : Int)) == ((k + 1 : Nat) : Int)) = false from by simp; omega, cond_false, q2, Option.bind_some, q3, Option.bind_some, List.eraseIdx_eq_take_drop_succ]
  rfl
theorem eq_slices_Equal_api_Mail_api_Mail (l m : List Mail) : slices_Equal_api_Mail_api_Mail l m = some (decide (l = m)) := by
  unfold slices_Equal_api_Mail_api_Mail
  exact equal_loop (fun x y => !(decide (x = y))) (fun x y => by first | rfl | (rw [Bool.eq_iff_iff]; simp)) (fun j => rfl)
end Go.Proofs.Ytobikknjaomalaa
