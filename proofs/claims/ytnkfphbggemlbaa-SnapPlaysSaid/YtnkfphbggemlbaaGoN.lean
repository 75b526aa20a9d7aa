/-
  Plain facts on the specs' loops.
-/
import Derived.Test.YtnkfphbggemlbaaGoC
namespace Go.Proofs.Ytnkfphbggemlbaa
open Enc

theorem lat_nat {α : Type} (l : List α) (i : Nat) : lat l (i : Int) = l[i]? := by simp [lat]
theorem or_some (c x : Bool) : (bif c then some true else some x) = some (c || x) := by cases c <;> rfl
theorem and_some (c x : Bool) : (bif c then some x else some false) = some (c && x) := by cases c <;> rfl
theorem cond_some {α : Type} (c : Bool) (x y : α) : (bif c then some x else some y) = some (bif c then x else y) := by cases c <;> rfl
theorem room_ok {α : Type} {l m : List α} (h : l.length + m.length ≤ 2 ^ 40) : room l m = some () := by simp [room, h]
theorem upTo_ok {n : Int} (h : n ≤ 2 ^ 63 - 1) : upTo n = some n.toNat := by unfold upTo; rw [if_pos h]
end Go.Proofs.Ytnkfphbggemlbaa
