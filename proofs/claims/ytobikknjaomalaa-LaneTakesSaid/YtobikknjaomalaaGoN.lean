/-
  Plain facts on the specs' loops.
-/
import Derived.Test.YtobikknjaomalaaGoC
namespace Go.Proofs.Ytobikknjaomalaa
open Enc

theorem lat_nat {α : Type} (l : List α) (i : Nat) : lat l (i : Int) = l[i]? := by simp [lat]
theorem or_some (c x : Bool) : (bif c then some true else some x) = some (c || x) := by cases c <;> rfl
theorem and_some (c x : Bool) : (bif c then some x else some false) = some (c && x) := by cases c <;> rfl
theorem andThen_inl {σ τ : Type} {s : σ} {f : σ → Option τ} : andThen (some (.inl s)) f = f s := rfl
theorem room_ok {α : Type} {l m : List α} (h : l.length + m.length ≤ 2 ^ 40) : room l m = some () := by simp [room, h]
end Go.Proofs.Ytobikknjaomalaa
