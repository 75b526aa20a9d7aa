/-
  Plain facts on the specs' loops.
-/
import Derived.Test.YtchmclllcdknjaaGreatDoorGoC
namespace Go.Proofs.YtchmclllcdknjaaGreatDoor
open Enc

theorem vat_nat {α : Type} {m : Nat} (v : Vector α m) (i : Nat) : vat v (i : Int) = v[i]? := by simp [vat]
theorem lat_nat {α : Type} (l : List α) (i : Nat) : lat l (i : Int) = l[i]? := by simp [lat]
theorem vat_lt {α : Type} {m : Nat} (v : Vector α m) {i : Nat} (h : i < m) : vat v (i : Int) = some v[i] := by rw [vat_nat]; simp [h]
theorem or_some (c x : Bool) : (bif c then some true else some x) = some (c || x) := by cases c <;> rfl
theorem and_some (c x : Bool) : (bif c then some x else some false) = some (c && x) := by cases c <;> rfl
theorem cond_some {α : Type} (c : Bool) (x y : α) : (bif c then some x else some y) = some (bif c then x else y) := by cases c <;> rfl
theorem andThen_inl {σ τ : Type} {s : σ} {f : σ → Option τ} : andThen (some (.inl s)) f = f s := rfl
theorem room_ok {α : Type} {l m : List α} (h : l.length + m.length ≤ 2 ^ 40) : room l m = some () := by simp [room, h]
theorem upTo_ok {n : Int} (h : n ≤ 2 ^ 63 - 1) : upTo n = some n.toNat := by unfold upTo; rw [if_pos h]
end Go.Proofs.YtchmclllcdknjaaGreatDoor
