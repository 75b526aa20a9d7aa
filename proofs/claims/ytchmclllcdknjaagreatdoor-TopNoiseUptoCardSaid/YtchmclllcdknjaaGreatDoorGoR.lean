/-
  Arrays of slices: each entry's handle lies in the array; the rows are owned or frozen.
-/
import Derived.Test.YtchmclllcdknjaaGreatDoorGoK
namespace Go.Proofs.YtchmclllcdknjaaGreatDoor
open Go.RowKit Enc

/-! the first entries of an array of slices are owned, the others not yet -/
theorem map_at {α β : Type} (f : α → β) {l : List α} {i : Nat} {x : α} (h : l[i]? = some x) : (List.map f l)[i]? = some (f x) := by rw [List.getElem?_map, h]; rfl
theorem map_set_same {α β : Type} {f : α → β} {l : List α} {i : Nat} {x y : α} (h : l[i]? = some x) (e : f y = f x) : List.map f (l.set i y) = List.map f l := by
  rw [List.map_set, e]
  exact set_self (map_at f h)
theorem map_set_in {α β : Type} {f : α → β} {l : List α} {i : Nat} {y : α} {a b : β} (e : f y = b) : ((List.map f l).set i a).set i b = List.map f (l.set i y) := by
  rw [List.set_set, List.map_set, e]
/-! a slice that is a row, or was one -/
def Among {α : Type} (R O : List (LR α)) (s : Sl) (l : List α) : Prop := (s = Sl.nil ∧ l = []) ∨ (⟨l, s⟩ : LR α) ∈ R ∨ (⟨l, s⟩ : LR α) ∈ O
theorem Among.nil {α : Type} {R O : List (LR α)} : Among R O Sl.nil [] := .inl ⟨rfl, rfl⟩
theorem Among.row {α : Type} {R O : List (LR α)} {k : Nat} {s : Sl} {l : List α} (h : R[k]? = some ⟨l, s⟩) : Among R O s l := .inr (.inl (List.mem_of_getElem? h))
theorem Among.set {α : Type} {R O : List (LR α)} {k : Nat} {s : Sl} {l : List α} {r y : LR α} (h : Among R O s l) (hr : R[k]? = some r) : Among (R.set k y) (O ++ [r]) s l := by
  rcases h with h | h | h
  · exact .inl h
  · obtain ⟨j, hj⟩ := List.getElem?_of_mem h
    by_cases e : j = k
    · subst e
      rw [hr] at hj
      cases hj
      exact .inr (.inr (by simp))
    · refine .inr (.inl (List.mem_of_getElem? (i := j) ?_))
      rw [List.getElem?_set, if_neg (fun h => e h.symm)]; exact hj
  · exact .inr (.inr (List.mem_append_left _ h))
/-! the handles of rows -/
section
variable {P : Program} {n : Nat} {w0 : World} {ops : Array Oper} {Q : Exit → Act → World → Prop} {l : List Oper} {e : List (Nat × Value)} {F : Frz} {L L' : List Item}
theorem Cd.rowsNil {c : Code} (α : Type) [Enc α] (u : TypeId) (k : Nat) (h : Cd P n w0 Q c e F (.rows u (List.replicate k (⟨[], Sl.nil⟩ : LR α)) :: L)) : Cd P n w0 Q c e F L := fun a w ha hw => h a w ha hw.rowsNil
theorem At.rowsNil {x : Exit} (α : Type) [Enc α] (u : TypeId) (k : Nat) (h : At n w0 Q x e F (.rows u (List.replicate k (⟨[], Sl.nil⟩ : LR α)) :: L)) : At n w0 Q x e F L := fun a w ha hw => h a w ha hw.rowsNil
end
end Go.Proofs.YtchmclllcdknjaaGreatDoor
