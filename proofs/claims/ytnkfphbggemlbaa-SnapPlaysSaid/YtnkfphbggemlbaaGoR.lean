/-
  Arrays of slices: each entry's handle lies in the array; the rows are owned or frozen.
-/
import Derived.Test.YtnkfphbggemlbaaGoK
namespace Go.Proofs.Ytnkfphbggemlbaa
open Go.RowKit Enc

/-! the first entries of an array of slices are owned, the others not yet -/
/-! a slice that is a row, or was one -/
def Among {α : Type} (R O : List (LR α)) (s : Sl) (l : List α) : Prop := (s = Sl.nil ∧ l = []) ∨ (⟨l, s⟩ : LR α) ∈ R ∨ (⟨l, s⟩ : LR α) ∈ O
theorem Among.nil {α : Type} {R O : List (LR α)} : Among R O Sl.nil [] := .inl ⟨rfl, rfl⟩
theorem Among.row {α : Type} {R O : List (LR α)} {k : Nat} {s : Sl} {l : List α} (h : R[k]? = some ⟨l, s⟩) : Among R O s l := .inr (.inl (List.mem_of_getElem? h))
theorem Among.set {α : Type} {R O : List (LR α)} {k : Nat} {s : Sl} {l : List α} {r y : LR α} (h : Among R O s l) (hr : R[k]? = some r) : Among (R.set k y) (O ++ [r]) s l := by
  rcases h with h | h | h
  · exact .inl h
  · obtain ⟨j, hj⟩ := List.getElem?_of_mem h
    by_cases e : j = k
    · subst e
      rw [hr] at hj
      cases hj
      exact .inr (.inr (by simp))
    · refine .inr (.inl (List.mem_of_getElem? (i := j) ?_))
      rw [List.getElem?_set, if_neg (fun h => e h.symm)]; exact hj
  · exact .inr (.inr (List.mem_append_left _ h))
/-! the handles of rows -/
section
variable {P : Program} {n : Nat} {w0 : World} {ops : Array Oper} {Q : Exit → Act → World → Prop} {l : List Oper} {e : List (Nat × Value)} {F : Frz} {L L' : List Item}
theorem Cd.rowsNil {c : Code} (α : Type) [Enc α] (u : TypeId) (k : Nat) (h : Cd P n w0 Q c e F (.rows u (List.replicate k (⟨[], Sl.nil⟩ : LR α)) :: L)) : Cd P n w0 Q c e F L := fun a w ha hw => h a w ha hw.rowsNil
theorem At.rowsNil {x : Exit} (α : Type) [Enc α] (u : TypeId) (k : Nat) (h : At n w0 Q x e F (.rows u (List.replicate k (⟨[], Sl.nil⟩ : LR α)) :: L)) : At n w0 Q x e F L := fun a w ha hw => h a w ha hw.rowsNil
theorem St.rowsApp {α : Type} [Enc α] {u : TypeId} {rs rs' : List (LR α)} {M : List Item} {w : World} (h : St w0 F (.rows u rs :: .rows u rs' :: M) w) : St w0 F (.rows u (rs ++ rs') :: M) w := by
  refine St.rows.2 ?_
  rw [List.map_append, List.append_assoc]
  have h1 := St.rows.1 h
  have h2 : St w0 F (.rows u rs' :: (rs.map (Item.row u) ++ M)) w := h1.perm List.perm_middle
  have h3 := St.rows.1 h2
  refine h3.perm ?_
  rw [← List.append_assoc, ← List.append_assoc]
  exact List.Perm.append_right _ List.perm_append_comm
/-- Two lists of rows become one. -/
theorem Lst.rowsApp {α : Type} [Enc α] {u : TypeId} {rs rs' : List (LR α)} {M : List Item} (h : Lst P n w0 ops Q l e F (.rows u (rs ++ rs') :: M)) : Lst P n w0 ops Q l e F (.rows u rs :: .rows u rs' :: M) := fun a w ha hw => h a w ha hw.rowsApp
end
end Go.Proofs.Ytnkfphbggemlbaa
