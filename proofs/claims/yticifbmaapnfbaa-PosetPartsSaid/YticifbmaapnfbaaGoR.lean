/-
  Arrays of slices: each entry's handle lies in the array; the rows are owned or frozen.
-/
import Derived.Test.YticifbmaapnfbaaGoK
namespace Go.Proofs.Yticifbmaapnfbaa
open Go.RowKit Enc

/-! the first entries of an array of slices are owned, the others not yet -/
/-! the handles of rows -/
theorem row_h {α : Type} [Enc α] {rs : List (LR α)} {k : Nat} {r : LR α} (h : rs[k]? = some r) : (rs.map LR.h)[k]? = some r.h := by rw [List.getElem?_map, h]; rfl
section
variable {P : Program} {n : Nat} {w0 : World} {ops : Array Oper} {Q : Exit → Act → World → Prop} {l : List Oper} {e : List (Nat × Value)} {F : Frz} {L L' : List Item}
theorem Cd.rowsNil {c : Code} (α : Type) [Enc α] (u : TypeId) (k : Nat) (h : Cd P n w0 Q c e F (.rows u (List.replicate k (⟨[], Sl.nil⟩ : LR α)) :: L)) : Cd P n w0 Q c e F L := fun a w ha hw => h a w ha hw.rowsNil
theorem At.rowsNil {x : Exit} (α : Type) [Enc α] (u : TypeId) (k : Nat) (h : At n w0 Q x e F (.rows u (List.replicate k (⟨[], Sl.nil⟩ : LR α)) :: L)) : At n w0 Q x e F L := fun a w ha hw => h a w ha hw.rowsNil
theorem St.rowsApp {α : Type} [Enc α] {u : TypeId} {rs rs' : List (LR α)} {M : List Item} {w : World} (h : St w0 F (.rows u rs :: .rows u rs' :: M) w) : St w0 F (.rows u (rs ++ rs') :: M) w := by
  refine St.rows.2 ?_
  rw [List.map_append, List.append_assoc]
  have h1 := St.rows.1 h
  have h2 : St w0 F (.rows u rs' :: (rs.map (Item.row u) ++ M)) w := h1.perm List.perm_middle
  have h3 := St.rows.1 h2
  refine h3.perm ?_
  rw [← List.append_assoc, ← List.append_assoc]
  exact List.Perm.append_right _ List.perm_append_comm
/-- Two lists of rows become one. -/
theorem Lst.rowsApp {α : Type} [Enc α] {u : TypeId} {rs rs' : List (LR α)} {M : List Item} (h : Lst P n w0 ops Q l e F (.rows u (rs ++ rs') :: M)) : Lst P n w0 ops Q l e F (.rows u rs :: .rows u rs' :: M) := fun a w ha hw => h a w ha hw.rowsApp
end
end Go.Proofs.Yticifbmaapnfbaa
