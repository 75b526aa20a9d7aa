/-
  Arrays of slices: each entry's handle lies in the array; the rows are owned or frozen.
-/
import Derived.Test.YticifbmaapnfbaaGoK
namespace Go.Proofs.Yticifbmaapnfbaa
open Go.RowKit Enc

theorem vmap_get {ρ α : Type} {f : ρ → α} {m : Nat} {rs : Vector ρ m} {xs : Vector α m} (hm : rs.toList.map f = xs.toList) {i : Nat} {x : α} (hx : xs[i]? = some x) : ∃ r, rs[i]? = some r ∧ f r = x ∧ r ∈ rs.toList ∧ rs.toList[i]? = some r := by
  obtain ⟨r, h1, h2, h3⟩ := map_get hm (i := i) (x := x) (by simpa using hx)
  exact ⟨r, by simpa using h1, h2, h3, h1⟩
theorem vmap_set {ρ α : Type} {f : ρ → α} {m : Nat} {rs : Vector ρ m} {xs : Vector α m} (hm : rs.toList.map f = xs.toList) (i : Nat) (r : ρ) : (rs.setIfInBounds i r).toList.map f = (xs.setIfInBounds i (f r)).toList := by
  rw [Vector.toList_setIfInBounds, Vector.toList_setIfInBounds, map_set hm]
theorem vmap_rep {ρ α : Type} {f : ρ → α} (k : Nat) (r : ρ) : (Vector.replicate k r).toList.map f = (Vector.replicate k (f r)).toList := by simp
theorem vAll_set {ρ : Type} {rel : World → Frz → List Item → ρ → Prop} {w0 : World} {F : Frz} {L : List Item} {m : Nat} {rs : Vector ρ m} {x : ρ} {i : Nat} (h : All rel w0 F L rs.toList) (hx : rel w0 F L x) : All rel w0 F L (rs.setIfInBounds i x).toList := by
  rw [Vector.toList_setIfInBounds]; exact All.set h hx
theorem vAll_rep {ρ : Type} {rel : World → Frz → List Item → ρ → Prop} {w0 : World} {F : Frz} {L : List Item} {x : ρ} {k : Nat} (hx : rel w0 F L x) : All rel w0 F L (Vector.replicate k x).toList := by
  rw [Vector.toList_replicate]; exact All.rep hx
/-- A cut of an owned slice, read at what the slice holds now. -/
theorem Rd.cutLive {α : Type} [Enc α] {w0 : World} {F : Frz} {L : List Item} {i m lo hi : Nat} {s : Sl} {t : TypeId} {cs : List Value} {xs : List α} (hL : L[i]? = some (.own s t m cs)) (hcs : cs = encs xs) (hm : m = sz α) (hp : 0 < sz α) (h1 : lo ≤ hi) (h2 : hi ≤ s.len) : Rd w0 F L (s.cut lo hi m) ((xs.drop lo).take (hi - lo)) := fun w hw => by
  subst hcs hm
  have hl : lies (World.hp w) s t (sz α) (encs xs) := hw.get hL
  have := hl.cut (lo := lo) (hi := hi) h1 h2
  rw [← encs_drop, ← encs_take] at this
  exact ⟨t, (0, 0), this⟩
/-! the first entries of an array of slices are owned, the others not yet -/
def vmask {α : Type} [Enc α] {n : Nat} (i : Nat) (rs : Vector (LR α) n) : List (LR α) := rs.toList.take i ++ List.replicate (n - i) ⟨[], Sl.nil⟩
theorem vmask_zero {α : Type} [Enc α] {n : Nat} (rs : Vector (LR α) n) : vmask 0 rs = List.replicate n ⟨[], Sl.nil⟩ := by simp [vmask]
theorem vmask_full {α : Type} [Enc α] {n i : Nat} {rs : Vector (LR α) n} (h : n ≤ i) : vmask i rs = rs.toList := by
  unfold vmask; rw [Nat.sub_eq_zero_of_le h, List.take_of_length_le (by simpa using h)]; simp
theorem vmask_get {α : Type} [Enc α] {n i : Nat} {rs : Vector (LR α) n} (h : i < n) : (vmask i rs)[((i : Int)).toNat]? = some ⟨[], Sl.nil⟩ := by
  unfold vmask
  rw [Int.toNat_natCast, List.getElem?_append_right (by simp; omega)]
  simp only [List.length_take, Vector.length_toList, Nat.min_eq_left (Nat.le_of_lt h), Nat.sub_self]
  rw [List.getElem?_replicate, if_pos (by omega)]
theorem vmask_set {α : Type} [Enc α] {n i : Nat} {rs : Vector (LR α) n} (h : i < n) (r : LR α) : (vmask i rs).set ((i : Int)).toNat r = vmask (i + 1) (rs.setIfInBounds ((i : Int)).toNat r) := by
  unfold vmask
  rw [Int.toNat_natCast, Vector.toList_setIfInBounds, show n - i = (n - (i + 1)) + 1 from by omega, List.replicate_succ]
  have hl : (rs.toList.take i).length = i := by simp; omega
  rw [List.set_append_right _ _ (by omega), hl, Nat.sub_self, List.set_cons_zero, List.take_set, List.take_add_one]
  have hg : rs.toList[i]? = some rs[i] := by simp [h]
  rw [hg, Option.toList_some, List.set_append_right _ _ (by omega), hl, Nat.sub_self, List.set_cons_zero]
  simp
theorem vtd_map {α : Type} [Enc α] {n : Nat} (a : Vector (LR α) n) : a.toList.map LR.v = (a.map LR.v).toList := by rw [Vector.toList_map]
theorem vtd_rng {α : Type} [Enc α] [Rng α] {n : Nat} {a : Vector (LR α) n} {ok : LR α → Prop} (h : ∀ (i : Nat) (r : LR α), a[i]? = some r → ok r ∧ Rng.ok r.v) : Rng.ok (a.map LR.v) := fun i x hx => by
  rw [Vector.getElem?_map] at hx
  obtain ⟨r, hr, rfl⟩ := Option.map_eq_some_iff.1 hx
  exact (h i r hr).2
theorem vtd_rel {α : Type} [Enc α] {n : Nat} {a : Vector (LR α) n} {rel : World → Frz → List Item → LR α → Prop} {w : World} {F : Frz} {L : List Item} {ok : LR α → Prop} (h : ∀ (i : Nat) (r : LR α), a[i]? = some r → rel w F L r ∧ ok r) : All rel w F L a.toList := fun r hr => by
  obtain ⟨i, hi⟩ := List.mem_iff_getElem?.1 hr
  exact (h i r (by simpa using hi)).1
theorem map_at {α β : Type} (f : α → β) {l : List α} {i : Nat} {x : α} (h : l[i]? = some x) : (List.map f l)[i]? = some (f x) := by rw [List.getElem?_map, h]; rfl
theorem map_set_same {α β : Type} {f : α → β} {l : List α} {i : Nat} {x y : α} (h : l[i]? = some x) (e : f y = f x) : List.map f (l.set i y) = List.map f l := by
  rw [List.map_set, e]
  exact set_self (map_at f h)
theorem map_set_in {α β : Type} {f : α → β} {l : List α} {i : Nat} {y : α} {a b : β} (e : f y = b) : ((List.map f l).set i a).set i b = List.map f (l.set i y) := by
  rw [List.set_set, List.map_set, e]
theorem map_set_nil {α β : Type} {f : α → β} {l : List α} {i : Nat} {y : α} {b : β} (e : f y = b) : (List.map f l).set i b = List.map f (l.set i y) := by
  rw [List.map_set, e]
/-! the handles of rows -/
theorem row_h {α : Type} [Enc α] {rs : List (LR α)} {k : Nat} {r : LR α} (h : rs[k]? = some r) : (rs.map LR.h)[k]? = some r.h := by rw [List.getElem?_map, h]; rfl
theorem row_handle {α : Type} [Enc α] {rs : List (LR α)} {k : Nat} {r : LR α} {s : Sl} (h1 : (rs.map LR.h)[k]? = some s) (h2 : rs[k]? = some r) : s = r.h := by
  rw [row_h h2] at h1; exact (Option.some.inj h1).symm
theorem row_h_set {α : Type} [Enc α] {rs : List (LR α)} {k j : Nat} {r : LR α} {s : Sl} {xs : List α} (h : rs[k]? = some r) (h1 : (rs.map LR.h)[j]? = some s) : ((rs.set k ⟨xs, r.h⟩).map LR.h)[j]? = some s := by
  rw [List.map_set]
  have : (rs.map LR.h).set k r.h = rs.map LR.h := set_self (row_h h)
  rw [this]; exact h1
section
variable {P : Program} {n : Nat} {w0 : World} {ops : Array Oper} {Q : Exit → Act → World → Prop} {l : List Oper} {e : List (Nat × Value)} {F : Frz} {L L' : List Item}
theorem Lst.rowsNilV (α : Type) [Enc α] (u : TypeId) (k : Nat) (h : Lst P n w0 ops Q l e F (.rows u (Vector.replicate k (⟨[], Sl.nil⟩ : LR α)).toList :: L)) : Lst P n w0 ops Q l e F L := by
  rw [Vector.toList_replicate] at h
  exact fun a w ha hw => h a w ha hw.rowsNil
theorem Cd.rowsNil {c : Code} (α : Type) [Enc α] (u : TypeId) (k : Nat) (h : Cd P n w0 Q c e F (.rows u (List.replicate k (⟨[], Sl.nil⟩ : LR α)) :: L)) : Cd P n w0 Q c e F L := fun a w ha hw => h a w ha hw.rowsNil
theorem At.rowsNil {x : Exit} (α : Type) [Enc α] (u : TypeId) (k : Nat) (h : At n w0 Q x e F (.rows u (List.replicate k (⟨[], Sl.nil⟩ : LR α)) :: L)) : At n w0 Q x e F L := fun a w ha hw => h a w ha hw.rowsNil
theorem St.rowsApp {α : Type} [Enc α] {u : TypeId} {rs rs' : List (LR α)} {M : List Item} {w : World} (h : St w0 F (.rows u rs :: .rows u rs' :: M) w) : St w0 F (.rows u (rs ++ rs') :: M) w := by
  refine St.rows.2 ?_
  rw [List.map_append, List.append_assoc]
  have h1 := St.rows.1 h
  have h2 : St w0 F (.rows u rs' :: (rs.map (Item.row u) ++ M)) w := h1.perm List.perm_middle
  have h3 := St.rows.1 h2
  refine h3.perm ?_
  rw [← List.append_assoc, ← List.append_assoc]
  exact List.Perm.append_right _ List.perm_append_comm
/-- Two lists of rows become one. -/
theorem Lst.rowsApp {α : Type} [Enc α] {u : TypeId} {rs rs' : List (LR α)} {M : List Item} (h : Lst P n w0 ops Q l e F (.rows u (rs ++ rs') :: M)) : Lst P n w0 ops Q l e F (.rows u rs :: .rows u rs' :: M) := fun a w ha hw => h a w ha hw.rowsApp
end
end Go.Proofs.Yticifbmaapnfbaa
