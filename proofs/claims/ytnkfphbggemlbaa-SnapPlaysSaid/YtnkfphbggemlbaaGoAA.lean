/-
  Rows of structs that hold a row each: a slice of slices of such, all owned, as one item.
-/
import Derived.Test.YtnkfphbggemlbaaGoR
import Derived.Test.YtnkfphbggemlbaaGoX
import Derived.Test.YtnkfphbggemlbaaGoU
namespace Go.Proofs.Ytnkfphbggemlbaa
open Go.RowKit Enc

/-- The handles: the outer one, and each row's. -/
structure MH where
  s : Sl
  row : Nat → Sl
def MH.nil : MH := ⟨Sl.nil, fun _ => Sl.nil⟩
def MH.push (H : MH) (n : Nat) (s h : Sl) : MH := ⟨s, fun i => if i = n then h else H.row i⟩
def MH.rl {ρ : Type} (H : MH) (rs : List (List ρ)) : List (LR ρ) := rs.mapIdx fun i r => ⟨r, H.row i⟩
section
variable {ρ β : Type} {row : ρ → LR β} {H : MH} {rs rs0 : List (List ρ)} {r r' : List ρ} {z z' z0 : ρ} {p q : Nat}
theorem MH.rl_len : (H.rl rs).length = rs.length := by simp [MH.rl]
theorem MH.rl_get (h : rs[p]? = some r) : (H.rl rs)[p]? = some ⟨r, H.row p⟩ := by simp [MH.rl, h]
theorem MH.rl_set : H.rl (rs.set p r) = (H.rl rs).set p ⟨r, H.row p⟩ := by
  apply List.ext_getElem?
  intro i
  simp only [MH.rl, List.getElem?_mapIdx, List.getElem?_set, List.length_mapIdx]
  by_cases h : p = i
  · subst h; by_cases h2 : p < rs.length <;> simp [h2]
  · simp [h]
theorem MH.rl_push {s h : Sl} : (H.push rs.length s h).rl (rs ++ [r]) = H.rl rs ++ [⟨r, h⟩] := by
  apply List.ext_getElem?
  intro i
  simp only [MH.rl, MH.push, List.getElem?_mapIdx, List.getElem?_append, List.length_mapIdx]
  by_cases h : i < rs.length
  · have : i ≠ rs.length := by omega
    simp [h, this]
  · by_cases h2 : i = rs.length
    · subst h2; simp
    · have : i - rs.length ≠ 0 := by omega
      simp [h, this]
def wsOf (row : ρ → LR β) (rs : List (List ρ)) : List (LR β) := rs.flatMap (·.map row)
theorem mat_split (hp : rs[p]? = some r) (hq : r[q]? = some z) : ∃ A B, wsOf row rs = A ++ row z :: B ∧ ∀ z', wsOf row (rs.set p (r.set q z')) = A ++ row z' :: B := by
  obtain ⟨hp1, hp2⟩ := List.getElem?_eq_some_iff.1 hp
  obtain ⟨hq1, hq2⟩ := List.getElem?_eq_some_iff.1 hq
  have e1 : rs = rs.take p ++ r :: rs.drop (p + 1) := by rw [← hp2, ← List.drop_eq_getElem_cons hp1, List.take_append_drop]
  have e2 : r = r.take q ++ z :: r.drop (q + 1) := by rw [← hq2, ← List.drop_eq_getElem_cons hq1, List.take_append_drop]
  refine ⟨wsOf row (rs.take p) ++ (r.take q).map row, (r.drop (q + 1)).map row ++ wsOf row (rs.drop (p + 1)), ?_, fun z' => ?_⟩
  · conv => lhs; rw [e1, e2]
    simp [wsOf]
  · rw [List.set_eq_take_append_cons_drop, if_pos hp1, List.set_eq_take_append_cons_drop, if_pos hq1]
    simp [wsOf]
theorem wsOf_same (hp : rs[p]? = some r) (hq : r[q]? = some z) (h : row z' = row z) : wsOf row rs = wsOf row (rs.set p (r.set q z')) := by
  obtain ⟨A, B, h1, h2⟩ := mat_split (row := row) hp hq
  rw [h1, h2, h]
theorem set_row (A B : List (LR β)) (a b : LR β) : (A ++ a :: B).set A.length b = A ++ b :: B := by simp
theorem get_row (A B : List (LR β)) (a : LR β) : (A ++ a :: B)[A.length]? = some a := by simp
/-- One of the rows' rows is out. -/
def matHole (rs : List (List ρ)) (p q : Nat) (z : ρ) : List (List ρ) := rs.set p ((rs[p]?.getD []).set q z)
theorem matHole_eq (hp : rs[p]? = some r) : matHole rs p q z0 = rs.set p (r.set q z0) := by simp [matHole, hp]
/-- What the rows read as. -/
theorem mat_hm {α : Type} {f : ρ → α} {l : List (List α)} {x : List α} (hm : rs.map (List.map f) = l) (hr : r.map f = x) (p q : Nat) (z : ρ) : (rs.set p (r.set q z)).map (List.map f) = l.set p (x.set q (f z)) := by
  rw [← hm, List.map_set, List.map_set, hr]
end

/-- Some items as one. -/
def Item.all (Ls : List Item) : Item := .gen (feet Ls) fun h => ∀ i ∈ Ls, i.holds h
theorem all_holds {h : Nat → Option Obj} {Ls : List Item} : (Item.all Ls).holds h ↔ ∀ i ∈ Ls, i.holds h := by
  have hf : ∀ i ∈ Ls, ∀ b ∈ i.foot, b ∈ feet Ls := fun i hi b hb => List.mem_flatMap.2 ⟨i, hi, hb⟩
  constructor
  · intro H i hi
    exact Item.holds_congr (fun b hb => by simp [hf i hi b hb]) (H i hi)
  · intro H i hi
    exact Item.holds_congr (fun b hb => by simp [hf i hi b hb]) (H i hi)
theorem all_feet (Ls M : List Item) : feet (.all Ls :: M) = feet (Ls ++ M) := by rw [feet_append, feet_cons]; rfl
theorem St.all {w0 w : World} {F : Frz} {Ls M : List Item} : St w0 F (.all Ls :: M) w ↔ St w0 F (Ls ++ M) w := by
  have hf := all_feet Ls M
  constructor
  · intro h
    refine ⟨h.below, h.frz, fun b hb => h.apart b (by rwa [hf]), fun it hit => ?_, by rw [← hf]; exact h.nodup⟩
    rcases List.mem_append.1 hit with hit | hit
    · exact all_holds.1 (h.holds _ (List.mem_cons_self ..)) it hit
    · exact h.holds it (List.mem_cons_of_mem _ hit)
  · intro h
    refine ⟨h.below, h.frz, fun b hb => h.apart b (by rwa [← hf]), fun it hit => ?_, by rw [hf]; exact h.nodup⟩
    rcases List.mem_cons.1 hit with rfl | hit
    · exact all_holds.2 fun i hi => h.holds i (List.mem_append_left _ hi)
    · exact h.holds it (List.mem_append_right _ hit)

/-- Handles in u1 blocks, rows in u2 blocks, the rows' rows in u3 blocks; rs0 tells which of the last are here. -/
def Item.mat {ρ β : Type} [Enc ρ] [Enc β] (row : ρ → LR β) (u1 u2 u3 : TypeId) (H : MH) (rs rs0 : List (List ρ)) : Item :=
  .all [.own H.s u1 1 (encs (H.rl rs)), .rows u2 (H.rl rs), .rows u3 (wsOf row rs0)]
/-- The handles and the rows, without the rows' rows. -/
def Item.matO {ρ : Type} [Enc ρ] (u1 u2 : TypeId) (H : MH) (rs : List (List ρ)) : Item :=
  .all [.own H.s u1 1 (encs (H.rl rs)), .rows u2 (H.rl rs)]
/-- A part of the items, some without their rows' rows. -/
inductive LSub : List Item → List Item → Prop
  | refl (L : List Item) : LSub L L
  | skip {A L : List Item} {i : Item} (h : LSub A L) : LSub A (i :: L)
  | keep {A L : List Item} {i : Item} (h : LSub A L) : LSub (i :: A) (i :: L)
  | mo {A L : List Item} {ρ β : Type} [Enc ρ] [Enc β] {row : ρ → LR β} {u1 u2 u3 : TypeId} {H : MH} {rs rs0 : List (List ρ)} (h : LSub A L) : LSub (.matO u1 u2 H rs :: A) (.mat row u1 u2 u3 H rs rs0 :: L)
theorem LSub.feet {A L : List Item} (h : LSub A L) : (feet A).Sublist (feet L) := by
  induction h with
  | refl L => exact .refl _
  | skip _ ih => rw [feet_cons]; exact ih.trans (List.sublist_append_right _ _)
  | keep _ ih => rw [feet_cons, feet_cons]; exact (List.Sublist.refl _).append ih
  | @mo A L ρ β _ _ row u1 u2 u3 H rs rs0 _ ih =>
    rw [feet_cons, feet_cons]
    refine List.Sublist.append ?_ ih
    show (Go.Proofs.Ytnkfphbggemlbaa.feet _).Sublist (Go.Proofs.Ytnkfphbggemlbaa.feet _)
    have e : Go.Proofs.Ytnkfphbggemlbaa.feet [Item.own H.s u1 1 (encs (H.rl rs)), Item.rows u2 (H.rl rs), Item.rows u3 (wsOf row rs0)] = Go.Proofs.Ytnkfphbggemlbaa.feet [Item.own H.s u1 1 (encs (H.rl rs)), Item.rows u2 (H.rl rs)] ++ Go.Proofs.Ytnkfphbggemlbaa.feet [Item.rows u3 (wsOf row rs0)] := feet_append [_, _] [_]
    rw [e]
    exact List.sublist_append_left _ _
theorem LSub.holds {A L : List Item} {h : Nat → Option Obj} (hs : LSub A L) (hh : ∀ i ∈ L, i.holds h) : ∀ i ∈ A, i.holds h := by
  induction hs with
  | refl L => exact hh
  | skip _ ih => exact ih fun i hi => hh i (List.mem_cons_of_mem _ hi)
  | keep _ ih =>
    intro i hi
    rcases List.mem_cons.1 hi with rfl | hi
    · exact hh _ (List.mem_cons_self ..)
    · exact ih (fun i hi => hh i (List.mem_cons_of_mem _ hi)) i hi
  | mo _ ih =>
    intro i hi
    rcases List.mem_cons.1 hi with rfl | hi
    · have h0 := all_holds.1 (hh _ (List.mem_cons_self ..))
      refine all_holds.2 fun j hj => h0 j ?_
      simp only [List.mem_cons, List.not_mem_nil, or_false] at hj ⊢
      rcases hj with rfl | rfl
      · exact .inl rfl
      · exact .inr (.inl rfl)
    · exact ih (fun i hi => hh i (List.mem_cons_of_mem _ hi)) i hi
theorem St.lsub {w0 w : World} {F : Frz} {A L : List Item} (h : St w0 F L w) (hs : LSub A L) : St w0 F A w :=
  ⟨h.below, h.frz, fun b hb => h.apart b (hs.feet.subset hb), hs.holds h.holds, hs.feet.nodup h.nodup⟩
section
variable {P : Program} {n : Nat} {w0 : World} {l : List Oper} {m : Nat} {T : Act → World → Prop} {e : List (Nat × Value)} {F : Frz} {L : List Item}
theorem hdw {ops : Array Oper} {f : Nat} {s : Array Bool} {Lp : List Item} (inv : HeadInv .any l.toArray m s) (hs : LSub Lp L) (k : HdJ P n w0 l m T (fun w => St w0 F (Lp) w) f s e F L) :
    Lst P n w0 ops (Nx fun a' w' => (fun w => St w0 F (Lp) w) w' ∧ Hd P l.toArray m (fun s a w => (Region.seqB .any l.toArray (l.length - m) m s = true) ∧ T a w) (fun w => St w0 F (Lp) w) f s a' w') [] e F L := Lst.nil (At.hd inv (fun _ h => h.lsub hs) k)
theorem HdJ.tw {f d : Nat} {s : Array Bool} {o : Oper} {v : Value} {Lp : List Item} (hsel : Region.noSelect l.toArray = true) (hlt : Region.behind l.toArray m) (i : Nat) (hs : LSub Lp L) (ho : l[i]? = some o) (hy : Ev P n w0 e F Lp o v)
    (k : HdJ P n w0 l m T (fun w => St w0 F Lp w) f (s.setIfInBounds i true) ((d, v) :: e) F L) (hd : o.dst = some d := by exact rfl) (hn : d < n := by decide) (hin : i < m := by decide)
    (hr : (Region.ready .any l.toArray s).contains i = true := by kernel_rfl) (hf : Region.free .any l.toArray s i = true := by kernel_rfl) (hg : o.guard = none := by exact rfl) : HdJ P n w0 l m T (fun w => St w0 F Lp w) (f + 1) s e F L :=
  HdJ.takeK hsel hlt i (fun _ h => h.lsub hs) ho hd hn hin hr hf hg hy k
variable {ρ : Type} [Enc ρ] {u1 u2 : TypeId} {H : MH} {rs : List (List ρ)} {r : List ρ} {p j : Nat}
theorem Rd.matOuterO (hL : L[j]? = some (.matO u1 u2 H rs)) : Rd w0 F L H.s (H.rl rs) := fun _ hw =>
  ⟨u1, (0, 0), all_holds.1 (hw.get hL) _ (List.mem_cons_self ..)⟩
theorem Rd.matRowO (hL : L[j]? = some (.matO u1 u2 H rs)) (hp : rs[p]? = some r) : Rd w0 F L (H.row p) r := fun _ hw =>
  ⟨u2, _, rows_holds.1 (all_holds.1 (hw.get hL) _ (List.mem_cons_of_mem _ (List.mem_cons_self ..))) ⟨r, H.row p⟩ (List.mem_of_getElem? (MH.rl_get hp))⟩
end
section
variable {P : Program} {n : Nat} {w0 : World} {ops : Array Oper} {Q : Exit → Act → World → Prop} {K : Act → Prop} {l : List Oper} {e : List (Nat × Value)} {F F0 : Frz} {L L' M : List Item} {v : Value} {dst : Option Nat} {d : Nat} {ty : TypeId} {pos : String} {aft : Array Edge} {gd : Option (Nat × Bool)}
variable {ρ β : Type} [Enc ρ] [Enc β] {row : ρ → LR β} {u1 u2 u3 : TypeId} {H : MH} {rs rs0 rs1 : List (List ρ)} {r : List ρ} {z z' z0 : ρ} {p q j : Nat}
theorem St.mat {w : World} : St w0 F (.mat row u1 u2 u3 H rs rs0 :: M) w ↔ St w0 F (.own H.s u1 1 (encs (H.rl rs)) :: .rows u2 (H.rl rs) :: .rows u3 (wsOf row rs0) :: M) w := St.all
theorem Rd.matOuter (hL : L[j]? = some (.mat row u1 u2 u3 H rs rs0)) : Rd w0 F L H.s (H.rl rs) := fun _ hw =>
  ⟨u1, (0, 0), all_holds.1 (hw.get hL) _ (List.mem_cons_self ..)⟩
theorem Rd.matRow (hL : L[j]? = some (.mat row u1 u2 u3 H rs rs0)) (hp : rs[p]? = some r) : Rd w0 F L (H.row p) r := fun _ hw =>
  ⟨u2, _, rows_holds.1 (all_holds.1 (hw.get hL) _ (List.mem_cons_of_mem _ (List.mem_cons_self ..))) ⟨r, H.row p⟩ (List.mem_of_getElem? (MH.rl_get hp))⟩
theorem Rd.matWord (hL : L[j]? = some (.mat row u1 u2 u3 H rs rs)) (hp : rs[p]? = some r) (hq : r[q]? = some z) : Rd w0 F L (row z).h (row z).v := fun _ hw =>
  ⟨u3, _, rows_holds.1 (all_holds.1 (hw.get hL) _ (List.mem_cons_of_mem _ (List.mem_cons_of_mem _ (List.mem_cons_self ..)))) (row z)
    (List.mem_flatMap.2 ⟨r, List.mem_of_getElem? hp, List.mem_map_of_mem (List.mem_of_getElem? hq)⟩)⟩
theorem Lst.matNil (u1 u2 u3 : TypeId) (h : Lst P n w0 ops Q l e F (.mat row u1 u2 u3 MH.nil [] [] :: L)) : Lst P n w0 ops Q l e F L := fun a w ha hw =>
  h a w ha (St.mat.2 (((hw.rowsNil (α := β) (u := u3) (k := 0)).rowsNil (α := ρ) (u := u2) (k := 0)).addNil u1 1))
theorem St.matOut {w : World} (h : St w0 F (.mat row u1 u2 u3 H rs rs :: M) w) (hp : rs[p]? = some r) (hq : r[q]? = some z) (hz : row z0 = ⟨[], Sl.nil⟩) : St w0 F (.row u3 (row z) :: .mat row u1 u2 u3 H rs (rs.set p (r.set q z0)) :: M) w := by
  obtain ⟨A, B, h1, h2⟩ := mat_split (row := row) hp hq
  have h3 := St.mat.1 h
  have h4 : St w0 F (.rows u3 (A ++ row z :: B) :: .own H.s u1 1 (encs (H.rl rs)) :: .rows u2 (H.rl rs) :: M) w := by
    rw [← h1]
    exact h3.perm (((List.Perm.swap _ _ _).cons _).trans (List.Perm.swap _ _ _))
  have h5 := h4.rowSet (get_row A B (row z))
  rw [set_row, ← hz, ← h2] at h5
  have h6 := h5.perm (L' := .own H.s u1 1 (encs (H.rl rs)) :: .rows u2 (H.rl rs) :: .rows u3 (wsOf row (rs.set p (r.set q z0))) :: .row u3 (row z) :: M) (by
    refine List.Perm.trans ?_ (List.perm_middle (l₁ := [_, _, _])).symm
    refine List.Perm.cons _ ?_
    exact (List.perm_middle (l₁ := [_, _])).symm)
  exact (St.mat.2 h6).perm (List.Perm.swap _ _ _)
theorem Lst.matOut {m : Nat} {s : Sl} {xs : List β} (hp : rs[p]? = some r) (hq : r[q]? = some z) (hm : sz β = m) (hs : row z = ⟨xs, s⟩) (hz : row z0 = ⟨[], Sl.nil⟩) (h : Lst P n w0 ops Q l e F (.own s u3 m (encs xs) :: .mat row u1 u2 u3 H rs (matHole rs p q z0) :: M)) : Lst P n w0 ops Q l e F (.mat row u1 u2 u3 H rs rs :: M) := by
  subst hm
  rw [matHole_eq hp] at h
  exact fun a w ha hw => h a w ha (by have := hw.matOut hp hq hz; rwa [hs] at this)
theorem Lst.matIn {m : Nat} {s : Sl} {xs : List β} (hp : rs[p]? = some r) (hq : r[q]? = some z) (hm : sz β = m) (hs : row z' = ⟨xs, s⟩) (h : Lst P n w0 ops Q l e F (.mat row u1 u2 u3 H rs1 (rs.set p (r.set q z')) :: M)) : Lst P n w0 ops Q l e F (.own s u3 m (encs xs) :: .mat row u1 u2 u3 H rs1 (matHole rs p q z0) :: M) := by
  subst hm
  rw [matHole_eq hp]
  intro a w ha hw
  refine h a w ha ?_
  obtain ⟨A, B, h1, h2⟩ := mat_split (row := row) hp hq
  have h3 := St.mat.1 (hw.perm (List.Perm.swap _ _ _))
  rw [h2] at h3
  have h4 : St w0 F (.row u3 (⟨xs, s⟩ : LR β) :: .rows u3 (A ++ row z0 :: B) :: .own H.s u1 1 (encs (H.rl rs1)) :: .rows u2 (H.rl rs1) :: M) w := h3.perm (by
    refine List.Perm.trans (List.perm_middle (l₁ := [_, _, _])) ?_
    refine List.Perm.cons _ ?_
    exact List.perm_middle (l₁ := [_, _]))
  have h5 := h4.rowPut (get_row A B (row z0))
  rw [set_row, ← hs, ← h2] at h5
  exact St.mat.2 (h5.perm (List.perm_middle (l₁ := [_, _])).symm)
theorem Lst.matSame (hs : wsOf row rs0 = wsOf row rs1) (h : Lst P n w0 ops Q l e F (.mat row u1 u2 u3 H rs rs1 :: M)) : Lst P n w0 ops Q l e F (.mat row u1 u2 u3 H rs rs0 :: M) := by
  unfold Item.mat at *; rw [hs]; exact h
/-- A store into a row. -/
theorem Lst.matStore {x y : Operand} {t : TypeId} {off m : Nat} {r' : List ρ} {vs : List Value} (hg : gd = none) (hdst : dst = none) (hx : ev e x = some ((H.row p).at off)) (hy : ev e y = some v) (hp : rs[p]? = some r)
    (hs : ∀ w, (sizeOf t).run P w = .ok m w) (hv : v.cells.toList = vs) (hl : vs.length = m) (h0 : 0 < m) (h1 : vs.all one1 = true) (hput : Put (encs r) off vs (encs r'))
    (kk : Lst P n w0 ops Q l e F (.mat row u1 u2 u3 H (rs.set p r') rs0 :: M)) : Lst P n w0 ops Q (⟨dst, .store t x y, ty, pos, aft, gd⟩ :: l) e F (.mat row u1 u2 u3 H rs rs0 :: M) := by
  refine fun a w ha hw => (?_ : Lst P n w0 ops Q (⟨dst, .store t x y, ty, pos, aft, gd⟩ :: l) e F (.rows u2 (H.rl rs) :: .own H.s u1 1 (encs (H.rl rs)) :: .rows u3 (wsOf row rs0) :: M)) a w ha ((St.mat.1 hw).perm (List.Perm.swap _ _ _))
  refine Lst.storeR (r := ⟨r, H.row p⟩) hg hdst hx hy (MH.rl_get hp) hs hv hl h0 h1 hput ?_
  intro a w ha hw
  refine kk a w ha (St.mat.2 ?_)
  have e1 : encs (H.rl (rs.set p r')) = encs (H.rl rs) := by rw [MH.rl_set]; exact encs_rowv (MH.rl_get hp)
  rw [e1, MH.rl_set]
  exact hw.perm (List.Perm.swap _ _ _)
/-- A row more. -/
theorem Lst.matAppend {x y : Operand} {t : TypeId} {m : Nat} {inf : TypeInfo} {zv : Value} {s2 h : Sl} (hg : gd = none) (hdst : dst = some d) (hn : d < n) (hx : ev e x = some H.s.v) (hy : ev e y = some s2.v) (hu : ∀ w, (underlying t).run P w = .ok (.slice u1) w)
    (hi : ∀ w, (typeInfo u1).run P w = .ok inf w) (hsz : inf.size = 1) (hz : inf.zero = some zv) (hzc : zv.cells.size = 1) (hm : sz ρ = m) (h2 : Rd w0 F (.mat row u1 u2 u3 H rs rs :: .own h u2 m (encs r) :: .rows u3 (r.map row) :: M) s2 [(⟨r, h⟩ : LR ρ)]) (hb1 : rs.length + 1 ≤ 2 ^ 40) (hb2 : (decide (inf.bytes ≤ 128)) = true)
    (k : ∀ s' : Sl, Lst P n w0 ops Q l ((d, s'.v) :: e) F (.mat row u1 u2 u3 (H.push rs.length s' h) (rs ++ [r]) (rs ++ [r]) :: M)) : Lst P n w0 ops Q (⟨dst, .call ⟨.builtin .append, #[x, y], #[t, t]⟩, ty, pos, aft, gd⟩ :: l) e F (.mat row u1 u2 u3 H rs rs :: .own h u2 m (encs r) :: .rows u3 (r.map row) :: M) := by
  subst hm
  refine fun a w ha hw => (?_ : Lst P n w0 ops Q _ e F (.own H.s u1 1 (encs (H.rl rs)) :: .rows u2 (H.rl rs) :: .rows u3 (wsOf row rs) :: .own h u2 (sz ρ) (encs r) :: .rows u3 (r.map row) :: M)) a w ha (St.mat.1 hw)
  have h3 : Rd w0 F (.own H.s u1 1 (encs (H.rl rs)) :: .rows u2 (H.rl rs) :: .rows u3 (wsOf row rs) :: .own h u2 (sz ρ) (encs r) :: .rows u3 (r.map row) :: M) s2 [(⟨r, h⟩ : LR ρ)] := fun w hw => h2 w (St.mat.2 hw)
  refine Lst.append (i := 0) (xs := H.rl rs) hg hdst hn hx hy hu hi hsz hz hzc rfl rfl rfl h3 rfl (by rw [MH.rl_len]; exact hb1) hb2 fun s' => ?_
  intro a w ha hw
  refine k s' a w ha (St.mat.2 ?_)
  have hw2 : St w0 F (.own s' u1 1 (encs (H.rl rs ++ [⟨r, h⟩])) :: .rows u2 (H.rl rs) :: .rows u3 (wsOf row rs) :: .own h u2 (sz ρ) (encs r) :: .rows u3 (r.map row) :: M) w := hw
  have h4 : St w0 F (.row u2 (⟨r, h⟩ : LR ρ) :: .rows u2 (H.rl rs) :: .own s' u1 1 (encs (H.rl rs ++ [⟨r, h⟩])) :: .rows u3 (wsOf row rs) :: .rows u3 (r.map row) :: M) w := hw2.perm (by
    refine List.Perm.trans (List.perm_middle (l₁ := [_, _, _])) ?_
    exact List.Perm.cons _ (List.Perm.swap _ _ _))
  have h5 : St w0 F (.rows u3 (wsOf row rs) :: .rows u3 (r.map row) :: .rows u2 (H.rl rs ++ [⟨r, h⟩]) :: .own s' u1 1 (encs (H.rl rs ++ [⟨r, h⟩])) :: M) w := h4.rowPush.perm (by
    refine List.Perm.trans ?_ (List.perm_middle (l₁ := [_, _])).symm
    refine List.Perm.cons _ ?_
    exact (List.perm_middle (l₁ := [_, _])).symm)
  have e1 : wsOf row (rs ++ [r]) = wsOf row rs ++ r.map row := by simp [wsOf]
  rw [MH.rl_push, e1]
  refine h5.rowsApp.perm ?_
  exact (List.Perm.swap _ _ _).trans (((List.Perm.swap _ _ _).cons _).trans (List.Perm.swap _ _ _))
end
end Go.Proofs.Ytnkfphbggemlbaa
