/-
  The rules of slices: append, make, cuts.
-/
import Derived.Test.YtnkfphbggemlbaaGoF
namespace Go.Proofs.Ytnkfphbggemlbaa
open Go.RowKit Enc

theorem set_perm {L : List Item} {i : Nat} {x y : Item} (h : L[i]? = some x) : (y :: L.eraseIdx i).Perm (L.set i y) := by
  have hi := (List.getElem?_eq_some_iff.1 h).1
  rw [set_at h, List.eraseIdx_eq_take_drop_succ]
  exact List.perm_middle.symm
theorem St.addNil {w0 : World} {F : Frz} {L : List Item} {w : World} (h : St w0 F L w) (t : TypeId) (s : Nat) : St w0 F (.own Sl.nil t s [] :: L) w := by
  refine ⟨h.below, h.frz, fun b hb => h.apart b ?_, fun i hi => ?_, ?_⟩
  · rw [feet_cons] at hb; simpa [Item.foot, Sl.foot, Sl.nil] using hb
  · rcases List.mem_cons.1 hi with rfl | hi
    · exact ⟨by simp [Sl.nil], by simp [Sl.nil], .inl ⟨rfl, rfl⟩⟩
    · exact h.holds i hi
  · rw [feet_cons]; simpa [Item.foot, Sl.foot, Sl.nil] using h.nodup

section
variable {P : Program} {w : World}
theorem run_first {fr : Nat × Nat} {s : Sl} {t : TypeId} {m : Nat} {xs : List Value} (h : liesF fr (World.hp w) s t m xs) : (Builtin.firstCells m s.len s.v).run P w = .ok xs.toArray w := by
  rcases h.2.2 with ⟨h2, h3⟩ | ⟨b, off, pre, post, hb, hh, ho, _⟩
  · have : xs = [] := by have := h.1; rw [h2] at this; simpa using this
    subst this
    cases ha : s.a with
    | none => simp [Builtin.firstCells, Sl.v, ha]
    | some a => simp [Builtin.firstCells, Sl.v, ha, h2, loadCells, loadCellsFrom]
  · have hc := run_loadCells_list (P := P) (w := w) ⟨b, off, none⟩ xs (fun j v hj => by
      rw [add_none, cell_list hh]
      rw [List.getElem?_append_right (by omega), List.getElem?_append_left (by have := (List.getElem?_eq_some_iff.1 hj).1; omega)]
      rw [show off + j - pre.length = j by omega]; exact hj)
    rw [h.1] at hc
    simp only [Builtin.firstCells, Sl.v, hb]
    exact hc
theorem liesF.drew {fr : Nat × Nat} {s : Sl} {t : TypeId} {m : Nat} {xs : List Value} (h : liesF fr (World.hp w) s t m xs) : liesF fr (World.hp { w with drawn := w.drawn + 1 }) s t m xs := h
end

section
variable {P : Program} {w0 : World} {F : Frz} {L : List Item}
/-- Append to an owned slice. -/
theorem St.append {fr2 : Nat × Nat} {w : World} {t ty el el2 : TypeId} {i m : Nat} {inf : TypeInfo} {z : Value} {s s2 : Sl} {xs ys : List Value} (hw : St w0 F L w) (hu : ∀ w, (underlying t).run P w = .ok (.slice el) w) (hi : ∀ w, (typeInfo el).run P w = .ok inf w) (hsz : inf.size = m) (hz : inf.zero = some z) (hzc : z.cells.size = m)
    (hL : L[i]? = some (.own s el m xs)) (h2 : liesF fr2 (World.hp w) s2 el2 m ys) (h1 : ys.all one1 = true) (hb1 : s.len + s2.len ≤ 2 ^ 40) (hb2 : inf.bytes ≤ 128) :
    ∃ s' w', (Builtin.append_ #[t, t] ty #[s.v, s2.v]).run P w = .ok s'.v w' ∧ s'.len = s.len + s2.len ∧ St w0 F (L.set i (.own s' el m (xs ++ ys))) w' := by
  have hs : lies (World.hp w) s el m xs := hw.get hL
  have hf2 := run_first (P := P) h2
  have hbytes : (s.len + s2.len) * inf.bytes ≤ 140737488355328 := Nat.le_trans (Nat.mul_le_mul hb1 hb2) (by decide)
  have hl : (xs ++ ys).length = (s.len + s2.len) * m := by rw [List.length_append, hs.1, h2.1, Nat.add_mul]
  by_cases hroom : s.len + s2.len ≤ s.cap
  · rcases hs.2.2 with ⟨g2, g3⟩ | ⟨b, off, pre, post, hb, hh, ho, hcap, hcs⟩
    · have e2 : s2.len = 0 := by omega
      have ey : ys = [] := by have := h2.1; rw [e2] at this; simpa using this
      subst ey
      refine ⟨s, w, ?_, by omega, ?_⟩
      · have hf2' := hf2
        rw [e2] at hf2'
        simp [Sl.v, e2] at hf2'
        cases ha : s.a with
        | none => simp [Builtin.append_, hu, sizeOf, hi, hsz, Builtin.lenOf, Sl.v, ha, g2, g3, e2, hf2']
        | some a => simp [Builtin.append_, hu, sizeOf, hi, hsz, Builtin.lenOf, Sl.v, ha, g2, g3, e2, hf2', storeCells]
      · rw [List.append_nil]
        have : L.set i (.own s el m xs) = L := by rw [set_at hL]; exact (split_at hL).symm
        rw [this]; exact hw
    · -- room in the block
      have hxl := hs.1
      have hyl := h2.1
      have hpl : s2.len * m ≤ post.length := by
        have h3 : (s.len + s2.len) * m ≤ s.cap * m := Nat.mul_le_mul_right m hroom
        rw [Nat.add_mul] at h3
        rw [List.length_append] at hcs
        omega
      have hput : Put (pre ++ (xs ++ post)) (off + s.len * m) ys (pre ++ ((xs ++ ys) ++ post.drop ys.length)) := by
        refine ⟨pre ++ xs, post.take ys.length, post.drop ys.length, by simp, by simp; omega, by simp; omega, by simp⟩
      have hst := run_storeCells_at (P := P) b (off + s.len * m) el ys 0 (pre ++ (xs ++ post)).toArray w hh (by have := hput.le; simp at this ⊢; omega) (by intro u hu'; exact List.all_eq_true.1 h1 u hu')
      simp only [Nat.add_zero] at hst
      rw [hput.eq] at hst
      refine ⟨⟨s.a, s.len + s2.len, s.cap⟩, w.setRow b (pre ++ ((xs ++ ys) ++ post.drop ys.length)).toArray, ?_, rfl, ?_⟩
      · have hf2' := hf2
        simp [Sl.v] at hf2'
        simp [Builtin.append_, hu, sizeOf, hi, hsz, Builtin.lenOf, Sl.v, hb, hroom, hf2', add_none]
        simp at hst
        simp [hst]
      · refine hw.setRow hL (by simp [Item.foot, Sl.foot, hb]) (by simp [Item.foot, Sl.foot, hb]) fun g hgb => ?_
        refine ⟨hl, by simp only; omega, .inr ⟨b, off, pre, post.drop ys.length, hb, hgb _ _ _ hh, ho, hroom, ?_⟩⟩
        simp only [List.length_append, List.length_drop] at hcs ⊢
        omega
  · -- a new block
    have hfit : ¬ (281474976710656 < Builtin.nextslicecap (s.len + s2.len) s.cap * inf.bytes) := by
      have := growslice_fits (need := s.len + s2.len) (old := s.cap) (bytes := inf.bytes) (by omega) hbytes
      omega
    have h63 : ¬ (9223372036854775807 < ((s.len : Int) + (s2.len : Int))) := by omega
    have hf1 := run_first (P := P) (w := { w with drawn := w.drawn + 1 }) hs.drew
    have hf2d := run_first (P := P) (w := { w with drawn := w.drawn + 1 }) h2.drew
    have hg : s.len + s2.len ≤ grownCap w (s.len + s2.len) s.cap el := by
      unfold grownCap Question.cut; exact Nat.le_add_right _ _
    refine ⟨⟨some ⟨w.heap.size, 0, none⟩, s.len + s2.len, grownCap w (s.len + s2.len) s.cap el⟩,
      { w with drawn := w.drawn + 1, heap := w.heap.push (.cells ((xs ++ ys) ++ (Builtin.zeroCells z.cells (grownCap w (s.len + s2.len) s.cap el - (s.len + s2.len))).toList).toArray el) }, ?_, rfl, ?_⟩
    · simp [Sl.v] at hf1 hf2d
      simp [Builtin.append_, hu, sizeOf, zeroValue, hi, hsz, hz, Builtin.lenOf, Sl.v, hroom, h63, hfit, Question.forced, hf1, hf2d, newRow, grownCap]
      generalize Builtin.zeroCells z.cells _ = Z
      have harr : xs.toArray ++ (ys.toArray ++ Z) = (xs ++ (ys ++ Z.toList)).toArray := by apply Array.ext'; simp
      rw [harr]; rfl
    · have hnew := (hw.sublist (L' := L.eraseIdx i) (List.eraseIdx_sublist L i)).drew
      refine (hnew.new (i := .own ⟨some ⟨w.heap.size, 0, none⟩, s.len + s2.len, grownCap w (s.len + s2.len) s.cap el⟩ el m (xs ++ ys))
        (.cells ((xs ++ ys) ++ (Builtin.zeroCells z.cells (grownCap w (s.len + s2.len) s.cap el - (s.len + s2.len))).toList).toArray el) rfl fun g hgb => ?_).perm (set_perm hL)
      refine ⟨hl, by simp only; omega, .inr ⟨_, 0, [], _, rfl, by simpa using hgb, rfl, hg, ?_⟩⟩
      simp only [List.length_append, hs.1, h2.1, Builtin.zeroCells, hzc]
      simp
      rw [← Nat.add_mul, ← Nat.add_mul, Nat.add_sub_cancel' hg]
      exact Nat.le_refl _
end

theorem encs_rep {α : Type} [Enc α] (h0 : 0 < sz α) (z0 : α) : ∀ (k j : Nat), j < k * sz α → (encs (List.replicate k z0))[j]? = (enc z0)[j % sz α]?
  | 0, j, h => by omega
  | k + 1, j, h => by
    rw [List.replicate_succ, encs_cons]
    by_cases hj : j < sz α
    · rw [List.getElem?_append_left (by rw [Enc.len]; exact hj), Nat.mod_eq_of_lt hj]
    · rw [List.getElem?_append_right (by rw [Enc.len]; omega), Enc.len, encs_rep h0 z0 k _ (by rw [Nat.succ_mul] at h; omega), Nat.mod_eq_sub_mod (a := j) (by omega)]
theorem rep_cells {α : Type} [Enc α] (h0 : 0 < sz α) {z : Value} {z0 : α} (hzc : z.cells = (enc z0).toArray) (k : Nat) : (Array.range (k * sz α)).map (fun i => z.cells[i % z.cells.size]!) = (encs (List.replicate k z0)).toArray := by
  have hzs : z.cells.size = sz α := by rw [hzc]; simp [Enc.len]
  apply Array.ext_getElem?
  intro j
  rw [show (encs (List.replicate k z0)).toArray[j]? = (encs (List.replicate k z0))[j]? from by simp]
  by_cases hj : j < k * sz α
  · rw [encs_rep h0 z0 k j hj]
    have h1 : j % sz α < (enc z0).length := by rw [Enc.len]; exact Nat.mod_lt _ h0
    simp [hj, hzs]
    rw [hzc]
    simp [h1]
  · rw [List.getElem?_eq_none (by rw [encs_len]; simp; omega)]
    simp; omega
theorem run_buildSlice {P : Program} {α : Type} [Enc α] {t el k m : Nat} {z : Value} {z0 : α} {xs : List α} {pv : List (Nat × Value)} (hu : ∀ w, (underlying t).run P w = .ok (.slice el) w) (hs : ∀ w, (sizeOf el).run P w = .ok m w) (hz : ∀ w, (zeroValue el).run P w = .ok z w) (hzc : z.cells = (enc z0).toArray) (hm : m = sz α)
    (h0 : (sz α == 0) = false) (hk : decide (k * sz α ≤ 2 ^ 24) = true) (hk0 : (k == 0) = false) (hf : Instr.fill (fun i => some (i * m, m)) (encs (List.replicate k z0)).toArray pv = some (encs xs).toArray) (w : World) :
    (Instr.buildSlice t k pv.toArray).run P w = .ok (.slice (some ⟨w.heap.size, 0, none⟩) k k) { w with heap := w.heap.push (.cells (encs xs).toArray el) } := by
  subst hm
  have h0' : ¬ sz α = 0 := by simpa using h0
  have hk0' : ¬ k = 0 := by simpa using hk0
  have hk' : ¬ (2 ^ 24 < k * sz α) := by simp at hk; omega
  have hks : ¬ (k * sz α = 0) := by intro hh; rcases Nat.mul_eq_zero.1 hh with h' | h' <;> omega
  have hc := rep_cells (by omega) hzc k
  simp only [Nat.reducePow] at hk'
  simp [Instr.buildSlice, hu, hs, hz, hk', newRow]
  rw [hc]
  simp [hf]
  exact fun hh => absurd hh hks

section
variable {P : Program} {n : Nat} {w0 : World} {ops : Array Oper} {Q : Exit → Act → World → Prop} {K : Act → Prop} {l : List Oper} {e : List (Nat × Value)} {F F0 : Frz} {L L' : List Item} {v : Value} {dst : Option Nat} {d : Nat} {ty : TypeId} {pos : String} {aft : Array Edge} {gd : Option (Nat × Bool)}

/-- An owned slice that is nil, out of nothing. -/
theorem Lst.addNil (t : TypeId) (s : Nat) (h : Lst P n w0 ops Q l e F (.own Sl.nil t s [] :: L)) : Lst P n w0 ops Q l e F L := fun a w ha hw => h a w ha (hw.addNil t s)
theorem Cd.addNil {c : Code} (t : TypeId) (s : Nat) (h : Cd P n w0 Q c e F (.own Sl.nil t s [] :: L)) : Cd P n w0 Q c e F L := fun a w ha hw => h a w ha (hw.addNil t s)
theorem At.addNil {x : Exit} (t : TypeId) (s : Nat) (h : At n w0 Q x e F (.own Sl.nil t s [] :: L)) : At n w0 Q x e F L := fun a w ha hw => h a w ha (hw.addNil t s)

theorem Lst.append {α : Type} [Enc α] {x y : Operand} {t el : TypeId} {i m : Nat} {inf : TypeInfo} {z : Value} {s s2 : Sl} {xs ys : List α} {cs : List Value} (hg : gd = none) (hdst : dst = some d) (hn : d < n) (hx : ev e x = some s.v) (hy : ev e y = some s2.v) (hu : ∀ w, (underlying t).run P w = .ok (.slice el) w)
    (hi : ∀ w, (typeInfo el).run P w = .ok inf w) (hsz : inf.size = m) (hz : inf.zero = some z) (hzc : z.cells.size = m) (hmm : m = sz α) (hL : L[i]? = some (.own s el m cs)) (hcs : cs = encs xs) (h2 : Rd w0 F L s2 ys) (hm : (m == 0) = false) (hb1 : xs.length + ys.length ≤ 2 ^ 40) (hb2 : (decide (inf.bytes ≤ 128)) = true)
    (k : ∀ s' : Sl, Lst P n w0 ops Q l ((d, s'.v) :: e) F (L.set i (.own s' el m (encs (xs ++ ys))))) : Lst P n w0 ops Q (⟨dst, .call ⟨.builtin .append, #[x, y], #[t, t]⟩, ty, pos, aft, gd⟩ :: l) e F L :=
  Lst.wp_plain hg fun a w h hw => by
    subst hdst hcs hmm
    have h0 : 0 < sz α := by have : ¬ sz α = 0 := by simpa using hm
                             omega
    have hl1 : s.len = xs.length := (hw.get hL : lies (World.hp w) s el (sz α) (encs xs)).len h0
    obtain ⟨el2, _, h2⟩ := h2 w hw
    have hl2 : s2.len = ys.length := h2.len h0
    obtain ⟨s', w', hr, _, hst⟩ := St.append (ty := ty) hw hu hi hsz hz hzc hL h2 (encs_one ys) (by omega) (by simpa using hb2)
    unfold Oper.wp
    have hrun : (execOp a.eval ⟨some d, .call ⟨.builtin .append, #[x, y], #[t, t]⟩, ty, pos, aft, gd⟩).run P w = .ok (.value s'.v) w' := by
      simp [execOp, resolve, invoke, builtin, h.eval hx, h.eval hy, hr]
    rw [hrun, Oper.upon_value]
    rw [← encs_append] at hst
    exact k s' _ _ (h.put hn _) hst

/-- `make([]T, n, n)`. -/
theorem Lst.make {α : Type} [Enc α] {x y : Operand} {t el : TypeId} {m k : Nat} {inf : TypeInfo} {z : Value} {z0 : α} (hg : gd = none) (hdst : dst = some d) (hn : d < n) (hx : ev e x = some (.int .i64 (k : Int))) (hy : ev e y = some (.int .i64 (k : Int))) (hu : ∀ w, (underlying t).run P w = .ok (.slice el) w)
    (hi : ∀ w, (typeInfo el).run P w = .ok inf w) (hsz : inf.size = m) (hz : inf.zero = some z) (hzc : z.cells = (enc z0).toArray) (hmm : m = sz α) (hm : (m == 0) = false) (hb1 : k ≤ 2 ^ 40) (hb2 : (decide (inf.bytes ≤ 128)) = true)
    (kk : ∀ s' : Sl, Lst P n w0 ops Q l ((d, s'.v) :: e) F (.own s' el m (encs (List.replicate k z0)) :: L)) : Lst P n w0 ops Q (⟨dst, .makeSlice t x y, ty, pos, aft, gd⟩ :: l) e F L :=
  Lst.wp_plain hg fun a w h hw => by
    subst hdst hmm
    have h0 : 0 < sz α := by have : ¬ sz α = 0 := by simpa using hm
                             omega
    have hb2' : inf.bytes ≤ 128 := by simpa using hb2
    have hw64 : IntKind.i64.wrap (k : Int) = k := w64_id (by omega) (by omega)
    have hbig : ¬ ((2 : Int) ^ 48 < (inf.bytes : Int) * (k : Int)) := by
      have : inf.bytes * k ≤ 128 * 2 ^ 40 := Nat.mul_le_mul hb2' hb1
      omega
    have hcells := rep_cells h0 hzc k
    have hrun : (execOp a.eval ⟨some d, .makeSlice t x y, ty, pos, aft, gd⟩).run P w = .ok (.value (.slice (some ⟨w.heap.size, 0, none⟩) k k)) { w with heap := w.heap.push (.cells (encs (List.replicate k z0)).toArray el) } := by
      have hn0 : ¬ ((k : Int) < 0) := by omega
      simp only [Int.reducePow] at hbig
      by_cases hk : k = 0
      · subst hk
        have hw0 : IntKind.i64.wrap 0 = 0 := w64_id (by omega) (by omega)
        simp [execOp, Instr.makeSlice, h.eval hx, h.eval hy, hu, asInt, asIntOf, hi, hw0, newRow, sizeOf]
        rw [show (Array.map (fun _ => default) (Array.range 0) : Array Value) = (encs ([] : List α)).toArray from by simp [encs]]
      · have hks : ¬ (k * sz α = 0) := by
          intro hh; rcases Nat.mul_eq_zero.1 hh with h' | h' <;> omega
        simp [execOp, Instr.makeSlice, h.eval hx, h.eval hy, hu, asInt, asIntOf, hi, hw64, newRow, sizeOf, hsz, zeroValue, hz, hbig, hn0, hcells]
        exact fun hh => absurd hh hks
    unfold Oper.wp
    rw [hrun, Oper.upon_value]
    have hlen : (encs (List.replicate k z0)).length = k * sz α := by rw [encs_len]; simp
    refine kk ⟨some ⟨w.heap.size, 0, none⟩, k, k⟩ _ _ (h.put hn _) (hw.new _ rfl fun g hgb => ?_)
    exact ⟨hlen, by simp only; omega, .inr ⟨_, 0, [], [], rfl, by simpa using hgb, rfl, Nat.le_refl _, by simp [hlen]⟩⟩
end
end Go.Proofs.Ytnkfphbggemlbaa
