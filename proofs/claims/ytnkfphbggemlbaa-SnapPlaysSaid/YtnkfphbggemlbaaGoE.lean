/-
  The rules of memory: variables, owned slices.
-/
import Derived.Test.YtnkfphbggemlbaaGoD
import Derived.Test.YtnkfphbggemlbaaGoT
namespace Go.Proofs.Ytnkfphbggemlbaa
open Go.RowKit Enc

theorem Get.le {cs : List Value} {off : Nat} {ch : List Value} (h : Get cs off ch) : off + ch.length ≤ cs.length := by
  obtain ⟨A, B, rfl, rfl⟩ := h; simp
theorem Get.at {cs : List Value} {off : Nat} {ch : List Value} (h : Get cs off ch) {j : Nat} {v : Value} (hj : ch[j]? = some v) : cs[off + j]? = some v := by
  obtain ⟨A, B, rfl, rfl⟩ := h
  have hlt := (List.getElem?_eq_some_iff.1 hj).1
  rw [List.getElem?_append_right (by omega), List.getElem?_append_left (by omega), Nat.add_sub_cancel_left]; exact hj
theorem Put.len {cs : List Value} {off : Nat} {vs cs' : List Value} (h : Put cs off vs cs') : cs'.length = cs.length := by
  obtain ⟨A, o, B, rfl, rfl, ho, rfl⟩ := h; simp [ho]
theorem Put.le {cs : List Value} {off : Nat} {vs cs' : List Value} (h : Put cs off vs cs') : off + vs.length ≤ cs.length := by
  obtain ⟨A, o, B, rfl, rfl, ho, rfl⟩ := h; simp [ho]
theorem Put.eq {cs : List Value} {off : Nat} {vs cs' : List Value} (h : Put cs off vs cs') : cs.take off ++ vs ++ cs.drop (off + vs.length) = cs' := by
  obtain ⟨A, o, B, rfl, rfl, ho, rfl⟩ := h
  rw [← ho]
  simp [List.append_assoc]

section
variable {P : Program} {w : World}
theorem cell_list {b off : Nat} {cs : List Value} {t : TypeId} {fr : Nat × Nat} (hb : w.heap[b]? = some (.cells cs.toArray t fr)) : w.cell? ⟨b, off, none⟩ = cs[off]? := by
  rw [cell_of_row w b off _ t fr hb]; simp
theorem add_none (b off k : Nat) : (⟨b, off, none⟩ : Addr).add k = ⟨b, off + k, none⟩ := by
  unfold Addr.add; split <;> simp_all

theorem run_load1 {b off : Nat} {cs : List Value} {t' : TypeId} {fr : Nat × Nat} {t : TypeId} {v : Value} (hb : w.heap[b]? = some (.cells cs.toArray t' fr)) (ha : ∀ w, (isAgg t).run P w = .ok false w) (hg : Get cs off [v]) :
    (loadVar t ⟨b, off, none⟩).run P w = .ok v w := by
  have hc : w.cell? ⟨b, off, none⟩ = some v := by
    rw [cell_list hb]; exact hg.at (j := 0) rfl
  simp [loadVar, ha, hc]
theorem run_loadA {b off : Nat} {cs : List Value} {t' : TypeId} {fr : Nat × Nat} {t : TypeId} {ch : List Value} {s : Nat} (hb : w.heap[b]? = some (.cells cs.toArray t' fr)) (ha : ∀ w, (isAgg t).run P w = .ok true w)
    (hs : ∀ w, (sizeOf t).run P w = .ok s w) (hl : ch.length = s) (hg : Get cs off ch) : (loadVar t ⟨b, off, none⟩).run P w = .ok (.agg ch.toArray) w := by
  have hc := run_loadCells_list (P := P) (w := w) ⟨b, off, none⟩ ch (fun j v hj => by
    rw [add_none, cell_list hb]; exact hg.at hj)
  simp [loadVar, ha, hs, ← hl, hc]
theorem run_storeV {b off : Nat} {cs cs' vs : List Value} {t' t : TypeId} {v : Value} {s : Nat} (hb : w.heap[b]? = some (.cells cs.toArray t' (0, 0))) (hs : ∀ w, (sizeOf t).run P w = .ok s w) (hv : v.cells.toList = vs)
    (hl : vs.length = s) (hp : Put cs off vs cs') (h1 : vs.all one1 = true) : (storeVar t ⟨b, off, none⟩ v).run P w = .ok () (w.setRow b cs'.toArray) := by
  have hc := run_storeCells_at (P := P) b off t' vs 0 cs.toArray w hb (by have := hp.le; simp; omega) (by intro u hu; exact List.all_eq_true.1 h1 u hu)
  have hsz : v.cells.size = s := by rw [← hl, ← hv]; simp
  simp only [Nat.add_zero] at hc
  rw [hp.eq] at hc
  subst hv
  simp only [storeVar, Sem.run_bind, hs, Result.andThen_ok, hsz]
  simpa using hc
end

section
variable {P : Program} {n : Nat} {w0 : World} {ops : Array Oper} {Q : Exit → Act → World → Prop} {l : List Oper} {e : List (Nat × Value)} {F : Frz} {L L' : List Item} {v : Value} {dst : Option Nat} {d : Nat} {ty : TypeId} {pos : String} {aft : Array Edge} {gd : Option (Nat × Bool)}

theorem St.get {w : World} (h : St w0 F L w) {i : Nat} {it : Item} (hi : L[i]? = some it) : it.holds (World.hp w) := h.holds it (List.mem_of_getElem? hi)

/-! variables -/
theorem Ev.load {x : Operand} {t : TypeId} {b off i : Nat} {cs : List Value} {t' : TypeId} (hx : ev e x = some (.pointer (some ⟨b, off, none⟩))) (hL : L[i]? = some (.blk b cs t')) (ha : ∀ w, (isAgg t).run P w = .ok false w)
    (hg : Get cs off [v]) : Ev P n w0 e F L ⟨dst, .load t x, ty, pos, aft, gd⟩ v := fun a w h hw => by
  have hb : w.heap[b]? = some (.cells cs.toArray t' (0, 0)) := hw.get hL
  simp [execOp, h.eval hx, Instr.loadAt, Instr.sureAddr, run_load1 hb ha hg]
theorem Ev.loadA {x : Operand} {t : TypeId} {b off i s : Nat} {cs ch : List Value} {t' : TypeId} (hx : ev e x = some (.pointer (some ⟨b, off, none⟩))) (hL : L[i]? = some (.blk b cs t')) (ha : ∀ w, (isAgg t).run P w = .ok true w)
    (hs : ∀ w, (sizeOf t).run P w = .ok s w) (hl : ch.length = s) (hg : Get cs off ch) : Ev P n w0 e F L ⟨dst, .load t x, ty, pos, aft, gd⟩ (.agg ch.toArray) := fun a w h hw => by
  have hb : w.heap[b]? = some (.cells cs.toArray t' (0, 0)) := hw.get hL
  simp [execOp, h.eval hx, Instr.loadAt, Instr.sureAddr, run_loadA hb ha hs hl hg]

theorem split_at {L : List Item} {i : Nat} {x : Item} (h : L[i]? = some x) : L = L.take i ++ x :: L.drop (i + 1) := by
  have hi := (List.getElem?_eq_some_iff.1 h).1
  have hx : L[i] = x := (List.getElem?_eq_some_iff.1 h).2
  rw [← hx, ← List.drop_eq_getElem_cons hi, List.take_append_drop]
theorem set_at {L : List Item} {i : Nat} {x y : Item} (h : L[i]? = some x) : L.set i y = L.take i ++ y :: L.drop (i + 1) := by
  have hi := (List.getElem?_eq_some_iff.1 h).1
  rw [List.set_eq_take_append_cons_drop, if_pos hi]

theorem St.setRow {w : World} {b i : Nat} {it it' : Item} {cs : List Value} (h : St w0 F L w) (hL : L[i]? = some it) (hi : b ∈ it.foot) (hj : it'.foot = it.foot)
    (hold : ∀ g : Nat → Option Obj, (∀ old t fr, w.heap[b]? = some (.cells old t fr) → g b = some (.cells cs.toArray t fr)) → it'.holds g) : St w0 F (L.set i it') (w.setRow b cs.toArray) := by
  rw [set_at hL]
  rw [split_at hL] at h
  refine h.change hi hj _ (hold _ fun old t fr hb => ?_)
  exact setRow_heap w b old cs.toArray t fr hb

theorem Lst.store {x y : Operand} {t : TypeId} {b off i s : Nat} {cs cs' vs : List Value} {t' : TypeId} (hg : gd = none) (hdst : dst = none) (hx : ev e x = some (.pointer (some ⟨b, off, none⟩))) (hy : ev e y = some v) (hL : L[i]? = some (.blk b cs t'))
    (hs : ∀ w, (sizeOf t).run P w = .ok s w) (hv : v.cells.toList = vs) (hl : vs.length = s) (h1 : vs.all one1 = true) (hp : Put cs off vs cs') (hL' : L.set i (.blk b cs' t') = L')
    (k : Lst P n w0 ops Q l e F L') : Lst P n w0 ops Q (⟨dst, .store t x y, ty, pos, aft, gd⟩ :: l) e F L :=
  Lst.wp_plain hg fun a w h hw => by
    subst hL' hdst
    have hb : w.heap[b]? = some (.cells cs.toArray t' (0, 0)) := hw.get hL
    unfold Oper.wp
    have hr : (execOp a.eval ⟨none, .store t x y, ty, pos, aft, gd⟩).run P w = .ok .skip (w.setRow b cs'.toArray) := by
      simp [execOp, h.eval hx, h.eval hy, Instr.storeAt, Instr.sureAddr, run_storeV hb hs hv hl hp h1]
    rw [hr, Oper.upon_skip]
    refine k _ _ h (hw.setRow hL (by simp [Item.foot]) rfl fun g hgb => ?_)
    exact hgb _ _ _ hb

theorem Lst.alloc {t : TypeId} {z : Value} {cs : List Value} (hg : gd = none) (hdst : dst = some d) (hn : d < n) (hz : ∀ w, (zeroValue t).run P w = .ok z w) (hc : z.cells = cs.toArray)
    (k : ∀ b, Lst P n w0 ops Q l ((d, .pointer (some ⟨b, 0, none⟩)) :: e) F (.blk b cs t :: L)) : Lst P n w0 ops Q (⟨dst, .alloc t, ty, pos, aft, gd⟩ :: l) e F L :=
  Lst.wp_plain hg fun a w h hw => by
    subst hdst
    unfold Oper.wp
    have hr : (execOp a.eval ⟨some d, .alloc t, ty, pos, aft, gd⟩).run P w = .ok (.value (.pointer (some ⟨w.heap.size, 0, none⟩))) { w with heap := w.heap.push (.cells cs.toArray t) } := by
      simp [execOp, Instr.alloc, hz, newVar, newRow, hc]
    rw [hr, Oper.upon_value]
    exact k _ _ _ (h.put hn _) (hw.new _ rfl fun g hgb => hgb)
theorem Lst.box {t : TypeId} {x : Operand} {cs : List Value} (hg : gd = none) (hdst : dst = some d) (hn : d < n) (hx : ev e x = some v) (hc : v.cells = cs.toArray)
    (k : ∀ b, Lst P n w0 ops Q l ((d, .pointer (some ⟨b, 0, none⟩)) :: e) F (.blk b cs t :: L)) : Lst P n w0 ops Q (⟨dst, .box t x, ty, pos, aft, gd⟩ :: l) e F L :=
  Lst.wp_plain hg fun a w h hw => by
    subst hdst
    unfold Oper.wp
    have hr : (execOp a.eval ⟨some d, .box t x, ty, pos, aft, gd⟩).run P w = .ok (.value (.pointer (some ⟨w.heap.size, 0, none⟩))) { w with heap := w.heap.push (.cells cs.toArray t) } := by
      simp [execOp, Instr.box, h.eval hx, newVar, newRow, hc]
    rw [hr, Oper.upon_value]
    exact k _ _ _ (h.put hn _) (hw.new _ rfl fun g hgb => hgb)

/-! slices -/
/-- In every world that fits, v reads as the elements xs. -/
def Rd {α : Type} [Enc α] (w0 : World) (F : Frz) (L : List Item) (v : Sl) (xs : List α) : Prop := ∀ w, St w0 F L w → ∃ t fr, liesF fr (World.hp w) v t (sz α) (encs xs)
theorem Rd.own {α : Type} [Enc α] {v : Sl} {t : TypeId} {s : Nat} {cs : List Value} {xs : List α} {i : Nat} (hL : L[i]? = some (.own v t s cs)) (hs : s = sz α) (hc : cs = encs xs) : Rd w0 F L v xs := fun w hw => by
  subst hs hc
  exact ⟨t, _, hw.get hL⟩
theorem rdo {α : Type} [Enc α] {v : Sl} {t : TypeId} {s : Nat} {cs : List Value} {xs : List α} (i : Nat) (hL : L[i]? = some (.own v t s cs)) (hs : s = sz α) (hc : cs = encs xs) : Rd w0 F L v xs := Rd.own hL hs hc
theorem Rd.mono {α : Type} [Enc α] {F' : Frz} {v : Sl} {xs : List α} (h : Rd w0 F L v xs) (hF : FLe F F') (hL : L.Sublist L') : Rd w0 F' L' v xs := fun w hw => h w ((hw.weaken hF).sublist hL)
theorem Rd.nil {α : Type} [Enc α] : Rd (α := α) w0 F L Sl.nil [] := fun w _ => ⟨0, (0, 0), by simp [encs, Sl.nil], by simp [Sl.nil], .inl ⟨rfl, rfl⟩⟩

theorem liesF.len {fr : Nat × Nat} {α : Type} [Enc α] (h0 : 0 < sz α) {h : Nat → Option Obj} {v : Sl} {t : TypeId} {xs : List α} (hr : liesF fr h v t (sz α) (encs xs)) : v.len = xs.length := by
  have := hr.1
  rw [encs_len] at this
  exact (Nat.eq_of_mul_eq_mul_right h0 this).symm

/-- A part of a variable, as a slice. -/
theorem Rd.blk {α : Type} [Enc α] {b off i n : Nat} {cs : List Value} {t : TypeId} {xs : List α} (hL : L[i]? = some (.blk b cs t)) (hg : Get cs off (encs xs)) (hn : xs.length = n) (h47 : n ≤ 2 ^ 63 - 1) : Rd w0 F L ⟨some ⟨b, off, none⟩, n, n⟩ xs := fun w hw => by
  obtain ⟨A, B, hcs, ho⟩ := hg
  have hb : w.heap[b]? = some (.cells cs.toArray t (0, 0)) := hw.get hL
  subst hn
  exact ⟨t, (0, 0), encs_len xs, h47, .inr ⟨b, off, A, B, rfl, by rw [← hcs]; exact hb, ho, Nat.le_refl _, by rw [List.length_append, encs_len]; exact Nat.le_add_right _ _⟩⟩
theorem Rd.le {α : Type} [Enc α] (h0 : 0 < sz α) {v : Sl} {xs : List α} (h : Rd w0 F L v xs) : ∀ w, St w0 F L w → xs.length ≤ 2 ^ 63 - 1 := fun w hw => by
  obtain ⟨_, _, h1⟩ := h w hw
  rw [← h1.len h0]; exact h1.2.1
def Sl.at (v : Sl) (k : Nat) : Value := match v.a with
  | some a => .pointer (some ⟨a.block, a.off + k, none⟩)
  | none => undef

theorem Ev.indexS {α : Type} [Enc α] {x y : Operand} {t el : TypeId} {s : Sl} {xs : List α} {i : Int} {sz' : Nat} (hx : ev e x = some s.v) (hy : ev e y = some (.int .i64 i)) (hu : ∀ w, (underlying t).run P w = .ok (.slice el) w)
    (hs : ∀ w, (sizeOf el).run P w = .ok sz' w) (hz : sz' = sz α) (hp : 0 < sz α) (hr : Rd w0 F L s xs) (h0 : 0 ≤ i) (hi : i < xs.length) : Ev P n w0 e F L ⟨dst, .indexAddr t x y, ty, pos, aft, gd⟩ (s.at (i.toNat * sz')) := fun a w h hw => by
  subst hz
  obtain ⟨_, _, hl⟩ := hr w hw
  have hlen := hl.len hp
  rcases hl.2.2 with ⟨h1, _⟩ | ⟨b, off, pre, post, hb, _⟩
  · omega
  · have hi' : i < s.len := by omega
    simp [execOp, h.eval hx, h.eval hy, Instr.indexAt, asIntOf, hu, Sl.v, hb, hs, h0, hi', Sl.at, add_none]
theorem liesF.block {fr : Nat × Nat} {v : Sl} {t : TypeId} {s k : Nat} {xs ch : List Value} {w : World} (hr : liesF fr (World.hp w) v t s xs) (hg : Get xs k ch) (hc : 0 < ch.length) :
    ∃ b off cs fr, v.at k = .pointer (some ⟨b, off, none⟩) ∧ w.heap[b]? = some (.cells cs.toArray t fr) ∧ Get cs off ch := by
  rcases hr.2.2 with ⟨h2, _⟩ | ⟨b, off, pre, post, hb, hh, ho, _⟩
  · have := hr.1; have := hg.le; rw [h2] at *; omega
  · refine ⟨b, off + k, _, _, by simp [Sl.at, hb], hh, ?_⟩
    exact Get.right ho (Get.left hg)
theorem Ev.loadS {α : Type} [Enc α] {x : Operand} {t : TypeId} {s : Sl} {xs : List α} {k : Nat} (hx : ev e x = some (s.at k)) (hr : Rd w0 F L s xs) (ha : ∀ w, (isAgg t).run P w = .ok false w)
    (hg : Get (encs xs) k [v]) : Ev P n w0 e F L ⟨dst, .load t x, ty, pos, aft, gd⟩ v := fun a w h hw => by
  obtain ⟨b, off, cs, fr, h1, h2, h3⟩ := (hr w hw).choose_spec.choose_spec.block hg (by simp)
  simp [execOp, h.eval hx, h1, Instr.loadAt, Instr.sureAddr, run_load1 h2 ha h3]
theorem Ev.loadSA {α : Type} [Enc α] {x : Operand} {t : TypeId} {s : Sl} {xs : List α} {ch : List Value} {k m : Nat} (hx : ev e x = some (s.at k)) (hr : Rd w0 F L s xs) (ha : ∀ w, (isAgg t).run P w = .ok true w)
    (hs : ∀ w, (sizeOf t).run P w = .ok m w) (hl : ch.length = m) (h0 : 0 < m) (hg : Get (encs xs) k ch) : Ev P n w0 e F L ⟨dst, .load t x, ty, pos, aft, gd⟩ (.agg ch.toArray) := fun a w h hw => by
  obtain ⟨b, off, cs, fr, h1, h2, h3⟩ := (hr w hw).choose_spec.choose_spec.block hg (by omega)
  simp [execOp, h.eval hx, h1, Instr.loadAt, Instr.sureAddr, run_loadA h2 ha hs hl h3]
theorem Ev.fieldS {α : Type} [Enc α] {x : Operand} {t : TypeId} {s : Sl} {xs : List α} {k off f' m j : Nat} {fs : Array Field} {f : Field} {ch : List Value} (hx : ev e x = some (s.at off)) (hr : Rd w0 F L s xs) (hg : Get (encs xs) off ch) (hc : (ch.length == 0) = false)
    (hu : ∀ w, (underlying t).run P w = .ok (.struct fs) w) (hf : fs[k]? = some f) (hs : ∀ w, (sizeOf f.type).run P w = .ok m w) (h0 : (m == 0) = false) (hj : f.offset = j) (ho : off + j = f') :
    Ev P n w0 e F L ⟨dst, .fieldAddr t x k, ty, pos, aft, gd⟩ (s.at f') := fun a w h hw => by
  subst ho hj
  have h0' : ¬ m = 0 := by simpa using h0
  have hc' : ¬ ch.length = 0 := by simpa using hc
  obtain ⟨b, o, cs, fr, h1, h2, h3⟩ := (hr w hw).choose_spec.choose_spec.block hg (by omega)
  have h1' : s.a = some ⟨b, o - off, none⟩ ∨ s.a.isSome := by
    right
    cases hq : s.a with
    | none => simp [Sl.at, hq, undef] at h1
    | some a => rfl
  cases hq : s.a with
  | none => simp [hq] at h1'
  | some ad =>
    simp [execOp, h.eval hx, Sl.at, hq, Instr.fieldAt, hu, hf, Instr.sureAddr, fieldPlace, hs, h0', add_none]

/-! slices of slices -/
/-- A slice as an element: what it reads as, and where it lies. -/
structure LR (α : Type) where
  v : List α
  h : Sl
instance {α : Type} : Enc (LR α) := ⟨fun x => enc x.h, 1, fun _ => rfl, fun _ => rfl⟩
def LR.rel {α : Type} [Enc α] (w0 : World) (F : Frz) (L : List Item) (x : LR α) : Prop := Rd w0 F L x.h x.v
theorem LR.mono {α : Type} [Enc α] {F' : Frz} {x : LR α} (h : LR.rel w0 F L x) (hF : FLe F F') (hL : L.Sublist L') : LR.rel w0 F' L' x := Rd.mono h hF hL
def All {ρ : Type} (rel : World → Frz → List Item → ρ → Prop) (w0 : World) (F : Frz) (L : List Item) (rs : List ρ) : Prop := ∀ x ∈ rs, rel w0 F L x
theorem All.nil {ρ : Type} {rel : World → Frz → List Item → ρ → Prop} : All rel w0 F L [] := fun x hx => by simp at hx
theorem All.set {ρ : Type} {rel : World → Frz → List Item → ρ → Prop} {rs : List ρ} {x : ρ} {i : Nat} (h : All rel w0 F L rs) (hx : rel w0 F L x) : All rel w0 F L (rs.set i x) := fun y hy => by
  rcases List.mem_or_eq_of_mem_set hy with hy | rfl
  · exact h y hy
  · exact hx
theorem All.rep {ρ : Type} {rel : World → Frz → List Item → ρ → Prop} {x : ρ} {k : Nat} (hx : rel w0 F L x) : All rel w0 F L (List.replicate k x) := fun y hy => by
  rw [List.eq_of_mem_replicate hy]; exact hx
theorem All.monoLR {α : Type} [Enc α] {F' : Frz} {rs : List (LR α)} (h : All LR.rel w0 F L rs) (hF : FLe F F') (hL : L.Sublist L') : All LR.rel w0 F' L' rs := fun x hx => LR.mono (h x hx) hF hL
theorem map_get {ρ α : Type} {f : ρ → α} {rs : List ρ} {xs : List α} (hm : rs.map f = xs) {i : Nat} {x : α} (hx : xs[i]? = some x) : ∃ r, rs[i]? = some r ∧ f r = x ∧ r ∈ rs := by
  subst hm
  rw [List.getElem?_map] at hx
  cases h : rs[i]? with
  | none => rw [h] at hx; cases hx
  | some r => rw [h] at hx; exact ⟨r, rfl, Option.some.inj hx, List.mem_of_getElem? h⟩
theorem map_len {ρ α : Type} {f : ρ → α} {rs : List ρ} {xs : List α} (hm : rs.map f = xs) : rs.length = xs.length := by rw [← hm]; simp
theorem map_set {ρ α : Type} {f : ρ → α} {rs : List ρ} {xs : List α} (hm : rs.map f = xs) (i : Nat) (r : ρ) : (rs.set i r).map f = xs.set i (f r) := by rw [← hm, List.map_set]
theorem map_rep {ρ α : Type} {f : ρ → α} (k : Nat) (r : ρ) : (List.replicate k r).map f = List.replicate k (f r) := by simp
/-- A frozen slice. -/
theorem Rd.frozen {α : Type} [Enc α] {F' : Frz} {v : Sl} {t : TypeId} {s : Nat} {cs : List Value} {xs : List α} (h : ∀ w, St w0 F' [] w → (Item.own v t s cs).holds (World.hp w)) (hs : s = sz α) (hc : cs = encs xs) : Rd w0 F' [] v xs := fun w hw => by
  subst hs hc
  exact ⟨t, _, h w hw⟩
/-- A cut of a slice. -/
def Sl.cut (s : Sl) (lo hi m : Nat) : Sl := ⟨if s.cap = lo then s.a else s.a.map (·.add (lo * m)), hi - lo, s.cap - lo⟩
theorem liesF.cut {fr : Nat × Nat} {h : Nat → Option Obj} {v : Sl} {t : TypeId} {m lo hi : Nat} {xs : List Value} (hr : liesF fr h v t m xs) (h1 : lo ≤ hi) (h2 : hi ≤ v.len) : liesF fr h (v.cut lo hi m) t m ((xs.drop (lo * m)).take ((hi - lo) * m)) := by
  obtain ⟨e1, e2, e3⟩ := hr
  have hmul : hi * m ≤ v.len * m := Nat.mul_le_mul_right m h2
  have hlo : lo * m ≤ hi * m := Nat.mul_le_mul_right m h1
  have hsub : (hi - lo) * m = hi * m - lo * m := Nat.sub_mul _ _ _
  refine ⟨by simp [Sl.cut]; omega, by simp only [Sl.cut]; omega, ?_⟩
  rcases e3 with ⟨g2, g3⟩ | ⟨b, off, pre, post, g1, g2, g3, g4, g5⟩
  · left; simp only [Sl.cut]; exact ⟨by omega, by omega⟩
  · right
    by_cases hc : v.cap = lo
    · refine ⟨b, off, pre, xs ++ post, by simp only [Sl.cut, if_pos hc]; exact g1, ?_, g3, by simp only [Sl.cut]; omega, ?_⟩
      · have : (hi - lo) = 0 := by omega
        rw [this]; simpa using g2
      · simp only [Sl.cut, hc]; simp
    · refine ⟨b, off + lo * m, pre ++ xs.take (lo * m), (xs.drop (lo * m)).drop ((hi - lo) * m) ++ post, ?_, ?_, ?_, ?_, ?_⟩
      · simp only [Sl.cut, if_neg hc, g1, Option.map_some, add_none]
      · rw [g2]
        congr 2
        rw [List.append_assoc, ← List.append_assoc (List.take ((hi - lo) * m) _), List.take_append_drop, ← List.append_assoc (List.take (lo * m) xs), List.take_append_drop]
      · simp [g3]; omega
      · simp only [Sl.cut]; omega
      · simp only [Sl.cut, Nat.sub_mul]
        have : v.cap * m ≤ xs.length + post.length := by simpa using g5
        simp; omega
theorem Rd.cut {α : Type} [Enc α] (h0 : 0 < sz α) {v : Sl} {xs : List α} {lo hi : Nat} (h : Rd w0 F L v xs) (h1 : lo ≤ hi) (h2 : hi ≤ xs.length) : Rd w0 F L (v.cut lo hi (sz α)) ((xs.drop lo).take (hi - lo)) := fun w hw => by
  obtain ⟨t, fr, hl⟩ := h w hw
  have hlen := hl.len h0
  refine ⟨t, fr, ?_⟩
  have := hl.cut (lo := lo) (hi := hi) h1 (by omega)
  rwa [← encs_drop, ← encs_take] at this
/-- A store into an owned slice. -/
theorem Lst.storeS {x y : Operand} {t el : TypeId} {s : Sl} {k i m es : Nat} {xs xs' vs : List Value} (hg : gd = none) (hdst : dst = none) (hx : ev e x = some (s.at k)) (hy : ev e y = some v) (hL : L[i]? = some (.own s el es xs))
    (hs : ∀ w, (sizeOf t).run P w = .ok m w) (hv : v.cells.toList = vs) (hl : vs.length = m) (h0 : 0 < m) (h1 : vs.all one1 = true) (hp : Put xs k vs xs') (hL' : L.set i (.own s el es xs') = L')
    (kk : Lst P n w0 ops Q l e F L') : Lst P n w0 ops Q (⟨dst, .store t x y, ty, pos, aft, gd⟩ :: l) e F L :=
  Lst.wp_plain hg fun a w h hw => by
    subst hL' hdst
    have hr : lies (World.hp w) s el es xs := hw.get hL
    rcases hr.2.2 with ⟨g2, _⟩ | ⟨b, off, pre, post, hb, hh, ho, hcap, hcs⟩
    · have := hr.1; have := hp.le; rw [g2] at *; omega
    · have hat : s.at k = .pointer (some ⟨b, off + k, none⟩) := by simp [Sl.at, hb]
      have hput : Put (pre ++ (xs ++ post)) (off + k) vs (pre ++ (xs' ++ post)) := Put.right ho (Put.left hp)
      unfold Oper.wp
      have hrun : (execOp a.eval ⟨none, .store t x y, ty, pos, aft, gd⟩).run P w = .ok .skip (w.setRow b (pre ++ (xs' ++ post)).toArray) := by
        simp [execOp, h.eval hx, h.eval hy, hat, Instr.storeAt, Instr.sureAddr, run_storeV hh hs hv hl hput h1]
      rw [hrun, Oper.upon_skip]
      refine kk _ _ h (hw.setRow hL (by simp [Item.foot, Sl.foot, hb]) (by simp [Item.foot, Sl.foot, hb]) fun g hgb => ?_)
      refine ⟨by rw [hp.len]; exact hr.1, hr.2.1, .inr ⟨b, off, pre, post, hb, hgb _ _ _ hh, ho, hcap, ?_⟩⟩
      rw [List.length_append, hp.len, ← List.length_append]; exact hcs
end
end Go.Proofs.Ytnkfphbggemlbaa
