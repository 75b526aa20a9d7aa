/-
  A frame for walks: what a piece of code does, said over all acts and worlds that fit a list of slots and a list of owned blocks.
-/
import Derived.WalkKit
import Derived.WalkSpells
import Derived.WalkLawsBesides
import Derived.Lib.Hide
import Derived.Deep.Quiet
namespace Go.Proofs.Ytnkfphbggemlbaa
open Go.RowKit

abbrev pv (b o : Nat) : Value := .pointer (some ⟨b, o, none⟩)
abbrev iv (i : Int) : Value := .int .i64 i
/-! ### Slots -/
def look : List (Nat × Value) → Nat → Option Value
  | [], _ => none
  | (k, v) :: e, t => bif k == t then some v else look e t

def ev (e : List (Nat × Value)) : Operand → Option Value
  | .tmp t => look e t
  | .const v => some v
  | .global g => some (.pointer (some ⟨g, 0, none⟩))
  | .func f => some (.func (.func f) #[] #[])

structure EnvOk (n : Nat) (a : Act) (e : List (Nat × Value)) : Prop where
  defers : a.defers = []
  size : a.tmps.size = n
  get : ∀ t v, look e t = some v → a.tmps[t]? = some v

theorem EnvOk.eval {n : Nat} {a : Act} {e : List (Nat × Value)} (h : EnvOk n a e) {x : Operand} {v : Value} (hx : ev e x = some v) : a.eval x = v := by
  cases x with
  | tmp t =>
    have := h.get t v hx
    simp only [Act.eval, Array.getD_eq_getD_getElem?, this, Option.getD_some]
  | const v' => simpa [ev, Act.eval] using hx
  | global g => simpa [ev, Act.eval] using hx
  | func f => simpa [ev, Act.eval] using hx

theorem EnvOk.put {n : Nat} {a : Act} {e : List (Nat × Value)} (h : EnvOk n a e) {d : Nat} (hd : d < n) (v : Value) : EnvOk n (a.put (some d) v) ((d, v) :: e) := by
  refine ⟨h.defers, by simp [Act.put, h.size], fun t u hu => ?_⟩
  simp only [look] at hu
  by_cases e1 : d = t
  · subst e1
    simp only [beq_self_eq_true, cond_true, Option.some.injEq] at hu
    subst hu
    simp [Act.put, h.size, hd]
  · have : (d == t) = false := by simpa using e1
    rw [this, cond_false] at hu
    simp only [Act.put, Array.getElem?_setIfInBounds, if_neg e1]
    exact h.get t u hu

/-- The slots of e' are slots of e. -/
def sub (e : List (Nat × Value)) : List (Nat × Value) → Prop
  | [] => True
  | (k, v) :: r => look e k = some v ∧ sub e r

theorem sub.look {e : List (Nat × Value)} : ∀ {e' : List (Nat × Value)}, sub e e' → ∀ t v, look e' t = some v → look e t = some v
  | [], _, t, v, h => by simp [Ytnkfphbggemlbaa.look] at h
  | (k, u) :: r, ⟨h1, h2⟩, t, v, h => by
    simp only [Ytnkfphbggemlbaa.look] at h
    by_cases e1 : k = t
    · subst e1; simp only [beq_self_eq_true, cond_true, Option.some.injEq] at h; subst h; exact h1
    · have : (k == t) = false := by simpa using e1
      rw [this, cond_false] at h
      exact sub.look h2 t v h
theorem EnvOk.sub {n : Nat} {a : Act} {e e' : List (Nat × Value)} (h : EnvOk n a e) (hs : Ytnkfphbggemlbaa.sub e e') : EnvOk n a e' :=
  ⟨h.defers, h.size, fun t v hv => h.get t v (hs.look t v hv)⟩

/-- All operands of a list. -/
def evs (e : List (Nat × Value)) : List Operand → List Value → Prop
  | [], [] => True
  | x :: xs, v :: vs => ev e x = some v ∧ evs e xs vs
  | _, _ => False
theorem EnvOk.evals {n : Nat} {a : Act} {e : List (Nat × Value)} (h : EnvOk n a e) : ∀ {xs : List Operand} {vs : List Value}, evs e xs vs → xs.map a.eval = vs
  | [], [], _ => rfl
  | x :: xs, v :: vs, ⟨h1, h2⟩ => by rw [List.map_cons, h.eval h1, h.evals h2]
  | [], _ :: _, h => h.elim
  | _ :: _, [], h => h.elim

/-! ### Owned and frozen blocks -/
abbrev Frz := Nat → Option Obj

/-- A slice, as it lies in a slot. -/
structure Sl where
  a : Option Addr
  len : Nat
  cap : Nat
def Sl.v (s : Sl) : Value := .slice s.a s.len s.cap
def Sl.nil : Sl := ⟨none, 0, 0⟩

inductive Item where
  /-- a variable's block -/
  | blk (b : Nat) (cs : List Value) (t : TypeId)
  /-- the elements of a slice that is owned: t the element's type, s its cells, xs all cells -/
  | own (v : Sl) (t : TypeId) (s : Nat) (xs : List Value)
  /-- blocks with what holds of them -/
  | gen (fs : List Nat) (p : (Nat → Option Obj) → Prop)
  /-- any object -/
  | obj (b : Nat) (o : Obj)

/-- v reads as the cells xs in the heap h (elements of s cells; a block of elements of type t, not frozen). -/
def liesF (fr : Nat × Nat) (h : Nat → Option Obj) (v : Sl) (t : TypeId) (s : Nat) (xs : List Value) : Prop :=
  xs.length = v.len * s ∧ v.len ≤ 2 ^ 63 - 1 ∧ ((v.len = 0 ∧ v.cap = 0) ∨
    ∃ b off pre post, v.a = some ⟨b, off, none⟩ ∧ h b = some (.cells (pre ++ (xs ++ post)).toArray t fr) ∧ pre.length = off ∧ v.len ≤ v.cap ∧ v.cap * s ≤ (xs ++ post).length)
abbrev lies (h : Nat → Option Obj) (v : Sl) (t : TypeId) (s : Nat) (xs : List Value) : Prop := liesF (0, 0) h v t s xs

def Item.holds (h : Nat → Option Obj) : Item → Prop
  | .blk b cs t => h b = some (.cells cs.toArray t (0, 0))
  | .own v t s xs => lies h v t s xs
  | .gen fs p => p (fun b => if b ∈ fs then h b else none)
  | .obj b o => h b = some o
def Sl.foot (v : Sl) : List Nat := (v.a.map (·.block)).toList
def Item.foot : Item → List Nat
  | .blk b _ _ => [b]
  | .own v _ _ _ => v.foot
  | .gen fs _ => fs
  | .obj b _ => [b]

theorem lies_congr {fr : Nat × Nat} {h h' : Nat → Option Obj} {v : Sl} {t : TypeId} {s : Nat} {xs : List Value} (hb : ∀ b ∈ v.foot, h' b = h b) (hi : liesF fr h v t s xs) : liesF fr h' v t s xs := by
  obtain ⟨h1, h2, h3⟩ := hi
  refine ⟨h1, h2, h3.imp id ?_⟩
  rintro ⟨b, off, pre, post, e, h4, h5⟩
  exact ⟨b, off, pre, post, e, by rw [hb b (by simp [Sl.foot, e])]; exact h4, h5⟩
theorem Item.holds_congr {h h' : Nat → Option Obj} {i : Item} (hb : ∀ b ∈ i.foot, h' b = h b) (hi : i.holds h) : i.holds h' := by
  cases i with
  | blk b cs t => simpa [Item.holds, hb b (by simp [Item.foot])] using hi
  | obj b o => simpa [Item.holds, hb b (by simp [Item.foot])] using hi
  | own v t s xs => exact lies_congr hb hi
  | gen fs p =>
    have e : (fun b => if b ∈ fs then h' b else none) = fun b => if b ∈ fs then h b else none := by
      funext b; by_cases m : b ∈ fs
      · simp [m, hb b m]
      · simp [m]
    simp only [Item.holds, e]; exact hi

def World.hp (w : World) : Nat → Option Obj := fun b => w.heap[b]?

def feet (L : List Item) : List Nat := L.flatMap Item.foot

structure St (w0 : World) (F : Frz) (L : List Item) (w : World) : Prop where
  below : Below w0.heap.size w0 w
  frz : ∀ b o, F b = some o → w.heap[b]? = some o
  apart : ∀ b ∈ feet L, w0.heap.size ≤ b ∧ b < w.heap.size ∧ F b = none
  holds : ∀ i ∈ L, i.holds (World.hp w)
  nodup : (feet L).Nodup

def FLe (F F' : Frz) : Prop := ∀ b o, F b = some o → F' b = some o
theorem FLe.refl (F : Frz) : FLe F F := fun _ _ h => h
theorem fl {F : Frz} : FLe F F := fun _ _ h => h
theorem FLe.trans {F G H : Frz} (h : FLe F G) (k : FLe G H) : FLe F H := fun b o hb => k b o (h b o hb)
theorem FLe.none {F G : Frz} (h : FLe F G) {b : Nat} (hb : G b = none) : F b = none := by
  cases e : F b with
  | none => rfl
  | some o => rw [h b o e] at hb; cases hb

theorem St.weaken {w0 : World} {F F' : Frz} {L : List Item} {w : World} (h : St w0 F' L w) (hF : FLe F F') : St w0 F L w :=
  ⟨h.below, fun b o hb => h.frz b o (hF b o hb), fun b hb => ⟨(h.apart b hb).1, (h.apart b hb).2.1, hF.none (h.apart b hb).2.2⟩, h.holds, h.nodup⟩

theorem feet_append (L M : List Item) : feet (L ++ M) = feet L ++ feet M := by simp [feet]
theorem feet_cons (i : Item) (L : List Item) : feet (i :: L) = i.foot ++ feet L := by simp [feet]
theorem mem_feet {i : Item} {L : List Item} {b : Nat} (hi : i ∈ L) (hb : b ∈ i.foot) : b ∈ feet L := List.mem_flatMap.2 ⟨i, hi, hb⟩

theorem feet_sub {L L' : List Item} (h : L'.Sublist L) : (feet L').Sublist (feet L) := by
  induction h with
  | slnil => exact List.Sublist.refl _
  | cons a _ ih => rw [feet_cons]; exact ih.trans (List.sublist_append_right _ _)
  | cons_cons a _ ih => rw [feet_cons, feet_cons]; exact List.Sublist.append (List.Sublist.refl _) ih
theorem St.sublist {w0 : World} {F : Frz} {L L' : List Item} {w : World} (h : St w0 F L w) (hs : L'.Sublist L) : St w0 F L' w := by
  have hf : (feet L').Sublist (feet L) := feet_sub hs
  exact ⟨h.below, h.frz, fun b hb => h.apart b (hf.subset hb), fun i hi => h.holds i (hs.subset hi), h.nodup.sublist hf⟩

theorem St.drew {w0 : World} {F : Frz} {L : List Item} {w : World} (h : St w0 F L w) : St w0 F L { w with drawn := w.drawn + 1 } :=
  ⟨Below.drew h.below, h.frz, h.apart, h.holds, h.nodup⟩

/-- A new block on top. -/
theorem St.new {w0 : World} {F : Frz} {L : List Item} {w : World} (h : St w0 F L w) (o : Obj) {i : Item} (hf : i.foot = [w.heap.size]) (hi : ∀ g : Nat → Option Obj, g w.heap.size = some o → i.holds g) :
    St w0 F (i :: L) { w with heap := w.heap.push o } := by
  refine ⟨Below.alloc h.below h.below.size o, fun b o' hb => ?_, fun b hb => ?_, fun j hj => ?_, ?_⟩
  · have := h.frz b o' hb
    have hlt : b < w.heap.size := (Array.getElem?_eq_some_iff.1 this).1
    show (w.heap.push o)[b]? = some o'
    rw [Array.getElem?_push, if_neg (by omega)]; exact this
  · rw [feet_cons, hf] at hb
    rcases List.mem_append.1 hb with hb | hb
    · simp only [List.mem_singleton] at hb
      subst hb
      refine ⟨h.below.size, by simp, ?_⟩
      cases e : F w.heap.size with
      | none => rfl
      | some o' => have := (Array.getElem?_eq_some_iff.1 (h.frz _ _ e)).1; omega
    · have := h.apart b hb
      exact ⟨this.1, by simp; omega, this.2.2⟩
  · rcases List.mem_cons.1 hj with rfl | hj
    · exact hi _ (by simp [World.hp])
    · refine Item.holds_congr (fun b hb => ?_) (h.holds j hj)
      have := (h.apart b (mem_feet hj hb)).2.1
      simp only [World.hp, Array.getElem?_push]
      rw [if_neg (by omega)]
  · rw [feet_cons, hf]
    refine List.nodup_cons.2 ⟨fun hm => ?_, h.nodup⟩
    have := (h.apart _ hm).2.1
    omega

/-- One block of an item is changed; the item becomes another one of the same blocks. -/
theorem St.change {w0 : World} {F : Frz} {L M : List Item} {w : World} {i j : Item} {b : Nat} (h : St w0 F (L ++ i :: M) w) (hi : b ∈ i.foot) (hj : j.foot = i.foot) (f : Obj → Obj)
    (hold : j.holds (World.hp { w with heap := w.heap.modify b f })) : St w0 F (L ++ j :: M) { w with heap := w.heap.modify b f } := by
  have hmem : b ∈ feet (L ++ i :: M) := by rw [feet_append, feet_cons]; simp [hi]
  have hb := h.apart b hmem
  have hother : ∀ c, c ≠ b → (w.heap.modify b f)[c]? = w.heap[c]? := fun c hc => by
    rw [Array.getElem?_modify, if_neg (by omega)]
  have hfeet : feet (L ++ j :: M) = feet (L ++ i :: M) := by rw [feet_append, feet_append, feet_cons, feet_cons, hj]
  refine ⟨?_, fun c o hc => ?_, fun c hc => ?_, fun k hk => ?_, by rw [hfeet]; exact h.nodup⟩
  · exact h.below.trans ⟨rfl, rfl, rfl, by simp, fun k hk => hother k (by omega)⟩
  · show (w.heap.modify b f)[c]? = some o
    rw [hother c (fun e => by subst e; rw [hb.2.2] at hc; cases hc)]
    exact h.frz c o hc
  · rw [hfeet] at hc
    have := h.apart c hc
    exact ⟨this.1, by simpa using this.2.1, this.2.2⟩
  · have hnd := h.nodup
    rw [feet_append, feet_cons] at hnd
    have h2 := List.nodup_append.1 hnd
    have h3 := List.nodup_append.1 h2.2.1
    have hne : ∀ k', (k' ∈ L ∨ k' ∈ M) → ∀ c ∈ k'.foot, c ≠ b := by
      intro k' hk' c hc e
      subst e
      rcases hk' with hk' | hk'
      · exact h2.2.2 c (mem_feet hk' hc) c (List.mem_append_left _ hi) rfl
      · exact h3.2.2 c hi c (mem_feet hk' hc) rfl
    rcases List.mem_append.1 hk with hk | hk
    · exact Item.holds_congr (fun c hc => hother c (hne k (.inl hk) c hc)) (h.holds k (by simp [hk]))
    · rcases List.mem_cons.1 hk with rfl | hk
      · exact hold
      · exact Item.holds_congr (fun c hc => hother c (hne k (.inr hk) c hc)) (h.holds k (by simp [hk]))

theorem feet_perm {L L' : List Item} (h : L.Perm L') : (feet L).Perm (feet L') := by
  induction h with
  | nil => exact List.Perm.refl _
  | cons a _ ih => rw [feet_cons, feet_cons]; exact ih.append_left _
  | swap a b l => rw [feet_cons, feet_cons, feet_cons, feet_cons, ← List.append_assoc, ← List.append_assoc]; exact List.perm_append_comm.append_right _
  | trans _ _ ih1 ih2 => exact ih1.trans ih2
theorem St.perm {w0 : World} {F : Frz} {L L' : List Item} {w : World} (h : St w0 F L w) (hp : L.Perm L') : St w0 F L' w := by
  have hf : (feet L).Perm (feet L') := feet_perm hp
  exact ⟨h.below, h.frz, fun b hb => h.apart b (hf.mem_iff.2 hb), fun i hi => h.holds i (hp.mem_iff.2 hi), hf.nodup_iff.1 h.nodup⟩
theorem St.freeze {w0 : World} {F : Frz} {L : List Item} {w : World} {i : Nat} {it : Item} (h : St w0 F L w) (hL : L[i]? = some it) : ∃ F', FLe F F' ∧ St w0 F' (L.eraseIdx i) w ∧ ∀ w', St w0 F' [] w' → it.holds (World.hp w') := by
  have hit := h.holds it (List.mem_of_getElem? hL)
  have hi := (List.getElem?_eq_some_iff.1 hL).1
  have hx : L[i] = it := (List.getElem?_eq_some_iff.1 hL).2
  have hperm : (it :: L.eraseIdx i).Perm L := by
    have e : L = L.take i ++ it :: L.drop (i + 1) := by rw [← hx, ← List.drop_eq_getElem_cons hi, List.take_append_drop]
    rw [List.eraseIdx_eq_take_drop_succ]
    exact List.perm_middle.symm.trans (by rw [← e])
  have h' := h.perm hperm.symm
  have hnd := h'.nodup
  rw [feet_cons] at hnd
  have hnd' := List.nodup_append.1 hnd
  refine ⟨fun c => if c ∈ it.foot then w.heap[c]? else F c, fun c o hc => ?_, ⟨h.below, fun c o hc => ?_, fun c hc => ?_, fun j hj => h'.holds j (List.mem_cons_of_mem _ hj), hnd'.2.1⟩, fun w' hw' => ?_⟩
  · by_cases e : c ∈ it.foot
    · have hb := h'.apart c (by rw [feet_cons]; exact List.mem_append_left _ e)
      rw [hb.2.2] at hc; cases hc
    · simp only [if_neg e]; exact hc
  · by_cases e : c ∈ it.foot
    · simpa [e] using hc
    · simp only [if_neg e] at hc; exact h.frz c o hc
  · have hc' := h'.apart c (by rw [feet_cons]; exact List.mem_append_right _ hc)
    refine ⟨hc'.1, hc'.2.1, ?_⟩
    have e : c ∉ it.foot := fun e => hnd'.2.2 c e c hc rfl
    simp only [if_neg e]; exact hc'.2.2
  · refine Item.holds_congr (fun c hc => ?_) hit
    have hb := h'.apart c (by rw [feet_cons]; exact List.mem_append_left _ hc)
    have hlt := hb.2.1
    have := hw'.frz c w.heap[c] (by simp [hc, hlt])
    simp only [World.hp, this]
    simp [hlt]
end Go.Proofs.Ytnkfphbggemlbaa
