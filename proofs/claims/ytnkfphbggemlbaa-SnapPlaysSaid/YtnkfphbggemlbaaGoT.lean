/-
  A region that draws its order: quiet operations in front of a tail whose order is forced.
-/
import Derived.Test.YtnkfphbggemlbaaGoB
import Derived.StillTail
namespace Go.Proofs.Ytnkfphbggemlbaa
section
variable {P : Program} {ops : Array Oper} {md : Region.Mode} {C : World → Prop}

/-- The head's operations in whatever order, then L. -/
def headAny (P : Program) (md : Region.Mode) (ops : Array Oper) (C : World → Prop) (n : Nat) (L : Array Bool → Act → Prop) : Nat → Array Bool → Act → Prop
  | 0, s, a => L s a
  | f + 1, s, a => Region.ready md ops s ≠ [] ∧ ∀ i ∈ Region.ready md ops s, i < n ∧ qOp P ops C i (headAny P md ops C n L f (s.setIfInBounds i true)) a

theorem any_of_head {n g : Nat} {L : Array Bool → Act → Prop} {Q : Exit → Act → World → Prop} (hL : ∀ s a w, C w → L s a → wpAny P md ops Q g s a w) :
    ∀ (f : Nat) (s : Array Bool) (a : Act) (w : World), C w → headAny P md ops C n L f s a → wpAny P md ops Q (f + g) s a w := by
  intro f
  induction f with
  | zero => intro s a w hw h; simpa using hL s a w hw h
  | succ f ih =>
    intro s a w hw h
    have e : f + 1 + g = (f + g) + 1 := by omega
    rw [e]
    constructor
    · intro h0; exact absurd h0 h.1
    · intro i hi
      exact wpOp_of_qOp hw (fun a' w' hw' h' => ih _ a' w' hw' h') (h.2 i hi).2

theorem head_take {n i : Nat} {oi : Oper} {v : Value} {L : Array Bool → Act → Prop} (hi : ops[i]? = some oi) (hsel : ∀ (j : Nat) (o : Oper) cs b, ops[j]? = some o → o.op ≠ .select cs b)
    (hs : Region.sinkB md ops n = true) (hc : Region.chainB md ops n = true) (hn : n < ops.size) (hin : i < n) (hdone : ∀ s a, L s a → ∀ j ∈ Region.ready md ops s, n ≤ j) :
    ∀ (f : Nat) (s : Array Bool) (a : Act), HeadInv md ops n s →
      (∀ j oj, ops[j]? = some oj → j ≠ i → s.getD j true = false → (∀ e ∈ oj.after, Region.binds md e = true → e.on ≠ i) → oi.apart ops oj = true) →
      i ∈ Region.ready md ops s → YieldsIn P ops C oi v a →
      headAny P md ops C n L f (s.setIfInBounds i true) (a.put oi.dst v) → headAny P md ops C n L (f + 1) s a := by
  intro f
  induction f with
  | zero =>
    intro s a inv _ hr hy H
    have hun := (mem_ready.1 hr).1
    have small : ∀ j ∈ Region.ready md ops s, j < n := fun j hj => (Nat.lt_or_ge j n).resolve_right fun h => absurd hj (tail_waits hs hc hn inv _ i rfl hin hun j h)
    constructor
    · intro h0; rw [h0] at hr; cases hr
    · intro j hj
      refine ⟨small j hj, ?_⟩
      by_cases e : j = i
      · subst e; exact YieldsIn.qOp hi hy H
      · have := hdone _ _ H j (ready_mono hj e)
        have := small j hj
        omega
  | succ f ih =>
    intro s a inv free hr hy H
    have hun := (mem_ready.1 hr).1
    have small : ∀ j ∈ Region.ready md ops s, j < n := fun j hj => (Nat.lt_or_ge j n).resolve_right fun h => absurd hj (tail_waits hs hc hn inv _ i rfl hin hun j h)
    constructor
    · intro h0; rw [h0] at hr; cases hr
    · intro j hj
      refine ⟨small j hj, ?_⟩
      by_cases e : j = i
      · subst e; exact YieldsIn.qOp hi hy H
      · obtain ⟨hjun, oj, hoj, hall⟩ := mem_ready.1 hj
        have apart : oi.apart ops oj = true := free j oj hoj e hjun fun x hx hb he => by
          have := hall x hx hb
          rw [he, getD_both hun] at this
          cases this
        have next := qOp_put hoj apart (fun cs b => hsel i oi cs b hi) (fun cs b => hsel j oj cs b hoj) hy (H.2 j (ready_mono hj e)).2
        refine qOp_mono (fun a' h3 => ?_) next
        refine ih (s.setIfInBounds j true) a' (inv.set hj (small j hj)) (fun k ok hk hki hku hno => free k ok hk hki ?_ hno) (ready_mono hr (Ne.symm e)) h3.1 ?_
        · by_cases q : j = k
          · subst q; exact hjun
          · rwa [getD_set_ne true q] at hku
        · rw [Array.setIfInBounds_comm _ _ e]
          exact h3.2

theorem head_lex {n g : Nat} {Lq : Act → Prop} (hsel : Region.noSelect ops = true) (hs : Region.sinkB md ops n = true) (hc : Region.chainB md ops n = true) (hn : n < ops.size) :
    ∀ (l : List Oper) (k : Nat) (s : Array Bool) (a : Act), (∀ j, j < l.length → l[j]? = ops[k + j]?) → k + l.length = n → HeadInv md ops n s →
    Region.lexHead md ops g l.length k s = true → wpQuiet P ops C Lq l a →
    headAny P md ops C n (fun s' a' => Region.seqB md ops g n s' = true ∧ Lq a') l.length s a := by
  intro l
  induction l with
  | nil =>
    intro k s a _ hk _ hB h
    obtain rfl : k = n := by simpa using hk
    exact ⟨by simpa [Region.lexHead] using hB, h⟩
  | cons o l ih =>
    intro k s a hl hk inv hB h
    have h0 : ops[k]? = some o := by simpa using (hl 0 (by simp)).symm
    simp only [List.length_cons] at hk
    simp only [List.length_cons, Region.lexHead, Bool.and_eq_true] at hB
    have ready : k ∈ Region.ready md ops s := by simpa using hB.1.1
    have first : qOp P ops C k (wpQuiet P ops C Lq l) a := by unfold qOp; simp only [h0]; exact h
    obtain ⟨v, hy, hK⟩ := yieldsIn_of_qOp h0 first
    refine head_take h0 (Region.noSelect_spec hsel) hs hc hn (by omega) (fun s' a' hL => seqB_ready hL.1) l.length s a inv (Region.free_spec h0 hB.1.2) ready hy ?_
    exact ih (k + 1) _ _ (fun j hj => by have := hl (j + 1) (by simp; omega); simpa [Nat.add_assoc, Nat.add_comm 1 j] using this) (by omega) (inv.set ready (by omega)) hB.2 hK

/-- One walk of the head in the order of the text, then the tail. -/
theorem wp_region_tail {id : Nat} {Q : Exit → Act → World → Prop} {a : Act} {w : World} {l : List Oper} (n : Nat) (hm : P.follows .mixedOrders = true) (hB : Region.lexTailB .any l.toArray n = true)
    (hC : C { w with drawn := w.drawn + 1 }) (h : wpQuiet P l.toArray C (fun a' => ∀ w', C w' → wpList P l.toArray Q (l.drop n) a' w') (l.take n) a) : (Code.region id l.toArray true).wp P Q a w := by
  simp only [Region.lexTailB, Bool.and_eq_true, decide_eq_true_eq] at hB
  obtain ⟨⟨⟨⟨hsel, hn⟩, hs⟩, hc⟩, hlex⟩ := hB
  have hn' : n < l.length := by simpa using hn
  have htl : (l.take n).length = n := by simp; omega
  have hdl : (l.drop n).length = l.toArray.size - n := by simp
  have inv0 : HeadInv .any l.toArray n (Array.replicate l.toArray.size false) := by
    constructor
    · simp
    · intro j oj _ hl; rw [getD_replicate_false] at hl; cases hl
    · intro t _ ht; exact getD_in (by simpa using ht) (getD_replicate_false _ _)
  have H := head_lex (C := C) (md := .any) (g := l.toArray.size - n) hsel hs hc hn (l.take n) 0 _ a (fun j hj => by
    have hj' : j < n := by omega
    simp [hj']) (by omega) inv0 (by rw [htl]; exact hlex) h
  rw [htl] at H
  refine wp_region_any hm ?_
  have key := any_of_head (C := C) (Q := Q) (g := l.toArray.size - n) (fun s a' w' hw' hL => by
    have := wpAny_of_seq (P := P) (md := .any) (ops := l.toArray) (Q' := Q) (l.drop n) n s a' w' (fun j => by simp) (by rw [hdl]; exact hL.1) (hL.2 w' hw')
    rwa [hdl] at this) n _ a { w with drawn := w.drawn + 1 } hC H
  rwa [show n + (l.toArray.size - n) = l.toArray.size by omega] at key
end
/-- Quiet operations, then a tail. -/
theorem Cd.tail {P : Program} {n : Nat} {w0 : World} {Q : Exit → Act → World → Prop} {e : List (Nat × Value)} {F : Frz} {L : List Item} {id : Nat} {l : List Oper} (m : Nat) (hm : P.follows .mixedOrders = true) (hB : Region.lexTailB .any l.toArray m = true)
    (h : Qt P n w0 l.toArray (fun a => ∀ w, St w0 F L w → wpList P l.toArray Q (l.drop m) a w) (l.take m) e F L) : Cd P n w0 Q (.region id l.toArray true) e F L :=
  fun a _ ha hw => wp_region_tail (C := St w0 F L) m hm hB hw.drew (h a ha)
theorem Qt.tail {P : Program} {n : Nat} {w0 : World} {Q : Exit → Act → World → Prop} {ops : Array Oper} {e : List (Nat × Value)} {F : Frz} {L : List Item} {l : List Oper} (h : Lst P n w0 ops Q l e F L) :
    Qt P n w0 ops (fun a => ∀ w, St w0 F L w → wpList P ops Q l a w) [] e F L := fun a ha w hw => h a w ha hw
end Go.Proofs.Ytnkfphbggemlbaa
