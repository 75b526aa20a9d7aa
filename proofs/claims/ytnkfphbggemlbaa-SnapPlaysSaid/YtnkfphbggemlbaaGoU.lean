/-
  A region that draws its order, with operations that act in its head: whatever order comes up.
-/
import Derived.Test.YtnkfphbggemlbaaGoT
namespace Go.Proofs.Ytnkfphbggemlbaa

def Nx (K : Act → World → Prop) : Exit → Act → World → Prop
  | .normal, a, w => K a w
  | _, _, _ => False

section
variable {P : Program} {ops : Array Oper} {n : Nat} {C C' : World → Prop} {Lq : Array Bool → Act → World → Prop}

/-- The head's operations in whatever order, all worlds in between of the class C; then Lq. -/
def Hd (P : Program) (ops : Array Oper) (n : Nat) (Lq : Array Bool → Act → World → Prop) (C : World → Prop) : Nat → Array Bool → Act → World → Prop
  | 0, s, a, w => Lq s a w
  | f + 1, s, a, w => Region.ready .any ops s ≠ [] ∧ ∀ i ∈ Region.ready .any ops s, i < n ∧ wpOp P ops (Nx fun a' w' => C w' ∧ Hd P ops n Lq C f (s.setIfInBounds i true) a' w') i (fun a' w' => C w' ∧ Hd P ops n Lq C f (s.setIfInBounds i true) a' w') a w

theorem wpOp_mono2 {Q : Exit → Act → World → Prop} {K0 K K' : Act → World → Prop} {i : Nat} {a : Act} {w : World} (hk : ∀ a w, K a w → K' a w) (h : wpOp P ops (Nx K0) i K a w) : wpOp P ops Q i K' a w := by
  have hlet : LetsOut (Nx K0) → False := fun ⟨a', w', q⟩ => q
  unfold wpOp at h ⊢
  split
  · rename_i ho; simp only [ho] at h; exact hk _ _ h
  · rename_i o ho
    simp only [ho] at h
    split
    · rename_i hw
      simp only [hw, if_true] at h
      rcases h with h | ⟨h1, h2⟩
      · left
        unfold Oper.wp at h ⊢
        generalize (execOp a.eval o).run P w = r at h ⊢
        cases r with
        | ok nx w' =>
          cases nx <;> simp only [Oper.upon] at h ⊢ <;> first
            | exact hk _ _ h
            | exact h.elim
            | (refine h.mono ?_; intro e w'' he; cases e <;> first | exact hk _ _ he | exact he.elim | exact (hlet he).elim)
            | (exact Rows.mono h fun v w'' he => hk _ _ he)
        | halt x w' => cases x <;> exact h.elim
      · exact (hlet h2).elim
    · rename_i hw
      simp only [hw] at h
      exact hk _ _ h
theorem Hd.mono (hC : ∀ w, C w → C' w) : ∀ (f : Nat) (s : Array Bool) (a : Act) (w : World), Hd P ops n Lq C f s a w → Hd P ops n Lq C' f s a w := by
  intro f
  induction f with
  | zero => intro s a w h; exact h
  | succ f ih =>
    intro s a w h
    refine ⟨h.1, fun i hi => ⟨(h.2 i hi).1, ?_⟩⟩
    have hk : ∀ a' w', (C w' ∧ Hd P ops n Lq C f (s.setIfInBounds i true) a' w') → (C' w' ∧ Hd P ops n Lq C' f (s.setIfInBounds i true) a' w') := fun a' w' h' => ⟨hC _ h'.1, ih _ _ _ h'.2⟩
    exact wpOp_mono2 hk (h.2 i hi).2
theorem any_of_hd {g : Nat} {Q : Exit → Act → World → Prop} (hL : ∀ s a w, Lq s a w → wpAny P .any ops Q g s a w) :
    ∀ (f : Nat) (s : Array Bool) (a : Act) (w : World), Hd P ops n Lq C f s a w → wpAny P .any ops Q (f + g) s a w := by
  intro f
  induction f with
  | zero => intro s a w h; simpa using hL s a w h
  | succ f ih =>
    intro s a w h
    have e : f + 1 + g = (f + g) + 1 := by omega
    rw [e]
    constructor
    · intro h0; exact absurd h0 h.1
    · intro i hi
      exact wpOp_mono2 (fun a' w' h' => ih _ a' w' h'.2) (h.2 i hi).2

/-- In this state the operation leaves v, in every world of the class, and the world as it is. -/
def YieldsC (P : Program) (ops : Array Oper) (C : World → Prop) (o : Oper) (v : Value) (a : Act) : Prop :=
  (Region.wanted o (yielded ops a.tmps) = true ∧ ∀ w, C w → (execOp a.eval o).run P w = .ok (.value v) w) ∨ (Region.wanted o (yielded ops a.tmps) = false ∧ v = undef)
theorem YieldsC.wpOp {Q : Exit → Act → World → Prop} {i : Nat} {o : Oper} {v : Value} {a : Act} (hi : ops[i]? = some o) (hy : YieldsC P ops C o v a) {K : Act → World → Prop} {w : World} (hw : C w) (h : K (a.put o.dst v) w) : wpOp P ops Q i K a w := by
  unfold Go.wpOp
  simp only [hi]
  rcases hy with ⟨h1, hv⟩ | ⟨h1, rfl⟩
  · simp only [h1, if_true, Oper.wp, hv w hw, Oper.upon]; exact .inl h
  · simp only [h1, Bool.false_eq_true, if_false]; exact h
theorem YieldsC.of_same {o : Oper} {v : Value} {a a' : Act} (hy : YieldsC P ops C o v a) (he : execOp a'.eval o = execOp a.eval o)
    (hw : Region.wanted o (yielded ops a'.tmps) = Region.wanted o (yielded ops a.tmps)) : YieldsC P ops C o v a' := by
  unfold YieldsC at *
  rw [he, hw]
  exact hy
theorem wpOp_putC {j : Nat} {oi oj : Oper} {v : Value} (hj : ops[j]? = some oj) (hap : oi.apart ops oj = true)
    (hsi : ∀ cs b, oi.op ≠ .select cs b) (hsj : ∀ cs b, oj.op ≠ .select cs b) {K0 K : Act → World → Prop} {K1 : Act → World → Prop} {a : Act} {w : World}
    (hy : YieldsC P ops C oi v a) (h : wpOp P ops (Nx K0) j K (a.put oi.dst v) w) :
    wpOp P ops (Nx K1) j (fun a' w' => YieldsC P ops C oi v a' ∧ K (a'.put oi.dst v) w') a w := by
  obtain ⟨h1, h2, h3⟩ := Oper.apart_spec hap
  have keep : ∀ (a : Act), YieldsC P ops C oi v a → ∀ u, YieldsC P ops C oi v (a.put oj.dst u) := fun a hy u =>
    hy.of_same (execOp_put oi hsi a oj.dst u h3) (wanted_put oi a oj.dst u h3)
  have keepD : ∀ d, YieldsC P ops C oi v { a with defers := d :: a.defers } := fun d => hy.of_same rfl rfl
  have hlet : LetsOut (Nx K0) → False := fun ⟨a', w', q⟩ => q
  unfold wpOp at *
  simp only [hj] at *
  rw [wanted_put oj a oi.dst v h1] at h
  split
  · rename_i hw
    simp only [hw, if_true] at h
    rcases h with h | ⟨hasks, hlets⟩
    case inr => exact (hlet hlets).elim
    refine .inl ?_
    unfold Oper.wp at *
    rw [execOp_put oj hsj a oi.dst v h1] at h
    generalize (execOp a.eval oj).run P w = r at *
    cases r with
    | ok n w' =>
      cases n <;> simp only [Oper.upon] at h ⊢
      case value u => exact ⟨keep a hy u, by rw [← Act.put_comm a v u h2]; exact h⟩
      case skip => exact ⟨keep a hy _, by rw [← Act.put_comm a v undef h2]; exact h⟩
      case defer d =>
        refine ⟨keep _ (keepD d) _, ?_⟩
        rw [← Act.put_comm _ v undef h2, ← Act.put_defers]
        exact h
      case enter f args =>
        refine Calls.mono h fun e w'' he => ?_
        cases e with
        | returned u => exact ⟨keep a hy u, by rw [← Act.put_comm a v u h2]; exact he⟩
        | panicked c => exact he.elim
        | outgrown => exact (hlet he).elim
      case row row args => exact Rows.mono h fun u w'' he => ⟨keep a hy u, by rw [← Act.put_comm a v u h2]; exact he⟩
      all_goals exact h.elim
    | halt x w' => cases x <;> exact h.elim
  · rename_i hw
    simp only [hw] at h
    exact ⟨keep a hy _, by rw [← Act.put_comm a v undef h2]; exact h⟩
/-- What keeps the tail behind the head. -/
def Region.behind (ops : Array Oper) (n : Nat) : Prop := ∀ s : Array Bool, HeadInv .any ops n s → ∀ i, i < n → s.getD i true = false → ∀ j ∈ Region.ready .any ops s, j < n
theorem behind_sink (hs : Region.sinkB .any ops n = true) (hc : Region.chainB .any ops n = true) (hn : decide (n < ops.size) = true) : Region.behind ops n := fun _ inv i hin hun j hj =>
  (Nat.lt_or_ge j n).resolve_right fun h => absurd hj (tail_waits hs hc (by simpa using hn) inv _ i rfl hin hun j h)
/-- A quiet operation that may come up may be taken first. -/
theorem Hd.take {i : Nat} {oi : Oper} {v : Value} (hi : ops[i]? = some oi) (hsel : ∀ (j : Nat) (o : Oper) cs b, ops[j]? = some o → o.op ≠ .select cs b) (hlt : Region.behind ops n) (hin : i < n) (hdone : ∀ s a w, Lq s a w → ∀ j ∈ Region.ready .any ops s, n ≤ j) :
    ∀ (f : Nat) (s : Array Bool) (a : Act) (w : World), HeadInv .any ops n s →
      (∀ j oj, ops[j]? = some oj → j ≠ i → s.getD j true = false → (∀ e ∈ oj.after, Region.binds .any e = true → e.on ≠ i) → oi.apart ops oj = true) →
      i ∈ Region.ready .any ops s → C w → YieldsC P ops C oi v a →
      Hd P ops n Lq C f (s.setIfInBounds i true) (a.put oi.dst v) w → Hd P ops n Lq C (f + 1) s a w := by
  intro f
  induction f with
  | zero =>
    intro s a w inv _ hr hw hy H
    have hun := (mem_ready.1 hr).1
    have small := hlt s inv i hin hun
    constructor
    · intro h0; rw [h0] at hr; cases hr
    · intro j hj
      refine ⟨small j hj, ?_⟩
      by_cases e : j = i
      · subst e; exact hy.wpOp hi hw ⟨hw, H⟩
      · have := hdone _ _ _ H j (ready_mono hj e)
        have := small j hj
        omega
  | succ f ih =>
    intro s a w inv free hr hw hy H
    have hun := (mem_ready.1 hr).1
    have small := hlt s inv i hin hun
    constructor
    · intro h0; rw [h0] at hr; cases hr
    · intro j hj
      refine ⟨small j hj, ?_⟩
      by_cases e : j = i
      · subst e; exact hy.wpOp hi hw ⟨hw, H⟩
      · obtain ⟨hjun, oj, hoj, hall⟩ := mem_ready.1 hj
        have apart : oi.apart ops oj = true := free j oj hoj e hjun fun x hx hb he => by
          have := hall x hx hb
          rw [he, getD_both hun] at this
          cases this
        have next := wpOp_putC (K1 := fun a' w' => C w' ∧ Hd P ops n Lq C (f + 1) (s.setIfInBounds j true) a' w') hoj apart (fun cs b => hsel i oi cs b hi) (fun cs b => hsel j oj cs b hoj) hy (H.2 j (ready_mono hj e)).2
        refine wpOp_mono2 (fun a' w' h3 => ?_) next
        refine ⟨h3.2.1, ih (s.setIfInBounds j true) a' w' (inv.set hj (small j hj)) (fun k ok hk hki hku hno => free k ok hk hki ?_ hno) (ready_mono hr (Ne.symm e)) h3.2.1 h3.1 ?_⟩
        · by_cases q : j = k
          · subst q; exact hjun
          · rwa [getD_set_ne true q] at hku
        · rw [Array.setIfInBounds_comm _ _ e]
          exact h3.2.2
end

section
variable {P : Program} {n : Nat} {w0 : World} {l : List Oper} {m : Nat} {T : Act → World → Prop} {C : World → Prop} {e : List (Nat × Value)} {F : Frz} {L : List Item} {Q : Exit → Act → World → Prop}
/-- The head from here on: s: what has come up; f: how many are left; T: what holds behind the head. -/
def HdJ (P : Program) (n : Nat) (w0 : World) (l : List Oper) (m : Nat) (T : Act → World → Prop) (C : World → Prop) (f : Nat) (s : Array Bool) (e : List (Nat × Value)) (F : Frz) (L : List Item) : Prop :=
  HeadInv .any l.toArray m s → ∀ a w, EnvOk n a e → St w0 F L w → Hd P l.toArray m (fun s a w => (Region.seqB .any l.toArray (l.length - m) m s = true) ∧ T a w) C f s a w
theorem HdJ.done {s : Array Bool} (hs : Region.seqB .any l.toArray (l.length - m) m s = true) (h : At n w0 (Nx T) .normal e F L) : HdJ P n w0 l m T C 0 s e F L := fun _ a w ha hw => ⟨hs, h a w ha hw⟩
/-- A quiet operation. -/
theorem HdJ.take {f i d : Nat} {s : Array Bool} {o : Oper} {v : Value} {Lp : List Item} {Fp : Frz} (ho : l[i]? = some o) (hd : o.dst = some d) (hn : d < n) (hsel : Region.noSelect l.toArray = true) (hlt : Region.behind l.toArray m) (hin : i < m)
    (hr : (Region.ready .any l.toArray s).contains i = true) (hf : Region.free .any l.toArray s i = true) (hC : ∀ w, St w0 F L w → C w) (hg : o.guard = none) (hCp : ∀ w, C w → St w0 Fp Lp w) (hy : Ev P n w0 e Fp Lp o v)
    (k : HdJ P n w0 l m T C f (s.setIfInBounds i true) ((d, v) :: e) F L) : HdJ P n w0 l m T C (f + 1) s e F L := by
  intro inv a w ha hw
  have ho' : l.toArray[i]? = some o := by simpa using ho
  have hr' : i ∈ Region.ready .any l.toArray s := by simpa using hr
  refine Hd.take (v := v) ho' (Region.noSelect_spec hsel) hlt hin (fun s' a' w' hL => seqB_ready hL.1) f s a w inv (Region.free_spec ho' hf) hr' (hC w hw) ?_ ?_
  · exact .inl ⟨by simp [Region.wanted, hg], fun w' hw' => hy a w' ha (hCp w' hw')⟩
  · rw [hd]
    exact k (inv.set hr' hin) (a.put (some d) v) w (ha.put hn v) hw
theorem HdJ.takeG {f i d : Nat} {s : Array Bool} {o : Oper} {v : Value} {Lp : List Item} {Fp : Frz} {j t : Nat} {want b : Bool} (ho : l[i]? = some o) (hd : o.dst = some d) (hn : d < n) (hsel : Region.noSelect l.toArray = true) (hlt : Region.behind l.toArray m) (hin : i < m)
    (hr : (Region.ready .any l.toArray s).contains i = true) (hf : Region.free .any l.toArray s i = true) (hC : ∀ w, St w0 F L w → C w) (hg : o.guard = some (j, want)) (hj : (l.toArray[j]?).bind (·.dst) = some t) (ht : look e t = some (.bool b)) (hb : b = want) (hCp : ∀ w, C w → St w0 Fp Lp w) (hy : Ev P n w0 e Fp Lp o v)
    (k : HdJ P n w0 l m T C f (s.setIfInBounds i true) ((d, v) :: e) F L) : HdJ P n w0 l m T C (f + 1) s e F L := by
  intro inv a w ha hw
  have ho' : l.toArray[i]? = some o := by simpa using ho
  have hr' : i ∈ Region.ready .any l.toArray s := by simpa using hr
  refine Hd.take (v := v) ho' (Region.noSelect_spec hsel) hlt hin (fun s' a' w' hL => seqB_ready hL.1) f s a w inv (Region.free_spec ho' hf) hr' (hC w hw) ?_ ?_
  · exact .inl ⟨by rw [wanted_of ha hg hj ht, hb]; simp, fun w' hw' => hy a w' ha (hCp w' hw')⟩
  · rw [hd]
    exact k (inv.set hr' hin) (a.put (some d) v) w (ha.put hn v) hw
theorem HdJ.takeS {f i d : Nat} {s : Array Bool} {o : Oper} {j t : Nat} {want b : Bool} (ho : l[i]? = some o) (hd : o.dst = some d) (hn : d < n) (hsel : Region.noSelect l.toArray = true) (hlt : Region.behind l.toArray m) (hin : i < m)
    (hr : (Region.ready .any l.toArray s).contains i = true) (hf : Region.free .any l.toArray s i = true) (hC : ∀ w, St w0 F L w → C w) (hg : o.guard = some (j, want)) (hj : (l.toArray[j]?).bind (·.dst) = some t) (ht : look e t = some (.bool b)) (hb : b = !want)
    (k : HdJ P n w0 l m T C f (s.setIfInBounds i true) ((d, undef) :: e) F L) : HdJ P n w0 l m T C (f + 1) s e F L := by
  intro inv a w ha hw
  have ho' : l.toArray[i]? = some o := by simpa using ho
  have hr' : i ∈ Region.ready .any l.toArray s := by simpa using hr
  refine Hd.take (v := undef) ho' (Region.noSelect_spec hsel) hlt hin (fun s' a' w' hL => seqB_ready hL.1) f s a w inv (Region.free_spec ho' hf) hr' (hC w hw) ?_ ?_
  · exact .inr ⟨by rw [wanted_of ha hg hj ht, hb]; cases want <;> simp, rfl⟩
  · rw [hd]
    exact k (inv.set hr' hin) (a.put (some d) undef) w (ha.put hn undef) hw
/-- The same, what is kept being said by the class itself. -/
theorem HdJ.takeK {f d : Nat} {s : Array Bool} {o : Oper} {v : Value} {Lp : List Item} {Fp : Frz} (hsel : Region.noSelect l.toArray = true) (hlt : Region.behind l.toArray m) (i : Nat) (hC : ∀ w, St w0 F L w → St w0 Fp Lp w) (ho : l[i]? = some o) (hd : o.dst = some d) (hn : d < n) (hin : i < m)
    (hr : (Region.ready .any l.toArray s).contains i = true) (hf : Region.free .any l.toArray s i = true) (hg : o.guard = none) (hy : Ev P n w0 e Fp Lp o v)
    (k : HdJ P n w0 l m T (fun w => St w0 Fp Lp w) f (s.setIfInBounds i true) ((d, v) :: e) F L) : HdJ P n w0 l m T (fun w => St w0 Fp Lp w) (f + 1) s e F L :=
  HdJ.take ho hd hn hsel hlt hin hr hf hC hg (fun _ h => h) hy k
/-- The operations that may come up, one after another. -/
def HdStep (P : Program) (n : Nat) (w0 : World) (l : List Oper) (m : Nat) (T : Act → World → Prop) (C : World → Prop) (f : Nat) (s : Array Bool) (e : List (Nat × Value)) (F : Frz) (L : List Item) : List Nat → Prop
  | [] => True
  | i :: is => (i < m ∧ ∃ o, l[i]? = some o ∧ (HeadInv .any l.toArray m (s.setIfInBounds i true) → Lst P n w0 l.toArray (Nx fun a' w' => C w' ∧ Hd P l.toArray m (fun s a w => (Region.seqB .any l.toArray (l.length - m) m s = true) ∧ T a w) C f (s.setIfInBounds i true) a' w') [o] e F L)) ∧ HdStep P n w0 l m T C f s e F L is
theorem HdStep.get {f : Nat} {s : Array Bool} : ∀ {is : List Nat}, HdStep P n w0 l m T C f s e F L is → ∀ i ∈ is, i < m ∧ ∃ o, l[i]? = some o ∧ (HeadInv .any l.toArray m (s.setIfInBounds i true) → Lst P n w0 l.toArray (Nx fun a' w' => C w' ∧ Hd P l.toArray m (fun s a w => (Region.seqB .any l.toArray (l.length - m) m s = true) ∧ T a w) C f (s.setIfInBounds i true) a' w') [o] e F L)
  | [], _, i, hi => by cases hi
  | _ :: _, h, i, hi => by
    rcases List.mem_cons.1 hi with rfl | hi
    · exact h.1
    · exact HdStep.get h.2 i hi
theorem HdStep.cons {f i : Nat} {s : Array Bool} {is : List Nat} {o : Oper} (hi : i < m) (ho : l[i]? = some o)
    (h : HeadInv .any l.toArray m (s.setIfInBounds i true) → Lst P n w0 l.toArray (Nx fun a' w' => C w' ∧ Hd P l.toArray m (fun s a w => (Region.seqB .any l.toArray (l.length - m) m s = true) ∧ T a w) C f (s.setIfInBounds i true) a' w') [o] e F L)
    (k : HdStep P n w0 l m T C f s e F L is) : HdStep P n w0 l m T C f s e F L (i :: is) := ⟨⟨hi, o, ho, h⟩, k⟩
theorem HdStep.c {f i : Nat} {s : Array Bool} {is : List Nat} {o : Oper}
    (h : HeadInv .any l.toArray m (s.setIfInBounds i true) → Lst P n w0 l.toArray (Nx fun a' w' => C w' ∧ Hd P l.toArray m (fun s a w => (Region.seqB .any l.toArray (l.length - m) m s = true) ∧ T a w) C f (s.setIfInBounds i true) a' w') [o] e F L)
    (k : HdStep P n w0 l m T C f s e F L is) (hi : i < m := by decide) (ho : l[i]? = some o := by exact rfl) : HdStep P n w0 l m T C f s e F L (i :: is) := HdStep.cons hi ho h k
theorem HdJ.step {f : Nat} {s : Array Bool} (is : List Nat) (hr : Region.ready .any l.toArray s = is) (h0 : is.isEmpty = false) (h : HdStep P n w0 l m T C f s e F L is) : HdJ P n w0 l m T C (f + 1) s e F L := by
  intro inv a w ha hw
  have hne : is ≠ [] := by intro e; rw [e] at h0; cases h0
  refine ⟨by rw [hr]; exact hne, fun i hi => ?_⟩
  have hi0 := hi
  rw [hr] at hi
  obtain ⟨h1, o, ho, h2⟩ := h.get i hi
  refine ⟨h1, ?_⟩
  have h3 := h2 (inv.set hi0 h1) a w ha hw
  have ho' : l.toArray[i]? = some o := by simpa using ho
  unfold wpOp
  simp only [ho']
  unfold wpList at h3
  split
  · rename_i hwd
    rw [if_pos hwd] at h3
    exact h3
  · rename_i hwd
    rw [if_neg hwd] at h3
    exact h3
/-- After an operation. -/
theorem At.hd {f : Nat} {s : Array Bool} (inv : HeadInv .any l.toArray m s) (hC : ∀ w, St w0 F L w → C w) (k : HdJ P n w0 l m T C f s e F L) :
    At n w0 (Nx fun a' w' => C w' ∧ Hd P l.toArray m (fun s a w => (Region.seqB .any l.toArray (l.length - m) m s = true) ∧ T a w) C f s a' w') .normal e F L := fun a w ha hw => ⟨hC w hw, k inv a w ha hw⟩
theorem hds {ops : Array Oper} {f : Nat} {s : Array Bool} {Lp : List Item} (inv : HeadInv .any l.toArray m s) (hs : Lp.Sublist L) (k : HdJ P n w0 l m T (fun w => St w0 F (Lp) w) f s e F L) :
    Lst P n w0 ops (Nx fun a' w' => (fun w => St w0 F (Lp) w) w' ∧ Hd P l.toArray m (fun s a w => (Region.seqB .any l.toArray (l.length - m) m s = true) ∧ T a w) (fun w => St w0 F (Lp) w) f s a' w') [] e F L := Lst.nil (At.hd inv (fun w h => h.sublist hs) k)
theorem HdJ.ts {f d : Nat} {s : Array Bool} {o : Oper} {v : Value} {Lp : List Item} (hsel : Region.noSelect l.toArray = true) (hlt : Region.behind l.toArray m) (i : Nat) (hs : Lp.Sublist L) (ho : l[i]? = some o) (hy : Ev P n w0 e F Lp o v)
    (k : HdJ P n w0 l m T (fun w => St w0 F Lp w) f (s.setIfInBounds i true) ((d, v) :: e) F L) (hd : o.dst = some d := by exact rfl) (hn : d < n := by decide) (hin : i < m := by decide)
    (hr : (Region.ready .any l.toArray s).contains i = true := by kernel_rfl) (hf : Region.free .any l.toArray s i = true := by kernel_rfl) (hg : o.guard = none := by exact rfl) : HdJ P n w0 l m T (fun w => St w0 F Lp w) (f + 1) s e F L :=
  HdJ.takeK hsel hlt i (fun w h => h.sublist hs) ho hd hn hin hr hf hg hy k
theorem hts {f d : Nat} {s : Array Bool} {o : Oper} {v : Value} {Lp : List Item} (hd : o.dst = some d) (hsel : Region.noSelect l.toArray = true) (hlt : Region.behind l.toArray m) (i : Nat) (hs : Lp.Sublist L) (ho : l[i]? = some o) (hy : Ev P n w0 e F Lp o v)
    (k : HdJ P n w0 l m T (fun w => St w0 F Lp w) f (s.setIfInBounds i true) ((d, v) :: e) F L) (hn : d < n := by decide) (hin : i < m := by decide)
    (hr : (Region.ready .any l.toArray s).contains i = true := by kernel_rfl) (hf : Region.free .any l.toArray s i = true := by kernel_rfl) (hg : o.guard = none := by exact rfl) : HdJ P n w0 l m T (fun w => St w0 F Lp w) (f + 1) s e F L :=
  HdJ.takeK hsel hlt i (fun w h => h.sublist hs) ho hd hn hin hr hf hg hy k
theorem HdJ.o1 {f : Nat} {s : Array Bool} {o : Oper} (i : Nat) (h : HeadInv .any l.toArray m (s.setIfInBounds i true) → Lst P n w0 l.toArray (Nx fun a' w' => C w' ∧ Hd P l.toArray m (fun s a w => (Region.seqB .any l.toArray (l.length - m) m s = true) ∧ T a w) C f (s.setIfInBounds i true) a' w') [o] e F L)
    (hr : Region.ready .any l.toArray s = [i] := by kernel_rfl) (hi : i < m := by decide) (ho : l[i]? = some o := by exact rfl) : HdJ P n w0 l m T C (f + 1) s e F L := HdJ.step [i] hr rfl (HdStep.c h trivial hi ho)
/-- More is kept from here on. -/
theorem HdJ.keep {f : Nat} {s : Array Bool} (C' : World → Prop) (hC : ∀ w, C' w → C w) (k : HdJ P n w0 l m T C' f s e F L) : HdJ P n w0 l m T C f s e F L := fun inv a w ha hw => Hd.mono hC _ _ _ _ (k inv a w ha hw)
theorem HdJ.as {f : Nat} {s : Array Bool} {e' : List (Nat × Value)} {L' : List Item} (he : sub e e') (hL : L = L') (k : HdJ P n w0 l m T C f s e' F L') : HdJ P n w0 l m T C f s e F L := by
  subst hL; exact fun inv a w ha hw => k inv a w (ha.sub he) hw
/-- A region with a head and a tail. -/
theorem Cd.head {id : Nat} (m : Nat) (T : Act → World → Prop) (hm : P.follows .mixedOrders = true) (hlt : m ≤ l.length) (h : HdJ P n w0 l m T (fun _ => True) m (Array.replicate l.length false) e F L)
    (k : ∀ a w, T a w → wpList P l.toArray Q (l.drop m) a w) : Cd P n w0 Q (.region id l.toArray true) e F L := by
  intro a w ha hw
  have inv0 : HeadInv .any l.toArray m (Array.replicate l.length false) := by
    constructor
    · simp
    · intro j oj _ hl; rw [getD_replicate_false] at hl; cases hl
    · intro t _ ht; exact getD_in (by simpa using ht) (getD_replicate_false _ _)
  have H := h inv0 a { w with drawn := w.drawn + 1 } ha hw.drew
  refine wp_region_any hm ?_
  have hdl : (l.drop m).length = l.length - m := by simp
  have key := any_of_hd (Q := Q) (g := l.length - m) (fun s a' w' hL => by
    have := wpAny_of_seq (P := P) (md := .any) (ops := l.toArray) (Q' := Q) (l.drop m) m s a' w' (fun j => by simp) (by rw [hdl]; exact hL.1) (k a' w' hL.2)
    rwa [hdl] at this) m _ a { w with drawn := w.drawn + 1 } H
  rw [show m + (l.length - m) = l.length by omega] at key
  simpa using key
theorem At.meetN {σ : Type} {F0 : Frz} {env : σ → List (Nat × Value)} {its : σ → List Item} {I : Frz → σ → Prop} (s : σ) (hF : FLe F0 F) (he : sub e (env s)) (hL : L = its s) (hI : I F s) :
    At n w0 (Nx (Meet n w0 F0 env its I)) .normal e F L := by
  subst hL
  exact fun a w ha hw => ⟨F, s, hF, ha.sub he, hw, hI⟩
/-- The ways through the head meet. -/
theorem Cd.headMeet {σ : Type} {id : Nat} (m : Nat) (env : σ → List (Nat × Value)) (its : σ → List Item) (I : Frz → σ → Prop) (hm : P.follows .mixedOrders = true) (hlt : decide (m ≤ l.length) = true) (hb : Region.behind l.toArray m) (hs : Region.noSelect l.toArray = true)
    (h : Region.noSelect l.toArray = true → Region.behind l.toArray m → HdJ P n w0 l m (Meet n w0 F env its I) (fun _ => True) m (Array.replicate l.length false) e F L)
    (k : ∀ F' s, FLe F F' → I F' s → Lst P n w0 l.toArray Q (l.drop m) (env s) F' (its s)) : Cd P n w0 Q (.region id l.toArray true) e F L :=
  Cd.head m _ hm (by simpa using hlt) (h hs hb) fun a w ⟨F', s, h1, h2, h3, h4⟩ => k F' s h1 h4 a w h2 h3
end
end Go.Proofs.Ytnkfphbggemlbaa
