/-
  The judgements and the rules of control.
-/
import Derived.Test.YtnkfphbggemlbaaGoA
namespace Go.Proofs.Ytnkfphbggemlbaa
open Go.RowKit

section
variable (P : Program) (n : Nat) (w0 : World)
def Lst (ops : Array Oper) (Q : Exit → Act → World → Prop) (l : List Oper) (e : List (Nat × Value)) (F : Frz) (L : List Item) : Prop :=
  ∀ a w, EnvOk n a e → St w0 F L w → wpList P ops Q l a w
def Cd (Q : Exit → Act → World → Prop) (c : Code) (e : List (Nat × Value)) (F : Frz) (L : List Item) : Prop :=
  ∀ a w, EnvOk n a e → St w0 F L w → c.wp P Q a w
def At (Q : Exit → Act → World → Prop) (x : Exit) (e : List (Nat × Value)) (F : Frz) (L : List Item) : Prop :=
  ∀ a w, EnvOk n a e → St w0 F L w → Q x a w
/-- A region that draws its order: its operations read, or call what gives one value. -/
def Qt (ops : Array Oper) (K : Act → Prop) (l : List Oper) (e : List (Nat × Value)) (F : Frz) (L : List Item) : Prop :=
  ∀ a, EnvOk n a e → wpQuiet P ops (St w0 F L) K l a
/-- An operation yields v. -/
def Ev (e : List (Nat × Value)) (F : Frz) (L : List Item) (o : Oper) (v : Value) : Prop :=
  ∀ a w, EnvOk n a e → St w0 F L w → (execOp a.eval o).run P w = .ok (.value v) w
end

theorem wp_loop_n {P : Program} {Q : Exit → Act → World → Prop} {a : Act} {w : World} {c : Code} (J : Nat → Act → World → Prop) (m : Nat) (h0 : J m a w)
    (round : ∀ m a w, J m a w → c.wp P (Exit.then (fun a' w' => ∃ m', m' < m ∧ J m' a' w') Q) a w) : (Code.loop c).wp P Q a w := by
  intro b k cs
  have key : ∀ m a w, J m a w → ∃ e a' w', Q e a' w' ∧ Arrives P (lone (b.at a (.code c :: .inLoop c :: k)) cs w) b k cs e a' w' := by
    intro m
    induction m using Nat.strongRecOn with
    | _ m ih =>
      intro a w hI
      obtain ⟨e, a₁, w₁, hq, harr⟩ := round m a w hI b (.inLoop c :: k) cs
      cases e with
      | normal =>
        obtain ⟨m', hlt, hI₁⟩ := hq
        obtain ⟨e₂, a₂, w₂, hq₂, harr₂⟩ := ih m' hlt a₁ w₁ hI₁
        exact ⟨e₂, a₂, w₂, hq₂, .of_steps (Steps.trans harr (.one step_inLoop)) harr₂⟩
      | exit id => exact ⟨_, a₁, w₁, hq, .pass (x := .inLoop c) rfl (fun _ _ => .inl (by simp)) harr⟩
      | goto l => exact ⟨_, a₁, w₁, hq, .pass (x := .inLoop c) rfl (fun _ _ => .inl (by simp)) harr⟩
      | ret => exact ⟨_, a₁, w₁, hq, .pass (x := .inLoop c) rfl (fun _ _ => .inl (by simp)) harr⟩
      | panic ch => exact ⟨_, a₁, w₁, hq, .pass (x := .inLoop c) rfl (fun _ _ => .inl (by simp)) harr⟩
      | outgrown => exact ⟨_, a₁, w₁, hq, .pass (x := .inLoop c) rfl (fun _ _ => .inl (by simp)) harr⟩
  obtain ⟨e, a', w', hq, harr⟩ := key m a w h0
  exact ⟨e, a', w', hq, .of_steps (.one step_loop) harr⟩

section
variable {P : Program} {n : Nat} {w0 : World} {ops : Array Oper} {Q : Exit → Act → World → Prop} {K : Act → Prop} {l : List Oper} {e : List (Nat × Value)} {F : Frz} {L : List Item} {o : Oper} {v : Value} {d : Nat}

theorem Lst.nil (h : At n w0 Q .normal e F L) : Lst P n w0 ops Q [] e F L := fun a w ha hw => h a w ha hw

theorem Lst.wp_plain (hg : o.guard = none) (h : ∀ a w, EnvOk n a e → St w0 F L w → o.wp P a w (wpList P ops Q l) Q) : Lst P n w0 ops Q (o :: l) e F L := by
  intro a w ha hw
  unfold wpList
  rw [if_pos (by simp [Region.wanted, hg])]
  exact .inl (h a w ha hw)

/-- An operation that yields a value. -/
theorem Lst.run (hg : o.guard = none) (hd : o.dst = some d) (hn : d < n) (h : Ev P n w0 e F L o v) (k : Lst P n w0 ops Q l ((d, v) :: e) F L) : Lst P n w0 ops Q (o :: l) e F L :=
  Lst.wp_plain hg fun a w ha hw => by
    unfold Oper.wp
    rw [h a w ha hw, Oper.upon_value, hd]
    exact k _ w (ha.put hn v) hw

theorem yielded_of {j : Nat} {t : Nat} {b : Bool} {a : Act} (ha : EnvOk n a e) (hj : (ops[j]?).bind (·.dst) = some t) (ht : look e t = some (.bool b)) : yielded ops a.tmps j = some b := by
  unfold yielded
  rw [hj, Option.bind_some, ha.get t _ ht]

theorem wanted_of {j : Nat} {want : Bool} {t : Nat} {b : Bool} {a : Act} (ha : EnvOk n a e) (hg : o.guard = some (j, want)) (hj : (ops[j]?).bind (·.dst) = some t) (ht : look e t = some (.bool b)) :
    Region.wanted o (yielded ops a.tmps) = (b == want) := by
  unfold Region.wanted
  simp only [hg]
  rw [yielded_of ha hj ht]
  cases b <;> cases want <;> rfl

/-- A guarded operation, wanted. -/
theorem Lst.runG {j : Nat} {want : Bool} {t : Nat} {b : Bool} (hg : o.guard = some (j, want)) (hj : (ops[j]?).bind (·.dst) = some t) (ht : look e t = some (.bool b)) (hb : b = want)
    (hd : o.dst = some d) (hn : d < n) (h : Ev P n w0 e F L o v) (k : Lst P n w0 ops Q l ((d, v) :: e) F L) : Lst P n w0 ops Q (o :: l) e F L := by
  intro a w ha hw
  unfold wpList
  rw [if_pos (by rw [wanted_of ha hg hj ht, hb]; simp)]
  refine .inl ?_
  unfold Oper.wp
  rw [h a w ha hw, Oper.upon_value, hd]
  exact k _ w (ha.put hn v) hw
/-- Not wanted. -/
theorem Lst.skip {j : Nat} {want : Bool} {t : Nat} {b : Bool} (hg : o.guard = some (j, want)) (hj : (ops[j]?).bind (·.dst) = some t) (ht : look e t = some (.bool b)) (hb : b = !want)
    (hd : o.dst = some d) (hn : d < n) (k : Lst P n w0 ops Q l ((d, undef) :: e) F L) : Lst P n w0 ops Q (o :: l) e F L := by
  intro a w ha hw
  unfold wpList
  rw [if_neg (by rw [wanted_of ha hg hj ht, hb]; cases want <;> simp), hd]
  exact k _ w (ha.put hn undef) hw

theorem wanted_not {j : Nat} {want : Bool} {t : Nat} {a : Act} (ha : EnvOk n a e) (hg : o.guard = some (j, want)) (hj : (ops[j]?).bind (·.dst) = some t) (ht : look e t = some undef) : Region.wanted o (yielded ops a.tmps) = false := by
  unfold Region.wanted
  simp only [hg]
  unfold yielded
  rw [hj, Option.bind_some, ha.get t _ ht]
  rfl
theorem Lst.skipU {j : Nat} {want : Bool} {t : Nat} (hg : o.guard = some (j, want)) (hj : (ops[j]?).bind (·.dst) = some t) (ht : look e t = some undef)
    (hd : o.dst = some d) (hn : d < n) (k : Lst P n w0 ops Q l ((d, undef) :: e) F L) : Lst P n w0 ops Q (o :: l) e F L := by
  intro a w ha hw
  unfold wpList
  rw [if_neg (by rw [wanted_not ha hg hj ht]; simp), hd]
  exact k _ w (ha.put hn undef) hw
theorem Qt.skipU {j : Nat} {want : Bool} {t : Nat} (hg : o.guard = some (j, want)) (hj : (ops[j]?).bind (·.dst) = some t) (ht : look e t = some undef)
    (hd : o.dst = some d) (hn : d < n) (k : Qt P n w0 ops K l ((d, undef) :: e) F L) : Qt P n w0 ops K (o :: l) e F L := by
  intro a ha
  unfold wpQuiet
  rw [if_neg (by rw [wanted_not ha hg hj ht]; simp), hd]
  exact k _ (ha.put hn undef)
/-- A quiet walk: at its end. -/
theorem Qt.nil (h : ∀ a, EnvOk n a e → K a) : Qt P n w0 ops K [] e F L := fun a ha => h a ha
theorem Qt.run (hg : o.guard = none) (hd : o.dst = some d) (hn : d < n) (h : Ev P n w0 e F L o v) (k : Qt P n w0 ops K l ((d, v) :: e) F L) : Qt P n w0 ops K (o :: l) e F L := by
  intro a ha
  unfold wpQuiet
  rw [if_pos (by simp [Region.wanted, hg])]
  refine ⟨v, fun w hw => ?_, by rw [hd]; exact k _ (ha.put hn v)⟩
  unfold Oper.quietAt
  rw [h a w ha hw]
  exact ⟨rfl, rfl⟩
theorem Qt.runG {j : Nat} {want : Bool} {t : Nat} {b : Bool} (hg : o.guard = some (j, want)) (hj : (ops[j]?).bind (·.dst) = some t) (ht : look e t = some (.bool b)) (hb : b = want)
    (hd : o.dst = some d) (hn : d < n) (h : Ev P n w0 e F L o v) (k : Qt P n w0 ops K l ((d, v) :: e) F L) : Qt P n w0 ops K (o :: l) e F L := by
  intro a ha
  unfold wpQuiet
  rw [if_pos (by rw [wanted_of ha hg hj ht, hb]; simp)]
  refine ⟨v, fun w hw => ?_, by rw [hd]; exact k _ (ha.put hn v)⟩
  unfold Oper.quietAt
  rw [h a w ha hw]
  exact ⟨rfl, rfl⟩
/-! the same, short -/
theorem Lst.r (h : Ev P n w0 e F L o v) (k : Lst P n w0 ops Q l ((d, v) :: e) F L) (hg : o.guard = none := by exact rfl) (hd : o.dst = some d := by exact rfl) (hn : d < n := by decide) : Lst P n w0 ops Q (o :: l) e F L := Lst.run hg hd hn h k
theorem Qt.r (h : Ev P n w0 e F L o v) (k : Qt P n w0 ops K l ((d, v) :: e) F L) (hg : o.guard = none := by exact rfl) (hd : o.dst = some d := by exact rfl) (hn : d < n := by decide) : Qt P n w0 ops K (o :: l) e F L := Qt.run hg hd hn h k
theorem Lst.rG {j : Nat} {want : Bool} {t : Nat} {b : Bool} (hb : b = want) (h : Ev P n w0 e F L o v) (k : Lst P n w0 ops Q l ((d, v) :: e) F L) (hg : o.guard = some (j, want) := by exact rfl) (hj : (ops[j]?).bind (·.dst) = some t := by exact rfl) (ht : look e t = some (.bool b) := by exact rfl)
    (hd : o.dst = some d := by exact rfl) (hn : d < n := by decide) : Lst P n w0 ops Q (o :: l) e F L := Lst.runG hg hj ht hb hd hn h k
theorem Qt.rG {j : Nat} {want : Bool} {t : Nat} {b : Bool} (hb : b = want) (h : Ev P n w0 e F L o v) (k : Qt P n w0 ops K l ((d, v) :: e) F L) (hg : o.guard = some (j, want) := by exact rfl) (hj : (ops[j]?).bind (·.dst) = some t := by exact rfl) (ht : look e t = some (.bool b) := by exact rfl)
    (hd : o.dst = some d := by exact rfl) (hn : d < n := by decide) : Qt P n w0 ops K (o :: l) e F L := Qt.runG hg hj ht hb hd hn h k
/-! the same, with the slot in sight: such steps stand in chains -/
section
variable {A B : List Item} {a a2 a3 a4 a5 a6 a7 a8 : Item}
theorem sk1 (h : A.Sublist B) : (a :: A).Sublist (a :: B) := List.Sublist.cons_cons _ h
theorem sc1 (h : A.Sublist B) : A.Sublist (a :: B) := List.Sublist.cons _ h
theorem sc2 (h : A.Sublist B) : A.Sublist (a :: a2 :: B) := sc1 (sc1 h)
theorem sc4 (h : A.Sublist B) : A.Sublist (a :: a2 :: a3 :: a4 :: B) := sc2 (sc2 h)
theorem sc8 (h : A.Sublist B) : A.Sublist (a :: a2 :: a3 :: a4 :: a5 :: a6 :: a7 :: a8 :: B) := sc4 (sc4 h)
end
theorem Qt.skip {j : Nat} {want : Bool} {t : Nat} {b : Bool} (hg : o.guard = some (j, want)) (hj : (ops[j]?).bind (·.dst) = some t) (ht : look e t = some (.bool b)) (hb : b = !want)
    (hd : o.dst = some d) (hn : d < n) (k : Qt P n w0 ops K l ((d, undef) :: e) F L) : Qt P n w0 ops K (o :: l) e F L := by
  intro a ha
  unfold wpQuiet
  rw [if_neg (by rw [wanted_of ha hg hj ht, hb]; cases want <;> simp), hd]
  exact k _ (ha.put hn undef)

/-! ### Code -/
theorem Cd.region {id : Nat} {l : List Oper} (h : Lst P n w0 l.toArray Q l e F L) : Cd P n w0 Q (.region id l.toArray false) e F L :=
  fun a w ha hw => wp_region_lit (h a w ha hw)
/-- A drawn region of quiet operations. -/
theorem Cd.quiet {id : Nat} {l : List Oper} (hm : P.follows .mixedOrders = true) (hB : Region.lexB .any l.toArray = true)
    (h : Qt P n w0 l.toArray (fun a => ∀ w, St w0 F L w → Q .normal a w) l e F L) : Cd P n w0 Q (.region id l.toArray true) e F L :=
  fun a _ ha hw => wp_region_quiet (C := St w0 F L) hm hB hw.drew (by simpa using h a ha)
theorem Qt.done (h : At n w0 Q .normal e F L) : Qt P n w0 ops (fun a => ∀ w, St w0 F L w → Q .normal a w) [] e F L := fun a ha w hw => h a w ha hw

theorem Cd.seq {x y : Code} (h : Cd P n w0 (Exit.then (y.wp P Q) Q) x e F L) : Cd P n w0 Q (.seq x y) e F L := fun a w ha hw => wp_seq (h a w ha hw)
theorem Cd.skip (h : At n w0 Q .normal e F L) : Cd P n w0 Q .skip e F L := fun a w ha hw => wp_skip (h a w ha hw)
theorem Cd.exit {id : Nat} (h : At n w0 Q (.exit id) e F L) : Cd P n w0 Q (.exit id) e F L := fun a w ha hw => wp_exit (h a w ha hw)
theorem Cd.ret (h : At n w0 Q .ret e F L) : Cd P n w0 Q .ret e F L := fun a w ha hw => wp_ret (h a w ha hw)
theorem Cd.block {id : Nat} {c : Code} (h : Cd P n w0 (Exit.inBlock id Q) c e F L) : Cd P n w0 Q (.block id c) e F L := fun a w ha hw => wp_block (h a w ha hw)
theorem Cd.condT {c : Operand} {x y : Code} {b : Bool} (hc : ev e c = some (.bool b)) (hb : b = true) (h : Cd P n w0 Q x e F L) : Cd P n w0 Q (.cond c x y) e F L :=
  fun a w ha hw => wp_cond_true (by rw [ha.eval hc, hb]) (h a w ha hw)
theorem Cd.condF {c : Operand} {x y : Code} {b : Bool} (hc : ev e c = some (.bool b)) (hb : b = false) (h : Cd P n w0 Q y e F L) : Cd P n w0 Q (.cond c x y) e F L :=
  fun a w ha hw => wp_cond_false (by rw [ha.eval hc, hb]) (h a w ha hw)

theorem At.then {y : Code} (h : Cd P n w0 Q y e F L) : At n w0 (Exit.then (y.wp P Q) Q) .normal e F L := h
theorem At.then_exit {k : Act → World → Prop} {id : Nat} (h : At n w0 Q (.exit id) e F L) : At n w0 (Exit.then k Q) (.exit id) e F L := h
theorem At.then_ret {k : Act → World → Prop} (h : At n w0 Q .ret e F L) : At n w0 (Exit.then k Q) .ret e F L := h
theorem At.in_normal {id : Nat} (h : At n w0 Q .normal e F L) : At n w0 (Exit.inBlock id Q) .normal e F L := h
theorem At.in_ret {id : Nat} (h : At n w0 Q .ret e F L) : At n w0 (Exit.inBlock id Q) .ret e F L := h
theorem At.in_exit {id : Nat} (h : At n w0 Q .normal e F L) : At n w0 (Exit.inBlock id Q) (.exit id) e F L := fun a w ha hw => by
  simp only [Exit.inBlock, if_true]; exact h a w ha hw
theorem At.in_other {id id' : Nat} (hne : (id' == id) = false) (h : At n w0 Q (.exit id') e F L) : At n w0 (Exit.inBlock id Q) (.exit id') e F L := fun a w ha hw => by
  simp only [Exit.inBlock]; rw [if_neg (by simpa using hne)]; exact h a w ha hw

/-- The slots and the owned blocks, said anew. -/
theorem Cd.as {c : Code} {e' : List (Nat × Value)} {L' : List Item} (he : sub e e') (hL : L = L') (h : Cd P n w0 Q c e' F L') : Cd P n w0 Q c e F L := by
  subst hL; exact fun a w ha hw => h a w (ha.sub he) hw
theorem Cd.env {c : Code} {e' : List (Nat × Value)} (he : e = e') (h : Cd P n w0 Q c e' F L) : Cd P n w0 Q c e F L := by subst he; exact h
theorem At.as {x : Exit} {e' : List (Nat × Value)} {L' : List Item} (he : sub e e') (hL : L = L') (h : At n w0 Q x e' F L') : At n w0 Q x e F L := by
  subst hL; exact fun a w ha hw => h a w (ha.sub he) hw
theorem At.less {x : Exit} {L' : List Item} (hs : L'.Sublist L) (h : At n w0 Q x e F L') : At n w0 Q x e F L := fun a w ha hw => h a w ha (hw.sublist hs)
theorem Lst.as {e' : List (Nat × Value)} {L' : List Item} (he : sub e e') (hL : L = L') (h : Lst P n w0 ops Q l e' F L') : Lst P n w0 ops Q l e F L := by
  subst hL; exact fun a w ha hw => h a w (ha.sub he) hw

theorem Lst.its {L' : List Item} (hL : L = L') (h : Lst P n w0 ops Q l e F L') : Lst P n w0 ops Q l e F L := by subst hL; exact h
theorem Cd.bound {α : Prop} {c : Code} (hb : ∀ w, St w0 F L w → α) (h : α → Cd P n w0 Q c e F L) : Cd P n w0 Q c e F L := fun a w ha hw => h (hb w hw) a w ha hw
/-- Where ways meet: some state s. -/
def Meet {σ : Type} (n : Nat) (w0 : World) (F : Frz) (env : σ → List (Nat × Value)) (its : σ → List Item) (I : Frz → σ → Prop) (a : Act) (w : World) : Prop :=
  ∃ F' s, FLe F F' ∧ EnvOk n a (env s) ∧ St w0 F' (its s) w ∧ I F' s

theorem Cd.join {σ : Type} {x y : Code} (env : σ → List (Nat × Value)) (its : σ → List Item) (I : Frz → σ → Prop)
    (h : Cd P n w0 (Exit.then (Meet n w0 F env its I) Q) x e F L) (k : ∀ F' s, FLe F F' → I F' s → Cd P n w0 Q y (env s) F' (its s)) : Cd P n w0 Q (.seq x y) e F L :=
  fun a w ha hw => wp_seq (wp_mono (h a w ha hw) fun x a' w' q => by
    cases x <;> first | exact q | (obtain ⟨F', s, h1, h2, h3, h4⟩ := q; exact k F' s h1 h4 a' w' h2 h3))
theorem At.meet {σ : Type} {F0 : Frz} {env : σ → List (Nat × Value)} {its : σ → List Item} {I : Frz → σ → Prop} (s : σ) (hF : FLe F0 F) (he : sub e (env s)) (hL : L = its s) (hI : I F s) :
    At n w0 (Exit.then (Meet n w0 F0 env its I) Q) .normal e F L := by
  subst hL
  exact fun a w ha hw => ⟨F, s, hF, ha.sub he, hw, hI⟩

theorem wpList_app {l1 l2 : List Oper} : ∀ {a : Act} {w : World}, wpList P ops (Exit.then (fun a w => wpList P ops Q l2 a w) Q) l1 a w → wpList P ops Q (l1 ++ l2) a w := by
  induction l1 with
  | nil => intro a w h; exact h
  | cons o l1 ih =>
    intro a w h
    simp only [List.cons_append]
    unfold wpList at h ⊢
    split
    · rename_i hw
      rw [if_pos hw] at h
      have hlet : LetsOut (Exit.then (fun a w => wpList P ops Q l2 a w) Q) → LetsOut Q := fun ⟨a', w', q⟩ => ⟨a', w', q⟩
      rcases h with h | ⟨h1, h2⟩
      · left
        unfold Oper.wp at h ⊢
        generalize (execOp a.eval o).run P w = r at h ⊢
        cases r with
        | ok nx w' =>
          cases nx <;> simp only [Oper.upon] at h ⊢ <;> first
            | exact ih h
            | exact h
            | (refine h.mono ?_; intro e w'' he; cases e <;> first | exact ih he | exact he | exact hlet he)
            | (exact Rows.mono h fun v w'' he => ih he)
        | halt x w' => cases x <;> exact h
      · exact .inr ⟨h1, hlet h2⟩
    · rename_i hw
      rw [if_neg hw] at h
      exact ih h
theorem wpList_mono {l : List Oper} {Q Q' : Exit → Act → World → Prop} (hq : ∀ e a w, Q e a w → Q' e a w) : ∀ {a : Act} {w : World}, wpList P ops Q l a w → wpList P ops Q' l a w := by
  have hlet : LetsOut Q → LetsOut Q' := fun ⟨a', w', q⟩ => ⟨a', w', hq _ _ _ q⟩
  induction l with
  | nil => intro a w h; exact hq _ _ _ h
  | cons o l ih =>
    intro a w h
    unfold wpList at h ⊢
    split
    · rename_i hw
      rw [if_pos hw] at h
      rcases h with h | ⟨h1, h2⟩
      · left
        unfold Oper.wp at h ⊢
        generalize (execOp a.eval o).run P w = r at h ⊢
        cases r with
        | ok nx w' =>
          cases nx <;> simp only [Oper.upon] at h ⊢ <;> first
            | exact ih h
            | exact hq _ _ _ h
            | (refine h.mono ?_; intro e w'' he; cases e <;> first | exact ih he | exact hq _ _ _ he | exact hlet he)
            | (exact Rows.mono h fun v w'' he => ih he)
        | halt x w' => cases x <;> first | exact hq _ _ _ h | exact h
      · exact .inr ⟨h1, hlet h2⟩
    · rename_i hw
      rw [if_neg hw] at h
      exact ih h
/-- Ways meet inside a region. -/
theorem Lst.join {σ : Type} (m : Nat) (env : σ → List (Nat × Value)) (its : σ → List Item) (I : Frz → σ → Prop)
    (h : Lst P n w0 ops (Exit.then (Meet n w0 F env its I) Q) (l.take m) e F L) (k : ∀ F' s, FLe F F' → I F' s → Lst P n w0 ops Q (l.drop m) (env s) F' (its s)) : Lst P n w0 ops Q l e F L := by
  intro a w ha hw
  rw [← List.take_append_drop m l]
  refine wpList_app (wpList_mono ?_ (h a w ha hw))
  intro x a' w' q
  cases x <;> first | exact q | (obtain ⟨F', s, h1, h2, h3, h4⟩ := q; exact k F' s h1 h4 a' w' h2 h3)
theorem wpQuiet_app {C : World → Prop} {l1 l2 : List Oper} : ∀ {a : Act}, wpQuiet P ops C (fun a => wpQuiet P ops C K l2 a) l1 a → wpQuiet P ops C K (l1 ++ l2) a := by
  induction l1 with
  | nil => intro a h; exact h
  | cons o l1 ih =>
    intro a h
    simp only [List.cons_append]
    unfold wpQuiet at h ⊢
    split
    · rename_i hw
      rw [if_pos hw] at h
      exact Oper.quiet_mono (fun _ h => ih h) h
    · rename_i hw
      rw [if_neg hw] at h
      exact ih h
theorem wpQuiet_mono {C : World → Prop} {K K' : Act → Prop} (hk : ∀ a, K a → K' a) {l : List Oper} : ∀ {a : Act}, wpQuiet P ops C K l a → wpQuiet P ops C K' l a := by
  induction l with
  | nil => intro a h; exact hk _ h
  | cons o l ih =>
    intro a h
    unfold wpQuiet at h ⊢
    split
    · rename_i hw
      rw [if_pos hw] at h
      exact Oper.quiet_mono (fun _ h => ih h) h
    · rename_i hw
      rw [if_neg hw] at h
      exact ih h
def QMeet {σ : Type} (n : Nat) (env : σ → List (Nat × Value)) (I : σ → Prop) (a : Act) : Prop := ∃ s, EnvOk n a (env s) ∧ I s
theorem Qt.join {σ : Type} (m : Nat) (env : σ → List (Nat × Value)) (I : σ → Prop)
    (h : Qt P n w0 ops (QMeet n env I) (l.take m) e F L) (k : ∀ s, I s → Qt P n w0 ops K (l.drop m) (env s) F L) : Qt P n w0 ops K l e F L := by
  intro a ha
  rw [← List.take_append_drop m l]
  refine wpQuiet_app (wpQuiet_mono ?_ (h a ha))
  rintro a' ⟨s, h1, h2⟩
  exact k s h2 a' h1
theorem Qt.meet {σ : Type} {env : σ → List (Nat × Value)} {I : σ → Prop} (s : σ) (he : sub e (env s)) (hI : I s) : Qt P n w0 ops (QMeet n env I) [] e F L := fun _ ha => ⟨s, ha.sub he, hI⟩
/-- The owned blocks in another order. -/
theorem Lst.perm {L' : List Item} (hp : L.Perm L') (h : Lst P n w0 ops Q l e F L') : Lst P n w0 ops Q l e F L := fun a w ha hw => h a w ha (hw.perm hp)
theorem At.perm {x : Exit} {L' : List Item} (hp : L.Perm L') (h : At n w0 Q x e F L') : At n w0 Q x e F L := fun a w ha hw => h a w ha (hw.perm hp)
/-- Give up the right to write a block. -/
theorem Lst.freeze {i : Nat} {it : Item} (hL : L[i]? = some it) (h : ∀ F', FLe F F' → (∀ w, St w0 F' [] w → it.holds (World.hp w)) → Lst P n w0 ops Q l e F' (L.eraseIdx i)) : Lst P n w0 ops Q l e F L := fun a w ha hw => by
  obtain ⟨F', h1, h2, h3⟩ := hw.freeze hL
  exact h F' h1 h3 a w ha h2
theorem Cd.freeze {c : Code} {i : Nat} {it : Item} (hL : L[i]? = some it) (h : ∀ F', FLe F F' → (∀ w, St w0 F' [] w → it.holds (World.hp w)) → Cd P n w0 Q c e F' (L.eraseIdx i)) : Cd P n w0 Q c e F L := fun a w ha hw => by
  obtain ⟨F', h1, h2, h3⟩ := hw.freeze hL
  exact h F' h1 h3 a w ha h2
theorem At.freeze {x : Exit} {i : Nat} {it : Item} (hL : L[i]? = some it) (h : ∀ F', FLe F F' → (∀ w, St w0 F' [] w → it.holds (World.hp w)) → At n w0 Q x e F' (L.eraseIdx i)) : At n w0 Q x e F L := fun a w ha hw => by
  obtain ⟨F', h1, h2, h3⟩ := hw.freeze hL
  exact h F' h1 h3 a w ha h2
theorem Cd.loop {σ : Type} {c : Code} (env : σ → List (Nat × Value)) (its : σ → List Item) (I : Frz → σ → Prop) (μ : σ → Nat) (s0 : σ) (he : sub e (env s0)) (hL : L = its s0) (h0 : I F s0)
    (round : ∀ F' s, FLe F F' → I F' s → Cd P n w0 (Exit.then (Meet n w0 F env its fun F'' s' => I F'' s' ∧ μ s' < μ s) Q) c (env s) F' (its s)) : Cd P n w0 Q (.loop c) e F L := by
  subst hL
  intro a w ha hw
  refine wp_loop_n (fun m a w => ∃ F' s, FLe F F' ∧ EnvOk n a (env s) ∧ St w0 F' (its s) w ∧ I F' s ∧ μ s = m) _ ⟨F, s0, FLe.refl F, ha.sub he, hw, h0, rfl⟩ ?_
  rintro m a w ⟨F', s, h1, h2, h3, h4, rfl⟩
  refine wp_mono (round F' s h1 h4 a w h2 h3) fun x a' w' q => ?_
  cases x <;> first | exact q | (obtain ⟨F'', s', g1, g2, g3, g4, g5⟩ := q; exact ⟨_, g5, F'', s', g1, g2, g3, g4, rfl⟩)
end
section
variable {P : Program} {n : Nat} {w0 : World} {ops : Array Oper} {Q : Exit → Act → World → Prop} {e : List (Nat × Value)} {F : Frz} {L : List Item}
theorem nt0 {y : Code} (h : Cd P n w0 Q y e F L) : Lst P n w0 ops (Exit.then (y.wp P Q) Q) [] e F L := Lst.nil (At.then h)
theorem sr0 {y : Code} {id : Nat} {l : List Oper} (h : Lst P n w0 l.toArray (Exit.then (y.wp P Q) Q) l e F L) : Cd P n w0 Q (.seq (.region id l.toArray false) y) e F L := Cd.seq (Cd.region h)
theorem nsr {y : Code} {id : Nat} {l : List Oper} (h : Lst P n w0 l.toArray (Exit.then (y.wp P Q) Q) l e F L) : Lst P n w0 ops (Exit.then ((Code.seq (.region id l.toArray false) y).wp P Q) Q) [] e F L := nt0 (sr0 h)
end
end Go.Proofs.Ytnkfphbggemlbaa
