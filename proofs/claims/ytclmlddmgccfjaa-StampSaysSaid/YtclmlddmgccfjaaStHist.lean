/-
  Histories: which ones are right, and that both checks say so.
-/
import Derived.Test.YtclmlddmgccfjaaStSp
import Derived.Test.YtclmlddmgccfjaaGoW
namespace Go.Proofs.Ytclmlddmgccfjaa
open Enc

/-! ### Right histories -/
def rangeOk (x : Event) : Prop := 0 ≤ x.Proc ∧ x.Proc ≤ 5 ∧ 0 ≤ x.Msg ∧ x.Msg ≤ 29
def NoSend (h : List Event) (i : Nat) (m : Int) : Prop := ∀ (j : Nat) y, j < i → h[j]? = some y → y.Kind = 2 → y.Msg ≠ m
def Sent (h : List Event) (i : Nat) (m p : Int) : Prop := ∃ (j : Nat) (y : Event), j < i ∧ h[j]? = some y ∧ y.Kind = 2 ∧ y.Msg = m ∧ y.Proc = p
def Took (h : List Event) (i : Nat) (x : Event) : Prop := ∃ j : Nat, j < i ∧ h[j]? = some x
def kindOk (h : List Event) (i : Nat) (x : Event) : Prop :=
  (x.Kind = 1 ∧ x.Msg = 0) ∨ (x.Kind = 2 ∧ NoSend h i x.Msg) ∨ (x.Kind = 3 ∧ (∃ p, Sent h i x.Msg p ∧ p ≠ x.Proc) ∧ ¬ Took h i x)
open Classical in
noncomputable def evErr (h : List Event) (i : Nat) : Int := match h[i]? with
  | none => 0
  | some x => if rangeOk x then (if kindOk h i x then 0 else 4) else 1
def RightTo (h : List Event) (n : Nat) : Prop := ∀ i, i < n → evErr h i = 0
def Right (h : List Event) : Prop := h.length ≤ 60 ∧ RightTo h h.length

theorem evErr_at {h : List Event} {i : Nat} {x : Event} (hx : h[i]? = some x) (he : evErr h i = 0) : rangeOk x ∧ kindOk h i x := by
  unfold evErr at he
  rw [hx] at he
  simp only at he
  split at he
  · split at he
    · exact ⟨by assumption, by assumption⟩
    · cases he
  · cases he
theorem evErr_ok {h : List Event} {i : Nat} {x : Event} (hx : h[i]? = some x) (h1 : rangeOk x) (h2 : kindOk h i x) : evErr h i = 0 := by
  unfold evErr; rw [hx]; simp only [if_pos h1, if_pos h2]
theorem evErr_4 {h : List Event} {i : Nat} {x : Event} (hx : h[i]? = some x) (h1 : rangeOk x) (h2 : ¬ kindOk h i x) : evErr h i = 4 := by
  unfold evErr; rw [hx]; simp only [if_pos h1, if_neg h2]
theorem evErr_1 {h : List Event} {i : Nat} {x : Event} (hx : h[i]? = some x) (h1 : ¬ rangeOk x) : evErr h i = 1 := by
  unfold evErr; rw [hx]; simp only [if_neg h1]
theorem RightTo.range {h : List Event} {n i : Nat} {x : Event} (hr : RightTo h n) (hi : i < n) (hx : h[i]? = some x) : rangeOk x := (evErr_at hx (hr i hi)).1
theorem sent_one {h : List Event} {n : Nat} {m p q : Int} (hr : RightTo h n) (h1 : Sent h n m p) (h2 : Sent h n m q) : p = q := by
  obtain ⟨i, x, a1, a2, a3, a4, a5⟩ := h1
  obtain ⟨j, y, b1, b2, b3, b4, b5⟩ := h2
  have key : ∀ (i j : Nat) (x y : Event), i < n → j < n → h[i]? = some x → h[j]? = some y → x.Kind = 2 → y.Kind = 2 → x.Msg = m → y.Msg = m → ¬ i < j := by
    intro i j x y hi hj hx hy kx ky mx my hij
    rcases (evErr_at hy (hr j hj)).2 with ⟨k, _⟩ | ⟨_, k⟩ | ⟨k, _⟩
    · omega
    · exact k i x hij hx kx (mx.trans my.symm)
    · omega
  have e : i = j := by
    have := key i j x y a1 b1 a2 b2 a3 b3 a4 b4
    have := key j i y x b1 a1 b2 a2 b3 a3 b4 a4
    omega
  subst e
  rw [a2] at b2
  obtain rfl := Option.some.inj b2
  omega
theorem sent_or {h : List Event} {n : Nat} {m : Int} : NoSend h n m ∨ ∃ p, Sent h n m p := by
  by_cases e : ∃ p, Sent h n m p
  · exact .inr e
  · refine .inl fun j y hj hy hk hm => e ⟨y.Proc, j, y, hj, hy, hk, hm, rfl⟩
theorem NoSend.not {h : List Event} {n : Nat} {m p : Int} (h1 : NoSend h n m) : ¬ Sent h n m p := fun ⟨j, y, a, b, c, d, _⟩ => h1 j y a b c d
theorem Sent.step {h : List Event} {n : Nat} {m p : Int} {x : Event} (hx : h[n]? = some x) : Sent h (n + 1) m p ↔ Sent h n m p ∨ (x.Kind = 2 ∧ x.Msg = m ∧ x.Proc = p) := by
  constructor
  · rintro ⟨j, y, a, b, c, d, e⟩
    by_cases hj : j = n
    · subst hj; rw [hx] at b; obtain rfl := Option.some.inj b; exact .inr ⟨c, d, e⟩
    · exact .inl ⟨j, y, by omega, b, c, d, e⟩
  · rintro (⟨j, y, a, b, c, d, e⟩ | ⟨c, d, e⟩)
    · exact ⟨j, y, by omega, b, c, d, e⟩
    · exact ⟨n, x, by omega, hx, c, d, e⟩
theorem Took.step {h : List Event} {n : Nat} {x y : Event} (hx : h[n]? = some x) : Took h (n + 1) y ↔ Took h n y ∨ x = y := by
  constructor
  · rintro ⟨j, a, b⟩
    by_cases hj : j = n
    · subst hj; rw [hx] at b; exact .inr (Option.some.inj b)
    · exact .inl ⟨j, by omega, b⟩
  · rintro (⟨j, a, b⟩ | rfl)
    · exact ⟨j, by omega, b⟩
    · exact ⟨n, by omega, hx⟩
theorem NoSend.step {h : List Event} {n : Nat} {m : Int} {x : Event} (hx : h[n]? = some x) : NoSend h (n + 1) m ↔ NoSend h n m ∧ ¬ (x.Kind = 2 ∧ x.Msg = m) := by
  constructor
  · intro k
    exact ⟨fun j y hj => k j y (by omega), fun ⟨a, b⟩ => k n x (by omega) hx a b⟩
  · rintro ⟨k1, k2⟩ j y hj hy a b
    by_cases e : j = n
    · subst e; rw [hx] at hy; obtain rfl := Option.some.inj hy; exact k2 ⟨a, b⟩
    · exact k1 j y (by omega) hy a b

/-! ### The code of a history -/
def HistCode (h : List Event) (c : Int) : Prop :=
  (60 < h.length ∧ c = 2) ∨ (h.length ≤ 60 ∧ RightTo h h.length ∧ c = 0) ∨ (h.length ≤ 60 ∧ ∃ i, i < h.length ∧ evErr h i = c ∧ c ≠ 0 ∧ RightTo h i)
theorem HistCode.one {h : List Event} {c d : Int} (h1 : HistCode h c) (h2 : HistCode h d) : c = d := by
  rcases h1 with ⟨a, rfl⟩ | ⟨a, b, rfl⟩ | ⟨a, i, i1, i2, i3, i4⟩ <;> rcases h2 with ⟨a', rfl⟩ | ⟨a', b', rfl⟩ | ⟨a', j, j1, j2, j3, j4⟩ <;> try omega
  · have := b j j1; omega
  · have := b' i i1; omega
  · have : i = j := by
      rcases Nat.lt_trichotomy i j with e | e | e
      · have := j4 i e; omega
      · exact e
      · have := i4 j e; omega
    subst this; omega
theorem HistCode.right {h : List Event} (h1 : HistCode h 0) : Right h := by
  rcases h1 with ⟨_, h⟩ | ⟨a, b, _⟩ | ⟨_, _, _, _, h, _⟩
  · cases h
  · exact ⟨a, b⟩
  · exact absurd rfl h
theorem HistCode.of_right {h : List Event} {c : Int} (h1 : HistCode h c) (hr : Right h) : c = 0 := h1.one (.inr (.inl ⟨hr.1, hr.2, rfl⟩))

/-! ### The reference -/
theorem ref31 {h : List Event} {i : Nat} {x : Event} (hr : RightTo h i) (hi : i < h.length) :
    Tot (rangeF (partref_HistoryErr_B2 x (h.take i)) (h.take i).length 0 ((-1 : Int), false)) fun z =>
      ((z.1 = -1 ∧ NoSend h i x.Msg) ∨ (0 ≤ z.1 ∧ Sent h i x.Msg z.1)) ∧ (z.2 = true ↔ Took h i x) := by
  have hl : (h.take i).length = i := by rw [List.length_take]; omega
  refine Tot.rangeF (fun j z => ((z.1 = -1 ∧ NoSend h j x.Msg) ∨ (0 ≤ z.1 ∧ Sent h j x.Msg z.1)) ∧ (z.2 = true ↔ Took h j x)) ⟨.inl ⟨rfl, fun j y hj => by omega⟩, by simp [Took]⟩ ?_ ?_
  · rintro j ⟨s, t⟩ _ hj ⟨h1, h2⟩
    rw [hl] at hj
    have hj' : j < h.length := by omega
    have hy : h[j]? = some h[j] := by simp [hj']
    have hyr := hr.range (by omega) hy
    unfold partref_HistoryErr_B2
    rw [Tot.bind_iff, Tot.lat_iff]
    refine ⟨by omega, ?_⟩
    rw [List.getElem_take]
    generalize h[j] = y at hy hyr
    simp only [cond_some, Option.bind_some, Tot.some_iff, Bool.cond_true_left, Bool.cond_false_right]
    refine ⟨?_, ?_⟩
    · simp only [NoSend.step hy, Sent.step hy]
      by_cases e : y.Kind = 2 ∧ y.Msg = x.Msg
      · right
        simp only [e.1, e.2, beq_self_eq_true, Bool.and_self, cond_true]
        exact ⟨hyr.1, by simp⟩
      · have e' : (y.Kind == 2 && y.Msg == x.Msg) = false := by simpa using e
        simp only [e', cond_false]
        rcases h1 with ⟨a, b⟩ | ⟨a, b⟩
        · exact .inl ⟨a, b, e⟩
        · exact .inr ⟨a, .inl b⟩
    · rw [Took.step hy, Bool.or_eq_true, h2, decide_eq_true_eq]
  · intro z hz
    rw [hl] at hz
    simpa using hz
theorem ref_law (h : List Event) : Tot (partref_HistoryErr h) (HistCode h) := by
  unfold partref_HistoryErr
  rw [Tot.ite_iff]
  refine ⟨fun hc => Tot.some_iff.2 (.inl ⟨by have := of_decide_eq_true hc; omega, rfl⟩), fun hc => ?_⟩
  have hc' : h.length ≤ 60 := by have := of_decide_eq_false hc; omega
  rw [Tot.andThen_iff]
  refine Tot.rangeM (fun i _ => RightTo h i) (fun i hi => by omega) ?_ ?_
  · intro i _ _ hi hr
    have hi' : i < h.length := by omega
    have hx : h[i]? = some h[i] := by simp [hi']
    unfold partref_HistoryErr_B0
    rw [Tot.bind_iff, Tot.lat_iff]
    refine ⟨hi', ?_⟩
    generalize h[i] = x at hx
    simp only [or_some, Option.bind_some]
    rw [Tot.ite_iff]
    have bad : ∀ c : Int, evErr h i = c → c ≠ 0 → HistCode h c := fun c h1 h2 => .inr (.inr ⟨hc', i, hi', h1, h2, hr⟩)
    have good : evErr h i = 0 → RightTo h (i + 1) := fun h1 k hk => by
      by_cases e : k = i
      · subst e; exact h1
      · exact hr k (by omega)
    refine ⟨fun h1 => Tot.some_iff.2 (bad 1 (evErr_1 hx fun h2 => ?_) (by decide)), fun h1 => ?_⟩
    · simp [rangeOk] at h1 h2; omega
    · have hro : rangeOk x := by simp [rangeOk] at h1 ⊢; omega
      rw [Tot.bind_iff, Tot.cutL_iff]
      refine ⟨by omega, ?_⟩
      rw [show ((h.drop (0 : Int).toNat).take ((i : Int).toNat - (0 : Int).toNat)) = h.take i by simp]
      rw [Tot.bind_iff]
      refine (ref31 hr hi').mono ?_
      rintro ⟨s, t⟩ ⟨h2, h3⟩
      simp only [and_some, Option.bind_some, Tot.ite_iff]
      refine ⟨fun k => Tot.some_iff.2 (good (evErr_ok hx hro (.inl (by simpa using k)))), fun k1 => ⟨fun k => Tot.some_iff.2 (good (evErr_ok hx hro (.inr (.inl ?_)))), fun k2 => ⟨fun k => Tot.some_iff.2 (good (evErr_ok hx hro (.inr (.inr ?_)))), fun k3 => Tot.some_iff.2 (bad 4 (evErr_4 hx hro ?_) (by decide))⟩⟩⟩
      · simp only [Bool.and_eq_true, beq_iff_eq, decide_eq_true_eq] at k
        rcases h2 with ⟨_, b⟩ | ⟨a, _⟩
        · exact ⟨k.1, b⟩
        · simp only at a; omega
      · simp only [Bool.and_eq_true, beq_iff_eq, decide_eq_true_eq, bne_iff_ne, ne_eq, Bool.not_eq_true'] at k
        rcases h2 with ⟨a, _⟩ | ⟨_, b⟩
        · simp only at a; omega
        · refine ⟨k.1.1.1, ⟨s, b, k.1.2⟩, fun ht => ?_⟩
          have := h3.2 ht
          simp only at this
          rw [this] at k; simp at k
      · rintro (k | ⟨a, b⟩ | ⟨a, ⟨p, b1, b2⟩, c⟩)
        · simp [k] at k1
        · rcases h2 with ⟨a', _⟩ | ⟨_, b'⟩
          · simp only at a'
            simp [a, a'] at k2
          · exact b.not b'
        · rcases h2 with ⟨_, b'⟩ | ⟨a', b'⟩
          · exact b'.not b1
          · obtain rfl := sent_one hr b1 b'
            have ht : t = false := by
              cases t with
              | false => rfl
              | true => exact absurd (h3.1 rfl) c
            simp only at a'
            simp [a, a', b2, ht] at k3
  · intro s hr
    rw [Nat.zero_add] at hr
    exact Tot.some_iff.2 (.inr (.inl ⟨hc', hr, rfl⟩))

/-! ### The program -/
structure Ck (h : List Event) (j : Nat) (c : Checker) : Prop where
  sender : ∀ (m : Nat) (hm : m < 30), (c.sender[m] = 0 ∧ NoSend h j m) ∨ (∃ p, 0 ≤ p ∧ Sent h j m p ∧ c.sender[m] = p + 1)
  taken : ∀ (m : Nat) (hm : m < 30) (p : Nat) (hp : p < 6), c.taken[m][p] = true ↔ Took h j ⟨(p : Int), 3, (m : Int)⟩
theorem in_eq (a b c : Int) : stamp_in a b c = some (decide (a ≥ b) && decide (a ≤ c)) := by
  unfold stamp_in; rw [and_some, Option.bind_some]
theorem event_law {h : List Event} {j : Nat} {c : Checker} {x : Event} (hr : RightTo h j) (hx : h[j]? = some x) (hc : Ck h j c) : Tot (stamp_checker_event c x) fun r => r.2 = evErr h j ∧ (evErr h j = 0 → Ck h (j + 1) r.1) := by
  unfold stamp_checker_event
  simp only [in_eq, Option.bind_some, or_some]
  rw [Tot.ite_iff]
  refine ⟨fun k => Tot.some_iff.2 ?_, fun k => ?_⟩
  · have he : evErr h j = 1 := evErr_1 hx fun h2 => by simp [rangeOk] at k h2; omega
    exact ⟨he.symm, fun h0 => by omega⟩
  have hro : rangeOk x := by simp [rangeOk] at k ⊢; omega
  obtain ⟨P, K, M⟩ := x
  obtain ⟨r1, r2, r3, r4⟩ := hro
  simp only at r1 r2 r3 r4
  obtain ⟨p, rfl⟩ := int_nat r1
  obtain ⟨m, rfl⟩ := int_nat r3
  have hp : p < 6 := by omega
  have hm : m < 30 := by omega
  have hro : rangeOk ⟨(p : Int), K, (m : Int)⟩ := ⟨r1, r2, r3, r4⟩
  have e64 : w64 ((p : Int) + 1) = (p : Int) + 1 := w64_id (by omega) (by omega)
  have h4 : ¬ kindOk h j ⟨(p : Int), K, (m : Int)⟩ → evErr h j = 4 := evErr_4 hx hro
  have h0 : kindOk h j ⟨(p : Int), K, (m : Int)⟩ → evErr h j = 0 := evErr_ok hx hro
  have hcs := hc.sender m hm
  have hct := hc.taken m hm p hp
  clear k
  simp only [Tot.andThen_iff, Tot.ite_iff, Tot.bind_iff, Tot.vat_iff, Tot.some_iff, Tot.let_iff, Tot.inl_iff, Tot.inr_iff, e64, Int.toNat_natCast, beq_iff_eq, beq_eq_false_iff_ne, bne_iff_ne, ne_eq, bne_eq_false_iff_eq, decide_eq_true_eq, decide_eq_false_iff_not, forall_const, reduceCtorEq, false_implies, and_true]
  have same : ∀ c', (c = c') → ∀ (hK : K ≠ 2), K ≠ 3 → Ck h (j + 1) c' := by
    rintro _ rfl hK hK3
    refine ⟨fun m' hm' => ?_, fun m' hm' p' hp' => ?_⟩
    · simp only [NoSend.step hx, Sent.step hx]
      rcases hc.sender m' hm' with ⟨a, b⟩ | ⟨q, a, b, d⟩
      · exact .inl ⟨a, b, fun k => hK k.1⟩
      · exact .inr ⟨q, a, .inl b, d⟩
    · rw [Took.step hx, hc.taken m' hm' p' hp']
      exact ⟨.inl, fun k => k.elim id fun k => by simp only [Event.mk.injEq] at k; exact absurd k.2.1 hK3⟩
  refine ⟨fun hK => ⟨fun hM => ?_, fun hM => ?_⟩, fun hK => ⟨fun hK2 => ⟨hm, fun hs => ?_, fun hs => ⟨hm, ?_⟩⟩, fun hK2 => ⟨fun hK3 => ⟨hm, ?_⟩, fun hK3 => ?_⟩⟩⟩
  · have := h4 (by rintro (k | ⟨k, _⟩ | ⟨k, _⟩) <;> simp only at k <;> omega)
    exact ⟨this.symm, fun h => by omega⟩
  · have := h0 (.inl ⟨hK, hM⟩)
    exact ⟨this.symm, fun _ => same c rfl (by omega) (by omega)⟩
  · have := h4 (by
      rintro (k | ⟨_, k⟩ | ⟨k, _⟩)
      · simp only at k; omega
      · rcases hcs with ⟨a, _⟩ | ⟨q, _, a, _⟩
        · omega
        · exact k.not a
      · simp only at k; omega)
    exact ⟨this.symm, fun h => by omega⟩
  · have hno : NoSend h j m := by
      rcases hcs with ⟨_, b⟩ | ⟨q, a, b, d⟩
      · exact b
      · omega
    have := h0 (.inr (.inl ⟨hK2, hno⟩))
    refine ⟨this.symm, fun _ => ⟨fun m' hm' => ?_, fun m' hm' p' hp' => ?_⟩⟩
    · simp only [NoSend.step hx, Sent.step hx]
      by_cases e : m = m'
      · subst e
        right
        exact ⟨p, by omega, .inr ⟨hK2, rfl, rfl⟩, by simp⟩
      · rw [Vector.getElem_setIfInBounds_ne hm' e]
        rcases hc.sender m' hm' with ⟨a, b⟩ | ⟨q, a, b, d⟩
        · exact .inl ⟨a, b, fun k => e (by have := k.2; omega)⟩
        · exact .inr ⟨q, a, .inl b, d⟩
    · rw [Took.step hx, hc.taken m' hm' p' hp']
      exact ⟨.inl, fun k => k.elim id fun k => by simp only [Event.mk.injEq] at k; omega⟩
  · have bad : ¬ kindOk h j ⟨(p : Int), K, (m : Int)⟩ → (4 : Int) = evErr h j ∧ (evErr h j = 0 → Ck h (j + 1) c) := fun hk => by
      have := h4 hk
      exact ⟨this.symm, fun h => by omega⟩
    have no : ∀ q, Sent h j m q → ¬ (q ≠ (p : Int) ∧ ¬ Took h j ⟨(p : Int), K, (m : Int)⟩) → ¬ kindOk h j ⟨(p : Int), K, (m : Int)⟩ := by
      rintro q h1 h2 (k | ⟨k, _⟩ | ⟨_, ⟨q', k1, k2⟩, k3⟩)
      · simp only at k; omega
      · simp only at k; omega
      · obtain rfl := sent_one hr h1 k1
        exact h2 ⟨k2, k3⟩
    refine ⟨fun hs => bad ?_, fun hs => ⟨hm, fun hs2 => bad ?_, fun hs2 => ⟨hm, hp, fun hs3 => bad ?_, fun hs3 => ⟨hm, hp, ?_⟩⟩⟩⟩
    · rcases hcs with ⟨_, b⟩ | ⟨q, a, b, d⟩
      · rintro (k | ⟨k, _⟩ | ⟨_, ⟨q', k1, k2⟩, k3⟩)
        · simp only at k; omega
        · simp only at k; omega
        · exact b.not k1
      · omega
    · rcases hcs with ⟨a, _⟩ | ⟨q, a, b, d⟩
      · omega
      · exact no q b fun k => k.1 (by omega)
    · rcases hcs with ⟨a, _⟩ | ⟨q, a, b, d⟩
      · omega
      · refine no q b fun k => k.2 ?_
        rw [hK3]; exact hct.1 hs3
    · have hk : kindOk h j ⟨(p : Int), K, (m : Int)⟩ := by
        rcases hcs with ⟨a, _⟩ | ⟨q, a, b, d⟩
        · omega
        · refine .inr (.inr ⟨hK3, ⟨q, b, by simp only; omega⟩, fun ht => ?_⟩)
          rw [hK3] at ht
          rw [hct.2 ht] at hs3
          cases hs3
      refine ⟨(h0 hk).symm, fun _ => ⟨fun m' hm' => ?_, fun m' hm' p' hp' => ?_⟩⟩
      · simp only [NoSend.step hx, Sent.step hx]
        rcases hc.sender m' hm' with ⟨a, b⟩ | ⟨q, a, b, d⟩
        · exact .inl ⟨a, b, fun k => by have := k.1; omega⟩
        · exact .inr ⟨q, a, .inl b, d⟩
      · rw [Took.step hx]
        simp only [Event.mk.injEq]
        by_cases e : m = m'
        · subst e
          by_cases e2 : p = p'
          · subst e2; simp [hK3]
          · rw [Vector.getElem_setIfInBounds_self, Vector.getElem_setIfInBounds_ne hp' e2, hc.taken m hm p' hp']
            exact ⟨.inl, fun k => k.elim id fun k => by omega⟩
        · rw [Vector.getElem_setIfInBounds_ne hm' e, hc.taken m' hm' p' hp']
          exact ⟨.inl, fun k => k.elim id fun k => by omega⟩
  · have := h4 (by rintro (k | ⟨k, _⟩ | ⟨k, _⟩) <;> simp only at k <;> omega)
    exact ⟨this.symm, fun h => by omega⟩
theorem Ck.zero {h : List Event} : Ck h 0 Checker.zero := by
  refine ⟨fun m hm => .inl ⟨?_, fun j y hj => by omega⟩, fun m hm p hp => ?_⟩
  · simp [Checker.zero]
  · simp [Checker.zero, Took]
theorem check_law (h : List Event) : Tot (stamp_Check h) (HistCode h) := by
  unfold stamp_Check
  rw [Tot.ite_iff]
  refine ⟨fun hc => Tot.some_iff.2 (.inl ⟨by have := of_decide_eq_true hc; omega, rfl⟩), fun hc => ?_⟩
  have hc' : h.length ≤ 60 := by have := of_decide_eq_false hc; omega
  rw [Tot.andThen_iff]
  refine Tot.rangeM (fun i c => RightTo h i ∧ Ck h i c) ⟨fun i hi => by omega, Ck.zero⟩ ?_ ?_
  · rintro i c _ hi ⟨hr, hk⟩
    have hi' : i < h.length := by omega
    have hx : h[i]? = some h[i] := by simp [hi']
    unfold stamp_Check_B0
    rw [Tot.bind_iff, Tot.lat_iff]
    refine ⟨hi', ?_⟩
    rw [Tot.bind_iff]
    refine (event_law hr hx hk).mono ?_
    rintro ⟨c', e⟩ ⟨h1, h2⟩
    simp only at h1 h2
    simp only [Tot.ite_iff, Tot.some_iff, Tot.ret_iff, Tot.go_iff, Tot.inr_iff, bne_iff_ne, ne_eq, bne_eq_false_iff_eq]
    refine ⟨fun he => .inr (.inr ⟨hc', i, hi', h1.symm, he, hr⟩), fun he => ⟨fun k hk => ?_, h2 (by omega)⟩⟩
    by_cases e' : k = i
    · subst e'; omega
    · exact hr k (by omega)
  · rintro c ⟨hr, _⟩
    rw [Nat.zero_add] at hr
    exact Tot.some_iff.2 (.inr (.inl ⟨hc', hr, rfl⟩))
end Go.Proofs.Ytclmlddmgccfjaa
