/-
  The document's rounds for what is reached.
-/
import Derived.Test.YticifbmaapnfbaaPpMatchReach
namespace Go.Proofs.Yticifbmaapnfbaa
open Enc

theorem first_eq {n m : Nat} {mate : List Int} {M : Nat → Int} (hM : LIs mate m M) : ∃ xs, rangeF (partref_Cover_B0 mate) m 0 (List.replicate m false) = some xs ∧ LIs xs m fun a => decide (M a < 0) := by
  refine Tot.rangeF (fun i z => LIs z m fun a => decide (a < i) && decide (M a < 0)) (LIs.rep.to fun a ha => by simp) ?_ (fun z hz => hz.to fun a ha => by simp [ha])
  intro i z _ hi hz
  have hi : i < m := by omega
  unfold partref_Cover_B0
  rw [hM.lat hi, Option.bind_some, hz.lat hi, Option.bind_some, Tot.let_iff, Tot.some_iff, Int.toNat_natCast]
  refine (hz.set i _).to fun a ha => ?_
  by_cases e : a = i
  · subst e; rw [upd_self]; simp
  · rw [upd_ne e]
    have : decide (a < i + 1) = decide (a < i) := by rw [Bool.eq_iff_iff, decide_eq_true_eq, decide_eq_true_eq]; omega
    rw [this]
theorem ys_eq {n m : Nat} {l : List Pair} (h : POk m n l) {xs ys : List Bool} {X Y : Nat → Bool} (hX : LIs xs m X) (hY : LIs ys n Y) : ∃ ys', rangeF (partref_Cover_B4 l xs) l.length 0 ys = some ys' ∧ LIs ys' n fun b => Y b || l.any fun p => (p.B == (b : Int)) && X p.A.toNat := by
  refine Tot.rangeF (fun i z => LIs z n fun b => Y b || (l.take i).any fun p => (p.B == (b : Int)) && X p.A.toNat) (hY.to fun b hb => by simp) ?_ (fun z hz => by rwa [Nat.zero_add, List.take_length] at hz)
  intro i z _ hi hz
  have hi : i < l.length := by omega
  have hx : l[i]? = some l[i] := by simp [hi]
  have hok := h.ok l[i] (List.mem_of_getElem? hx)
  generalize l[i] = x at hx hok
  obtain ⟨a, ha⟩ := int_nat hok.1.1
  obtain ⟨b, hb⟩ := int_nat hok.2.1
  have ham : a < m := by omega
  have hbn : b < n := by omega
  unfold partref_Cover_B4
  rw [lat_nat, hx, Option.bind_some, ha, hb, hz.lat hbn, Option.bind_some, hX.lat ham, Option.bind_some, or_some, Option.bind_some, Option.bind_some, Tot.let_iff, Tot.some_iff, Int.toNat_natCast]
  refine (hz.set b _).to fun c hc => ?_
  rw [List.take_add_one, hx, List.any_append]
  by_cases e : c = b
  · subst e; rw [upd_self]; simp [ha, hb, Bool.or_assoc]
  · rw [upd_ne e]
    have : (x.B == (c : Int)) = false := by rw [hb]; simp; omega
    simp [this]
theorem back_eq {n m : Nat} {mate : List Int} {M : Nat → Int} (hM : LIs mate m M) (hr : ∀ a, a < m → -1 ≤ M a ∧ M a < n) {xs ys : List Bool} {X Y : Nat → Bool} (hX : LIs xs m X) (hY : LIs ys n Y) : ∃ xs', rangeF (partref_Cover_B6 mate ys) m 0 xs = some xs' ∧ LIs xs' m fun a => X a || (decide (M a ≥ 0) && Y (M a).toNat) := by
  refine Tot.rangeF (fun i z => LIs z m fun a => X a || (decide (a < i) && (decide (M a ≥ 0) && Y (M a).toNat))) (hX.to fun a ha => by simp) ?_ (fun z hz => hz.to fun a ha => by simp [ha])
  intro i z _ hi hz
  have hi : i < m := by omega
  have fin : ∀ v : Bool, v = (X i || (decide (M i ≥ 0) && Y (M i).toNat)) → LIs (z.set i v) m fun a => X a || (decide (a < i + 1) && (decide (M a ≥ 0) && Y (M a).toNat)) := fun v hv => (hz.set i v).to fun a ha => by
    by_cases e : a = i
    · subst e; rw [upd_self, hv]; simp
    · rw [upd_ne e]
      have : decide (a < i + 1) = decide (a < i) := by rw [Bool.eq_iff_iff, decide_eq_true_eq, decide_eq_true_eq]; omega
      rw [this]
  have h0 : (X i || (decide (i < i) && (decide (M i ≥ 0) && Y (M i).toNat))) = X i := by simp
  unfold partref_Cover_B6
  rw [hM.lat hi, Option.bind_some, hz.lat hi, Option.bind_some]
  simp only [h0, Option.bind_some, Let, Int.toNat_natCast]
  cases hx : X i
  · simp only [cond_false]
    by_cases hm : M i ≥ 0
    · obtain ⟨b, hb⟩ := int_nat hm
      have hbn : b < n := by have := hr i hi; omega
      rw [decide_eq_true hm, cond_true, hb, hY.lat hbn, Option.bind_some, Option.bind_some, Tot.some_iff]
      refine fin _ ?_
      rw [hx, Bool.false_or, decide_eq_true hm, Bool.true_and, hb, Int.toNat_natCast]
    · rw [decide_eq_false hm, cond_false, Option.bind_some, Tot.some_iff]
      refine fin _ ?_
      rw [hx, decide_eq_false hm]; rfl
  · simp only [cond_true]
    rw [Tot.some_iff]
    exact fin _ (by rw [hx]; rfl)
def ry (l : List Pair) (X Y : Nat → Bool) (b : Nat) : Bool := Y b || l.any fun p => (p.B == (b : Int)) && X p.A.toNat
def rx (M : Nat → Int) (X Y : Nat → Bool) (a : Nat) : Bool := X a || (decide (M a ≥ 0) && Y (M a).toNat)
structure Fix (n m : Nat) (l : List Pair) (M : Nat → Int) (X Y : Nat → Bool) : Prop where
  y : ∀ b, b < n → ry l X Y b = Y b
  x : ∀ a, a < m → rx M X Y a = X a
theorem rounds_law {n m : Nat} {l : List Pair} (h : POk m n l) {mate : List Int} {M : Nat → Int} (hM : LIs mate m M) (hr : ∀ a, a < m → -1 ≤ M a ∧ M a < n) {xs : List Bool} (hxs : LIs xs m fun a => decide (M a < 0)) :
    ∃ ys' xs' X Y, rangeF (partref_Cover_B2 l mate) (m + n + 1) 0 (List.replicate n false, xs) = some (ys', xs') ∧ LIs xs' m X ∧ LIs ys' n Y ∧ (∀ a, a < m → (X a = true ↔ RA n m l M a)) ∧ ∀ b, b < n → (Y b = true ↔ RB n m l M b) := by
  have hcl := reach_closed n m l M
  have key : Tot (rangeF (partref_Cover_B2 l mate) (m + n + 1) 0 (List.replicate n false, xs)) fun z => ∃ X Y, LIs z.2 m X ∧ LIs z.1 n Y ∧ (∀ a, a < m → M a < 0 → X a = true) ∧ SoundAt n m (RA n m l M) (RB n m l M) X Y ∧ Fix n m l M X Y := by
    refine Tot.rangeF (fun i z => ∃ X Y, LIs z.2 m X ∧ LIs z.1 n Y ∧ (∀ a, a < m → M a < 0 → X a = true) ∧ SoundAt n m (RA n m l M) (RB n m l M) X Y ∧ (Fix n m l M X Y ∨ uns m X + uns n Y + i ≤ m + n)) ⟨_, fun _ => false, hxs, LIs.rep, fun a _ q => decide_eq_true q, ⟨fun a ha q => hcl.root a ha (of_decide_eq_true q), fun b _ q => by cases q⟩, .inr (by have := uns_le (fun a => decide (M a < 0)) m; have := uns_le (fun _ => false) n; omega)⟩ ?_ ?_
    · rintro i ⟨ys, xs⟩ _ _ ⟨X, Y, h1, h2, h3, h4, h5⟩
      simp only at h1 h2
      obtain ⟨ys', e1, e2⟩ := ys_eq h h1 h2
      obtain ⟨xs', f1, f2⟩ := back_eq hM hr h1 e2
      have e2 : LIs ys' n (ry l X Y) := e2
      have f2 : LIs xs' m (rx M X (ry l X Y)) := f2
      unfold partref_Cover_B2
      simp only [e1, Option.bind_some, hM.1, f1]
      rw [Tot.some_iff]
      have my : ∀ b, Y b = true → ry l X Y b = true := fun b q => by unfold ry; rw [q, Bool.true_or]
      have mx : ∀ a, X a = true → rx M X (ry l X Y) a = true := fun a q => by unfold rx; rw [q, Bool.true_or]
      have sy : ∀ b, b < n → ry l X Y b = true → RB n m l M b := fun b hb q => by
        unfold ry at q
        rw [Bool.or_eq_true] at q
        rcases q with q | q
        · exact h4.2 b hb q
        · obtain ⟨p, hp, q⟩ := List.any_eq_true.1 q
          rw [Bool.and_eq_true, beq_iff_eq] at q
          have hok := h.ok p hp
          obtain ⟨a, ha⟩ := int_nat hok.1.1
          have ham : a < m := by omega
          rw [ha, Int.toNat_natCast] at q
          refine hcl.edge a b ham hb ?_ (h4.1 a ham q.2)
          rw [List.contains_iff_mem]
          have : p = ⟨(a : Int), (b : Int)⟩ := by cases p; simp only at ha q; rw [ha, q.1]
          rwa [this] at hp
      have sx : ∀ a, a < m → rx M X (ry l X Y) a = true → RA n m l M a := fun a ha q => by
        unfold rx at q
        rw [Bool.or_eq_true] at q
        rcases q with q | q
        · exact h4.1 a ha q
        · rw [Bool.and_eq_true, decide_eq_true_eq] at q
          obtain ⟨b, hb⟩ := int_nat q.1
          have hbn : b < n := by have := hr a ha; omega
          rw [hb, Int.toNat_natCast] at q
          exact hcl.back a b ha hbn hb (sy b hbn q.2)
      have stay : Fix n m l M X Y → ∃ X' Y', LIs xs' m X' ∧ LIs ys' n Y' ∧ (∀ a, a < m → M a < 0 → X' a = true) ∧ SoundAt n m (RA n m l M) (RB n m l M) X' Y' ∧ (Fix n m l M X' Y' ∨ uns m X' + uns n Y' + (i + 1) ≤ m + n) := fun hF => by
        refine ⟨X, Y, f2.to fun a ha => ?_, e2.to hF.y, h3, h4, .inl hF⟩
        have := hF.x a ha
        unfold rx at this ⊢
        by_cases hm : M a ≥ 0
        · have hbn : (M a).toNat < n := by have := hr a ha; omega
          rw [hF.y _ hbn]; exact this
        · rw [decide_eq_false hm] at this ⊢; exact this
      rcases h5 with hF | hu
      · exact stay hF
      · by_cases c1 : ∃ b, b < n ∧ Y b = false ∧ ry l X Y b = true
        · obtain ⟨b, hb, b1, b2⟩ := c1
          have := uns_lt my b1 b2 n hb
          have := uns_mono mx m
          exact ⟨_, _, f2, e2, fun a ha q => mx a (h3 a ha q), ⟨sx, sy⟩, .inr (by omega)⟩
        · by_cases c2 : ∃ a, a < m ∧ X a = false ∧ rx M X (ry l X Y) a = true
          · obtain ⟨a, ha, a1, a2⟩ := c2
            have := uns_lt mx a1 a2 m ha
            have := uns_mono my n
            exact ⟨_, _, f2, e2, fun a ha q => mx a (h3 a ha q), ⟨sx, sy⟩, .inr (by omega)⟩
          · have hy : ∀ b, b < n → ry l X Y b = Y b := fun b hb => by
              cases q : Y b
              · cases q2 : ry l X Y b
                · rfl
                · exact absurd ⟨b, hb, q, q2⟩ c1
              · exact my b q
            refine stay ⟨hy, fun a ha => ?_⟩
            have hx : rx M X (ry l X Y) a = X a := by
              cases q : X a
              · cases q2 : rx M X (ry l X Y) a
                · rfl
                · exact absurd ⟨a, ha, q, q2⟩ c2
              · exact mx a q
            unfold rx at hx ⊢
            by_cases hm : M a ≥ 0
            · have hbn : (M a).toNat < n := by have := hr a ha; omega
              rw [hy _ hbn] at hx; exact hx
            · rw [decide_eq_false hm] at hx ⊢; exact hx
    · rintro z ⟨X, Y, h1, h2, h3, h4, h5⟩
      exact ⟨X, Y, h1, h2, h3, h4, h5.resolve_right (by omega)⟩
  obtain ⟨⟨ys', xs'⟩, e, X, Y, h1, h2, h3, h4, h5⟩ := key
  have hC : Closed n m l M (fun a => X a = true) (fun b => Y b = true) := by
    refine ⟨h3, fun a b ha hb hlb hx => ?_, fun a b ha hb hab hy => ?_⟩
    · show Y b = true
      rw [← h5.y b hb]
      unfold ry
      rw [Bool.or_eq_true]
      refine .inr (List.any_eq_true.2 ⟨⟨(a : Int), (b : Int)⟩, List.contains_iff_mem.1 hlb, ?_⟩)
      simp [hx]
    · show X a = true
      rw [← h5.x a ha]
      unfold rx
      rw [hab, Int.toNat_natCast, hy]
      simp
  refine ⟨ys', xs', X, Y, e, h1, h2, fun a ha => ⟨h4.1 a ha, fun q => ?_⟩, fun b hb => ⟨h4.2 b hb, fun q => ?_⟩⟩
  · exact q _ _ hC
  · exact q _ _ hC
end Go.Proofs.Yticifbmaapnfbaa
