/-
  Augmenting searches: the code's (partners of the right nodes) and the document's (mates of the left nodes) go hand in hand.
-/
import Derived.Test.YticifbmaapnfbaaPpLib
namespace Go.Proofs.Yticifbmaapnfbaa
open Enc

/-- Two loops, step by step beside one another. -/
theorem rangeM_two {σ σ' τ τ' : Type} {f : Nat → σ → Option (Ctl σ τ)} {g : Nat → σ' → Option (Ctl σ' τ')} (R : Nat → σ → σ' → Prop) (Q : τ → τ' → Prop) : ∀ (k i : Nat) (s : σ) (t : σ'), R i s t →
    (∀ j s t, i ≤ j → j < i + k → R j s t → (∃ s' t', f j s = some (.go s') ∧ g j t = some (.go t') ∧ R (j + 1) s' t') ∨ ∃ x y, f j s = some (.ret x) ∧ g j t = some (.ret y) ∧ Q x y) →
    (∃ s' t', rangeM f k i s = some (.inl s') ∧ rangeM g k i t = some (.inl t') ∧ R (i + k) s' t') ∨ ∃ x y, rangeM f k i s = some (.inr x) ∧ rangeM g k i t = some (.inr y) ∧ Q x y
  | 0, i, s, t, h, _ => .inl ⟨s, t, rfl, rfl, h⟩
  | k + 1, i, s, t, h, hb => by
    rcases hb i s t (Nat.le_refl _) (by omega) h with ⟨s', t', h1, h2, h3⟩ | ⟨x, y, h1, h2, h3⟩
    · have := rangeM_two R Q k (i + 1) s' t' h3 fun j s t a b c => hb j s t (by omega) (by omega) c
      rw [show i + 1 + k = i + (k + 1) by omega] at this
      unfold rangeM
      rw [h1, h2]
      exact this
    · refine .inr ⟨x, y, ?_, ?_, h3⟩
      · unfold rangeM; rw [h1]; rfl
      · unfold rangeM; rw [h2]; rfl
/-! ### How many are not seen -/
def uns : Nat → (Nat → Bool) → Nat
  | 0, _ => 0
  | n + 1, S => uns n S + (if S n then 0 else 1)
theorem uns_mono {S S' : Nat → Bool} (h : ∀ b, S b = true → S' b = true) : ∀ n, uns n S' ≤ uns n S
  | 0 => Nat.le_refl _
  | n + 1 => by
    have := uns_mono h n
    unfold uns
    by_cases e : S n = true
    · rw [h n e, e]; simpa using this
    · split <;> simp [e] <;> omega
theorem uns_lt {S S' : Nat → Bool} (h : ∀ b, S b = true → S' b = true) {b : Nat} (h0 : S b = false) (h1 : S' b = true) : ∀ n, b < n → uns n S' < uns n S
  | 0, hb => by omega
  | n + 1, hb => by
    unfold uns
    by_cases e : b = n
    · subst e
      have := uns_mono h b
      rw [h0, h1]; simp; omega
    · have := uns_lt h h0 h1 n (by omega)
      by_cases q : S n = true
      · rw [h n q, q]; simpa using this
      · split <;> simp [q] <;> omega
theorem uns_le (S : Nat → Bool) : ∀ n, uns n S ≤ n
  | 0 => Nat.le_refl _
  | n + 1 => by have := uns_le S n; unfold uns; split <;> omega
/-! ### Partners and mates -/
structure Coh (n m : Nat) (L M : Nat → Int) (ex : Int) : Prop where
  lr : ∀ b, b < n → -1 ≤ L b ∧ L b < m
  mr : ∀ a, a < m → -1 ≤ M a ∧ M a < n
  iff : ∀ b a, b < n → a < m → (b : Int) ≠ ex → (L b = (a : Int) ↔ M a = (b : Int))
structure Post (n m a : Nat) (S : Nat → Bool) (L M L' M' : Nat → Int) : Prop where
  coh : Coh n m L' M' (M a)
  new : ∃ b, b < n ∧ M' a = (b : Int) ∧ S b = false
  kept : ∀ b, b < n → S b = true → L' b = L b
  mkept : ∀ x, x < m → x ≠ a → (M x = -1 ∨ ∃ b, b < n ∧ M x = (b : Int) ∧ S b = true) → M' x = M x
  noold : ∀ x, x < m → M a ≠ -1 → M' x ≠ M a
/-- A free partner is taken. -/
theorem Post.free {n m a b : Nat} {S : Nat → Bool} {L M : Nat → Int} (h : Coh n m L M (-1)) (ha : a < m) (hb : b < n) (hs : S b = false) (hf : L b < 0) : Post n m a S L M (upd L b (a : Int)) (upd M a (b : Int)) := by
  have nob : ∀ x, x < m → M x ≠ (b : Int) := fun x hx e => by
    have := (h.iff b x hb hx (by omega)).2 e
    omega
  refine ⟨⟨fun c hc => ?_, fun x hx => ?_, fun c x hc hx hne => ?_⟩, ⟨b, hb, upd_self, hs⟩, fun c hc hsc => ?_, fun x hx hxa _ => upd_ne hxa, fun x hx hm => ?_⟩
  · by_cases e : c = b
    · subst e; rw [upd_self]; omega
    · rw [upd_ne e]; exact h.lr c hc
  · by_cases e : x = a
    · subst e; rw [upd_self]; omega
    · rw [upd_ne e]; exact h.mr x hx
  · by_cases e : c = b
    · subst e
      rw [upd_self]
      by_cases q : x = a
      · subst q; rw [upd_self]; simp
      · rw [upd_ne q]
        exact ⟨fun k => absurd (Int.ofNat.inj k).symm q, fun k => absurd k (nob x hx)⟩
    · rw [upd_ne e]
      by_cases q : x = a
      · subst q
        rw [upd_self]
        refine ⟨fun k => absurd ((h.iff c x hc hx (by omega)).1 k) (fun k' => hne k'.symm), fun k => absurd (Int.ofNat.inj k).symm e⟩
      · rw [upd_ne q]; exact h.iff c x hc hx (by omega)
  · have : c ≠ b := fun e => by subst e; rw [hs] at hsc; cases hsc
    rw [upd_ne this]
  · by_cases q : x = a
    · subst q; rw [upd_self]; exact fun k => nob x hx k.symm
    · rw [upd_ne q]
      intro k
      have hr := h.mr a ha
      obtain ⟨c, hc⟩ := int_nat (x := M a) (by omega)
      have hcn : c < n := by omega
      have k1 := (h.iff c x hcn hx (by omega)).2 (k.trans hc)
      have k2 := (h.iff c a hcn ha (by omega)).2 hc
      rw [k1] at k2
      exact q (Int.ofNat.inj k2)
/-- The partner of another is taken, who has found a new one. -/
theorem Post.step {n m a b a' : Nat} {S S1 : Nat → Bool} {L M L' M' : Nat → Int} (h : Coh n m L M (-1)) (ha : a < m) (hb : b < n) (ha' : a' < m) (hs : S b = false) (hs1 : S1 b = true) (hm : ∀ c, S c = true → S1 c = true) (hL : L b = (a' : Int)) (hpre : M a = -1 ∨ ∃ c, c < n ∧ M a = (c : Int) ∧ S c = true)
    (hp : Post n m a' S1 L M L' M') : Post n m a S L M (upd L' b (a : Int)) (upd M' a (b : Int)) := by
  have hMa' : M a' = (b : Int) := (h.iff b a' hb ha' (by omega)).1 hL
  have hne : a ≠ a' := fun e => by
    subst e
    rcases hpre with q | ⟨c, hc, q, hsc⟩
    · omega
    · have : c = b := by omega
      subst this; rw [hs] at hsc; cases hsc
  have hMa : M' a = M a := hp.mkept a ha hne (hpre.imp_right fun ⟨c, h1, h2, h3⟩ => ⟨c, h1, h2, hm c h3⟩)
  have nob : ∀ x, x < m → M' x ≠ (b : Int) := fun x hx e => hp.noold x hx (by omega) (e.trans hMa'.symm)
  refine ⟨⟨fun c hc => ?_, fun x hx => ?_, fun c x hc hx hne' => ?_⟩, ⟨b, hb, upd_self, hs⟩, fun c hc hsc => ?_, fun x hx hxa hq => ?_, fun x hx hma => ?_⟩
  · by_cases e : c = b
    · subst e; rw [upd_self]; omega
    · rw [upd_ne e]; exact hp.coh.lr c hc
  · by_cases e : x = a
    · subst e; rw [upd_self]; omega
    · rw [upd_ne e]; exact hp.coh.mr x hx
  · by_cases e : c = b
    · subst e
      rw [upd_self]
      by_cases q : x = a
      · subst q; rw [upd_self]; simp
      · rw [upd_ne q]
        exact ⟨fun k => absurd (Int.ofNat.inj k).symm q, fun k => absurd k (nob x hx)⟩
    · have hi := hp.coh.iff c x hc hx (by rw [hMa']; omega)
      rw [upd_ne e]
      by_cases q : x = a
      · subst q
        rw [upd_self]
        refine ⟨fun k => absurd (hi.1 k) (fun k' => hne' (by rw [← hMa, k'])), fun k => absurd (Int.ofNat.inj k).symm e⟩
      · rw [upd_ne q]; exact hi
  · have : c ≠ b := fun e => by subst e; rw [hs] at hsc; cases hsc
    rw [upd_ne this]; exact hp.kept c hc (hm c hsc)
  · rw [upd_ne hxa]
    by_cases q : x = a'
    · subst q
      rcases hq with q | ⟨c, hc, q, hsc⟩
      · omega
      · have : c = b := by omega
        subst this; rw [hs] at hsc; cases hsc
    · exact hp.mkept x hx q (hq.imp_right fun ⟨c, h1, h2, h3⟩ => ⟨c, h1, h2, hm c h3⟩)
  · rcases hpre with q | ⟨c, hc, q, hsc⟩
    · exact absurd q hma
    · have hcb : c ≠ b := fun e => by subst e; rw [hs] at hsc; cases hsc
      by_cases e : x = a
      · subst e; rw [upd_self, q]; omega
      · rw [upd_ne e, q]
        intro k
        have k1 := (hp.coh.iff c x hc hx (by rw [hMa']; omega)).2 k
        rw [hp.kept c hc (hm c hsc), (h.iff c a hc ha (by omega)).2 q] at k1
        exact e (Int.ofNat.inj k1).symm
theorem Post.weak {n m a : Nat} {S S1 : Nat → Bool} {L M L' M' : Nat → Int} (hm : ∀ c, S c = true → S1 c = true) (h : Post n m a S1 L M L' M') : Post n m a S L M L' M' := by
  refine ⟨h.coh, ?_, fun b hb hs => h.kept b hb (hm b hs), fun x hx hxa hq => h.mkept x hx hxa (hq.imp_right fun ⟨c, h1, h2, h3⟩ => ⟨c, h1, h2, hm c h3⟩), h.noold⟩
  obtain ⟨b, h1, h2, h3⟩ := h.new
  refine ⟨b, h1, h2, ?_⟩
  cases q : S b
  · rfl
  · rw [hm b q] at h3; cases h3
theorem upTo_nat {n : Nat} (h : n ≤ 1000) : upTo (n : Int) = some n := by
  unfold upTo
  first | (rw [if_pos (by omega)]; simp) | simp <;> omega
theorem upd_true {S : Nat → Bool} {b : Nat} : ∀ c, S c = true → upd S b true c = true := fun c h => by
  by_cases e : c = b
  · subst e; exact upd_self
  · rw [upd_ne e]; exact h
theorem search_sim {n m : Nat} {l : List Pair} {may : List (List Bool)} (hn : n ≤ 1000) (hmay : ∀ a, a < m → ∃ row, may[a]? = some row ∧ LIs row n fun b => l.contains ⟨(a : Int), (b : Int)⟩) : ∀ (fu a : Nat) (left : List Int) (seen : List Bool) (mate : List Int) (L : Nat → Int) (S : Nat → Bool) (M : Nat → Int),
    a < m → LIs left n L → LIs seen n S → LIs mate m M → Coh n m L M (-1) → uns n S < fu → (M a = -1 ∨ ∃ b, b < n ∧ M a = (b : Int) ∧ S b = true) →
    ∃ left' seen' mate' ok S', match_graph_search fu ⟨may, left, seen⟩ (a : Int) = some (left', seen', ⟨may, left', seen'⟩, ok) ∧ partref_Most_2 fu (a : Int) seen (n : Int) l mate = some (seen', mate', ok) ∧ LIs seen' n S' ∧ (∀ b, S b = true → S' b = true) ∧
      (ok = false → left' = left ∧ mate' = mate) ∧ (ok = true → ∃ L' M', LIs left' n L' ∧ LIs mate' m M' ∧ Post n m a S L M L' M') := by
  intro fu
  induction fu with
  | zero => intro a left seen mate L S M _ _ _ _ _ hu; omega
  | succ fu ih =>
    intro a left seen mate L S M ha hL hS hM hc hu hpre
    obtain ⟨row, hr1, hr2⟩ := hmay a ha
    have hloop := rangeM_two (f := match_graph_search_B0 ⟨may, left, seen⟩ (a : Int) row (match_graph_search fu)) (g := partref_Most_2_B0 (a : Int) (n : Int) l (partref_Most_2 fu))
      (fun _ (s : Graph × List Int × List Bool) (t : List Bool × List Int) => s.2.1 = left ∧ s.2.2 = t.1 ∧ t.2 = mate ∧ ∃ S', LIs t.1 n S' ∧ ∀ b, S b = true → S' b = true)
      (fun x y => ∃ left' seen' mate' S' L' M', x = (left', seen', (⟨may, left', seen'⟩ : Graph), true) ∧ y = (seen', mate', true) ∧ LIs seen' n S' ∧ (∀ b, S b = true → S' b = true) ∧ LIs left' n L' ∧ LIs mate' m M' ∧ Post n m a S L M L' M')
      n 0 (⟨may, left, seen⟩, left, seen) (seen, mate) ⟨rfl, rfl, rfl, S, hS, fun _ h => h⟩ (by
        rintro j ⟨g1, l1, s1⟩ ⟨t1, m1⟩ _ hj ⟨e1, e2, e3, S1, hS1, hm1⟩
        simp only at e1 e2 e3 hS1
        subst e1 e2 e3
        have hj : j < n := by omega
        have c1 : lat row (j : Int) = some (l.contains ⟨(a : Int), (j : Int)⟩) := hr2.lat hj
        have c2 : partref_Most_1 (a : Int) (j : Int) l = some (l.contains ⟨(a : Int), (j : Int)⟩) := by
          unfold partref_Most_1; rw [eq_slices_Contains_api_Pair_api_Pair]; rfl
        have c3 : lat s1 (j : Int) = some (S1 j) := hS1.lat hj
        unfold match_graph_search_B0 partref_Most_2_B0
        simp only [c1, c2, c3, Option.bind_some, or_some, eq_slices_Index_int_int]
        cases hb : !l.contains ⟨(a : Int), (j : Int)⟩ || S1 j
        · have hs1 : S1 j = false := by
            cases q : S1 j
            · rfl
            · rw [q, Bool.or_true] at hb; cases hb
          have hs0 : S j = false := by
            cases q : S j
            · rfl
            · rw [hm1 j q] at hs1; cases hs1
          have hS2 : LIs (s1.set j true) n (upd S1 j true) := hS1.set j true
          have hm2 : ∀ c, S c = true → upd S1 j true c = true := fun c h => upd_true c (hm1 c h)
          simp only [cond_false, Let, Int.toNat_natCast, hL.lat hj, Option.bind_some]
          by_cases hf : L j < 0
          · have hi : idxI ((j : Int) == ·) m1 < 0 := idxI_lt.2 fun x hx => by
              obtain ⟨i, hi, rfl⟩ := hM.mem_iff.1 hx
              have : M i ≠ (j : Int) := fun e => by
                have := (hc.iff j i hj hi (by omega)).2 e; omega
              simpa using fun e => this e.symm
            have e1 : decide (L j < 0) = true := decide_eq_true hf
            have e2 : decide (idxI ((j : Int) == ·) m1 ≥ 0) = false := decide_eq_false (by omega)
            rw [e1, e2]
            simp only [cond_true, cond_false, Option.bind_some, hM.lat ha]
            refine .inr ⟨_, _, rfl, rfl, l1.set j (a : Int), s1.set j true, m1.set a (j : Int), upd S1 j true, _, _, rfl, rfl, hS2, hm2, hL.set j _, hM.set a _, Post.free hc ha hj hs0 hf⟩
          · obtain ⟨a', ha'⟩ := int_nat (x := L j) (by omega)
            have ham : a' < m := by have := hc.lr j hj; omega
            have hMa : M a' = (j : Int) := (hc.iff j a' hj ham (by omega)).1 ha'
            have hi : idxI ((j : Int) == ·) m1 = (a' : Int) := idxI_some.2 ⟨M a', hM.2 a' ham, by simp [hMa], fun i y hi hy => by
              have him : i < m := by omega
              rw [hM.2 i him] at hy
              have hy := Option.some.inj hy
              have : M i ≠ (j : Int) := fun e => by
                have := (hc.iff j i hj him (by omega)).2 e; omega
              rw [← hy]; simpa using fun e => this e.symm⟩
            have e1 : decide (L j < 0) = false := decide_eq_false hf
            have e2 : decide (idxI ((j : Int) == ·) m1 ≥ 0) = true := decide_eq_true (by omega)
            have hu2 : uns n (upd S1 j true) < fu := by
              have := uns_lt hm2 hs0 (upd_self (f := S1) (i := j) (x := true)) n hj
              omega
            obtain ⟨left', seen', mate', ok, S', q1, q2, q3, q4, q5, q6⟩ := ih a' l1 (s1.set j true) m1 L (upd S1 j true) M ham hL hS2 hM hc hu2 (.inr ⟨j, hj, hMa, upd_self⟩)
            rw [e1, e2, hi, ha']
            simp only [cond_true, cond_false, Option.bind_some, q1, q2]
            cases ok
            · obtain ⟨rfl, rfl⟩ := q5 rfl
              exact .inl ⟨_, _, rfl, rfl, rfl, rfl, rfl, S', q3, fun b h => q4 b (hm2 b h)⟩
            · obtain ⟨L', M', p1, p2, p3⟩ := q6 rfl
              have hne : M' a' ≠ (j : Int) := by
                obtain ⟨b, b1, b2, b3⟩ := p3.new
                intro e
                have : b = j := by omega
                subst this
                rw [upd_self] at b3; cases b3
              have e3 : (M' a' == (j : Int)) = false := by simpa using hne
              simp only [cond_true, cond_false, Bool.not_true, Option.bind_some, p1.lat hj, p2.lat ham, p2.lat ha, e3]
              exact .inr ⟨_, _, rfl, rfl, left'.set j (a : Int), seen', mate'.set a (j : Int), S', _, _, rfl, rfl, q3, fun b h => q4 b (hm2 b h), p1.set j _, p2.set a _, Post.step hc ha hj ham hs0 upd_self hm2 ha' hpre p3⟩
        · exact .inl ⟨_, _, rfl, rfl, rfl, rfl, rfl, S1, hS1, hm1⟩)
    show ∃ left' seen' mate' ok S', match_graph_search_R (match_graph_search fu) ⟨may, left, seen⟩ (a : Int) = some (left', seen', ⟨may, left', seen'⟩, ok) ∧ partref_Most_2_R (partref_Most_2 fu) (a : Int) seen (n : Int) l mate = some (seen', mate', ok) ∧ _
    unfold match_graph_search_R partref_Most_2_R
    rw [upTo_nat hn, Option.bind_some]
    simp only [lat_nat, hr1, Option.bind_some, hr2.1]
    rcases hloop with ⟨⟨g1, l1, s1⟩, ⟨t1, m1⟩, e1, e2, e3, e4, e5, S', h1, h2⟩ | ⟨x, y, e1, e2, left', seen', mate', S', L', M', rfl, rfl, h1, h2, h3, h4, h5⟩
    · simp only at e3 e4 e5 h1
      subst e3 e4 e5
      rw [e1, e2]
      exact ⟨_, _, _, false, S', rfl, rfl, h1, h2, fun _ => ⟨rfl, rfl⟩, fun h => by cases h⟩
    · rw [e1, e2]
      exact ⟨_, _, _, true, S', rfl, rfl, h1, h2, fun h => (by cases h), fun _ => ⟨L', M', h3, h4, h5⟩⟩
end Go.Proofs.Yticifbmaapnfbaa
