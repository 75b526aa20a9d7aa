/-
  CutSays: the plain law.
-/
import Derived.Test.YtclmlddmgccfjaaCsCuts
namespace Go.Proofs.Ytclmlddmgccfjaa
open Enc

theorem Grown.cut {h : List Event} {c d : Vector Int 6} (hd : Below h d (Grown h c)) : IsCut h d := fun p hp => ⟨(hd p hp).lo, (hd p hp).hi⟩
theorem grow_law {h : List Event} {c : Vector Int 6} (hk : CutCode h c 0) : Tot (cut_Grow h c) fun r => r.2 = 0 ∧ Below h r.1 (Grown h c) := by
  obtain ⟨hr, hc⟩ := hk.ok
  unfold cut_Grow
  rw [Tot.bind_iff]
  refine (cutcheck_law h c).mono fun e he => ?_
  obtain rfl := he.one hk
  rw [bne_self_eq_false, cond_false, Tot.bind_iff]
  refine (table_law hr).mono fun l hl => ?_
  rw [Tot.let_iff, Tot.bind_iff]
  exact (grown_law hr hl hc).mono fun d hd => Tot.some_iff.2 ⟨rfl, hd⟩
theorem grow_bad {h : List Event} {c : Vector Int 6} {e : Int} (hk : CutCode h c e) (h0 : e ≠ 0) : cut_Grow h c = some (Vector.replicate 6 0, e) := by
  refine Tot.eq ?_
  unfold cut_Grow
  rw [Tot.bind_iff]
  refine (cutcheck_law h c).mono fun e' he => ?_
  obtain rfl := he.one hk
  rw [show (e' != 0) = true by simpa using h0]
  exact Tot.some_iff.2 rfl

/-! ### Shrink -/
theorem shrunk_iff {h : List Event} {c v : Vector Int 6} {i : Nat} (hr : Right h) (hc : IsCut h c) (hi : i < h.length) (hv : Below h v fun k => Hbe h k i) : LeV v c ↔ Shrunk h c i := by
  constructor
  · intro h1 j hj
    have hjl : j < h.length := by
      rcases hj with rfl | hj
      · exact hi
      · exact Nat.lt_trans hj.lt hj.in
    have hx : h[j]? = some h[j] := by simp [hjl]
    obtain ⟨r1, r2, _, _⟩ := hr.2.range hjl hx
    obtain ⟨p, hp⟩ := int_nat r1
    have hp6 : p < 6 := by omega
    have := ((hv p hp6).iff j _ hx hp).1 hj
    have := h1 p hp6
    exact (inC_iff hx hp6 hp).2 (by omega)
  · intro h1 p hp
    refine (hv p hp).le (hc.below p hp) fun j x hx e hj => h1 j hj
theorem shrink_row {h : List Event} {l : Vector (List (Vector Int 6)) 6} {c : Vector Int 6} {fu p : Nat} {z : Vector Int 6} (hr : Right h) (hl : VTab h h.length l) (hc : IsCut h c) (hp : p < 6) (hfu : 100 ≤ fu) (hz : z[p] = 0) :
    Tot (cut_Shrink_B0 fu c l p z) fun w => (∀ (q : Nat) (hq : q < 6), q ≠ p → w[q] = z[q]) ∧ BelowAt h p w[p] (Shrunk h c) := by
  have hlen := hr.1
  have hle := cntP_le' (h := h) (p := (p : Int)) (j := h.length)
  obtain ⟨c1, c2⟩ := hc p hp
  unfold cut_Shrink_B0
  rw [vat_lt _ hp, Option.bind_some, Tot.andThen_iff]
  refine Tot.whileM (fun s : Vector Int 6 => (∀ (q : Nat) (hq : q < 6), q ≠ p → s[q] = z[q]) ∧ 0 ≤ s[p] ∧ s[p] ≤ c[p] ∧ ∀ (i : Nat) (x : Event), h[i]? = some x → x.Proc = p → (cntP h p (i + 1) : Int) ≤ s[p] → Shrunk h c i) (fun s : Vector Int 6 => (c[p] - s[p]).toNat) ⟨fun _ _ _ => rfl, by omega, by omega, fun i x hx e k => ?_⟩ (by omega) ?_
  · have := cntP_pos hx
    rw [e] at this; omega
  · rintro s ⟨h1, h2, h3, h4⟩
    unfold cut_Shrink_B2
    simp only [vat_lt _ hp, Option.bind_some]
    have fin : ∀ (k : ¬ (s[p] < c[p]) ∨ ∃ (m : Nat) (x : Event), h[m]? = some x ∧ x.Proc = p ∧ (cntP h p (m + 1) : Int) = s[p] + 1 ∧ ¬ Shrunk h c m), BelowAt h p s[p] (Shrunk h c) := by
      intro k
      refine ⟨h2, by omega, fun i x hx e => ⟨fun hs => ?_, fun hs => h4 i x hx e hs⟩⟩
      rcases Int.lt_or_le s[p] (cntP h p (i + 1) : Int) with hlt | hlt
      · rcases k with k | ⟨m, y, hy, ey, hm, hn⟩
        · have := (inC_iff hx hp e).1 (hs i (.inl rfl))
          omega
        · refine absurd (fun j hj => ?_) hn
          refine hs j (hj.trans (same_hbe ?_ hy hx (by omega)))
          refine (cntP_le_iff hy hx (by omega)).1 ?_
          rw [e]; omega
      · exact hlt
    rw [Tot.bind_iff, Tot.ite_iff]
    refine ⟨fun k => ?_, fun k => ?_⟩
    · have k : s[p] < c[p] := by simpa using k
      obtain ⟨m, x, hm, hx, hxp, hcm⟩ := cntP_surj (h := h) (p := (p : Int)) (n := s[p].toNat + 1) (by omega) h.length (by omega)
      obtain ⟨v, hv, hb⟩ := hl.get p hp m x hm hx hxp
      have e1 : s[p] = ((cntP h p (m + 1) - 1 : Nat) : Int) := by omega
      have e2 : lat l[p] s[p] = some v := by rw [e1, lat_nat]; exact hv
      rw [e2, Option.bind_some, Tot.bind_iff]
      refine (within_law v c).mono fun b hb2 => Tot.some_iff.2 ?_
      rw [shrunk_iff hr hc hm hb] at hb2
      cases b with
      | true =>
        have hs := hb2.1 rfl
        simp only [cond_true, Tot.let_iff, Tot.some_iff, Int.toNat_natCast]
        have e64 : w64 (s[p] + 1) = s[p] + 1 := w64_id (by omega) (by omega)
        refine ⟨⟨fun q hq hne => ?_, ?_⟩, ?_⟩
        · rw [Vector.getElem_setIfInBounds_ne hq (Ne.symm hne)]; exact h1 q hq hne
        · rw [Vector.getElem_setIfInBounds_self, e64]
          refine ⟨by omega, by omega, fun i y hy e hi => ?_⟩
          rcases Int.lt_or_le s[p] (cntP h p (i + 1) : Int) with hlt | hlt
          · have : i = m := by
              have a1 := (cntP_le_iff hy hx (by omega)).1 (by rw [hxp]; omega)
              have a2 := (cntP_le_iff hx hy (by omega)).1 (by rw [e]; omega)
              omega
            subst this; exact hs
          · exact h4 i y hy e hlt
        · rw [Vector.getElem_setIfInBounds_self, e64]; omega
      | false =>
        refine Tot.some_iff.2 ?_
        exact Tot.some_iff.2 ⟨h1, fin (.inr ⟨m, x, hx, hxp, by omega, fun hs => by have := hb2.2 hs; cases this⟩)⟩
    · have k : ¬ s[p] < c[p] := by simpa using k
      refine Tot.some_iff.2 ?_
      exact Tot.some_iff.2 (Tot.some_iff.2 ⟨h1, fin (.inl k)⟩)
theorem shrink_law {h : List Event} {c : Vector Int 6} {fu : Nat} (hfu : 100 ≤ fu) (hk : CutCode h c 0) : Tot (cut_Shrink fu h c) fun r => r.2 = 0 ∧ Below h r.1 (Shrunk h c) := by
  obtain ⟨hr, hc⟩ := hk.ok
  unfold cut_Shrink
  rw [Tot.bind_iff]
  refine (cutcheck_law h c).mono fun e he => ?_
  obtain rfl := he.one hk
  rw [bne_self_eq_false, cond_false, Tot.bind_iff]
  refine (table_law hr).mono fun l hl => ?_
  rw [Tot.bind_iff]
  refine Tot.rangeF (fun p z => ∀ (q : Nat) (hq : q < 6), (q < p → BelowAt h q z[q] (Shrunk h c)) ∧ (p ≤ q → z[q] = 0)) (fun q hq => ⟨fun k => by omega, fun _ => by simp⟩) ?_ ?_
  · intro p z _ hp hI
    have hp : p < 6 := by omega
    refine (shrink_row hr hl hc hp hfu ((hI p hp).2 (Nat.le_refl _))).mono fun w hw q hq => ⟨fun k => ?_, fun k => ?_⟩
    · by_cases e : q = p
      · subst e; exact hw.2
      · rw [hw.1 q hq e]; exact (hI q hq).1 (by omega)
    · rw [hw.1 q hq (by omega)]; exact (hI q hq).2 (by omega)
  · intro z hI
    exact Tot.some_iff.2 ⟨rfl, fun q hq => (hI q hq).1 (by omega)⟩
theorem shrink_bad {h : List Event} {c : Vector Int 6} {e : Int} {fu : Nat} (hk : CutCode h c e) (h0 : e ≠ 0) : cut_Shrink fu h c = some (Vector.replicate 6 0, e) := by
  refine Tot.eq ?_
  unfold cut_Shrink
  rw [Tot.bind_iff]
  refine (cutcheck_law h c).mono fun e' he => ?_
  obtain rfl := he.one hk
  rw [show (e' != 0) = true by simpa using h0]
  exact Tot.some_iff.2 rfl
theorem shrink_or {h : List Event} {c : Vector Int 6} {fu : Nat} (hr : Right h) (hfu : 100 ≤ fu) (hfu2 : fu ≤ 2 ^ 30) {d : Vector Int 6} (hd : Below h d (Shrunk h c)) : partref_Shrink fu h c = some d := by
  refine Tot.eq ?_
  have hlen := hr.1
  unfold partref_Shrink
  rw [Tot.bind_iff]
  refine incut_law hr |>.mono ?_
  rintro a ⟨ha, ha2⟩
  rw [Tot.bind_iff]
  refine (causes_law hr.1 hfu hfu2).mono fun M hM => ?_
  rw [cloneB_law (by omega), Option.bind_some, Tot.bind_iff]
  refine Tot.rangeF (fun i z => z.length = h.length ∧ (∀ j, j < i → ∃ b, z[j]? = some b ∧ (b = true ↔ Shrunk h c j)) ∧ ∀ j, i ≤ j → z[j]? = a[j]?) ⟨ha, fun j hj => by omega, fun _ _ => rfl⟩ ?_ ?_
  · rintro i z _ hi ⟨h1, h2, h3⟩
    have hi : i < h.length := by omega
    obtain ⟨b0, hb0, hb1⟩ := ha2 i hi
    unfold partref_Shrink_B0
    rw [Tot.bind_iff]
    refine Tot.rangeF (fun k s => s.length = h.length ∧ (∀ j, j ≠ i → s[j]? = z[j]?) ∧ ∃ b, s[i]? = some b ∧ (b = true ↔ InC h c i ∧ ∀ m, m < k → Hb h m i → InC h c m)) ?_ ?_ ?_
    · refine ⟨h1, fun _ _ => rfl, b0, by rw [h3 i (Nat.le_refl _)]; exact hb0, ?_⟩
      rw [hb1]; simp
    · rintro k s _ hk ⟨g1, g2, b, g3, g4⟩
      have hk : k < h.length := by omega
      obtain ⟨bk, hbk, hbk2⟩ := ha2 k hk
      have hsi : i < s.length := by omega
      have his : s[i] = b := by simpa [hsi] using g3
      unfold partref_Shrink_B2
      rw [Tot.bind_iff, Tot.lat_iff]
      refine ⟨hsi, ?_⟩
      rw [his, lat_lt hsi, lat_nat a, hbk, Option.bind_some, Option.bind_some, Tot.ite_iff]
      have key : ∀ b', (b' = true ↔ b = true ∧ (bk = true ∨ ¬ Hb h k i)) → (s.set i b').length = h.length ∧ (∀ j, j ≠ i → (s.set i b')[j]? = z[j]?) ∧ ∃ b, (s.set i b')[i]? = some b ∧ (b = true ↔ InC h c i ∧ ∀ m, m < k + 1 → Hb h m i → InC h c m) := by
        intro b' hb'
        refine ⟨by simp [g1], fun j hj => by rw [List.getElem?_set_ne (Ne.symm hj)]; exact g2 j hj, b', List.getElem?_set_self hsi, ?_⟩
        rw [hb', g4, hbk2]
        constructor
        · rintro ⟨⟨a1, a2⟩, a3⟩
          refine ⟨a1, fun m hm hmi => ?_⟩
          by_cases e : m = k
          · subst e; exact a3.resolve_right fun q => q hmi
          · exact a2 m (by omega) hmi
        · rintro ⟨a1, a2⟩
          refine ⟨⟨a1, fun m hm => a2 m (by omega)⟩, ?_⟩
          by_cases e : Hb h k i
          · exact .inl (a2 k (by omega) e)
          · exact .inr e
      refine ⟨fun hb => ?_, fun hb => ?_⟩
      · rw [Tot.bind_iff, Tot.ite_iff]
        refine ⟨fun hq => ?_, fun hq => ?_⟩
        · simp only [Option.bind_some, Tot.let_iff, Tot.some_iff, Int.toNat_natCast]
          exact key true (by simp [hb, hq])
        · have hM2 := hM.lat (Q := fun q => ∀ (b' : Bool), (b' = !q) → (b' = true ↔ b = true ∧ (bk = true ∨ ¬ Hb h k i))) hk hi (fun q hq2 b' e => by
            subst e; rw [hb, hq, ← hq2]; simp)
          rw [Tot.bind_iff] at hM2 ⊢
          refine hM2.mono fun row hrow => ?_
          rw [Tot.bind_iff]
          refine hrow.mono fun q hQ => ?_
          rw [Tot.some_iff]
          simp only [Option.bind_some, Tot.let_iff, Tot.some_iff, Int.toNat_natCast]
          exact key (!q) (hQ _ rfl)
      · simp only [Option.bind_some, Tot.let_iff, Tot.some_iff, Int.toNat_natCast]
        exact key false (by simp [hb])
    · rintro s ⟨g1, g2, b, g3, g4⟩
      rw [Nat.zero_add] at g4
      refine Tot.some_iff.2 ⟨g1, fun j hj => ?_, fun j hj => ?_⟩
      · by_cases e : j = i
        · subst e
          refine ⟨b, g3, g4.trans ?_⟩
          constructor
          · rintro ⟨q1, q2⟩ m (rfl | hm)
            · exact q1
            · exact q2 m (Nat.lt_trans hm.lt hm.in) hm
          · intro q
            exact ⟨q j (.inl rfl), fun m _ hm => q m (.inr hm)⟩
        · rw [g2 j e]; exact h2 j (by omega)
      · rw [g2 j (by omega)]; exact h3 j (by omega)
  · rintro z ⟨h1, h2, _⟩
    rw [Nat.zero_add] at h2
    rw [cutof_law hr h2 hd, Option.bind_some, Tot.some_iff]

theorem cutsays_law (h : List Event) (c : Vector Int 6) (_ : Rng.ok h) (_ : Rng.ok c) : ∃ fu, partlaw_CutSays fu h c = some true := by
  refine ⟨1000, Tot.eq ?_⟩
  unfold partlaw_CutSays
  rw [Tot.bind_iff]
  refine (cuterr_law h c).mono fun e he => ?_
  by_cases h0 : e = 0
  · subst h0
    have hr := he.ok.1
    obtain ⟨r, er, r2, hd⟩ := grow_law he
    obtain ⟨d, q⟩ := r
    simp only at r2 hd
    subst r2
    obtain ⟨s, es, s2, hs⟩ := shrink_law (fu := 1000) (by omega) he
    obtain ⟨b, q⟩ := s
    simp only at s2 hs
    subst s2
    have hR : cut_Right h c = some (decide (d = c), 0) := by
      unfold cut_Right
      rw [er]
      simp
    rw [hR, er, es]
    simp only [Option.bind_some]
    rw [Tot.bind_iff]
    refine (cutcheck_law h c).mono fun e' he' => ?_
    obtain rfl := he'.one he
    rw [bne_self_eq_false, cond_false, cond_false, grow_or hr (by omega) (by omega) hd, shrink_or hr (by omega) (by omega) hs]
    simp [Tot.some_iff]
  · have hR : cut_Right h c = some (false, e) := by
      unfold cut_Right
      rw [grow_bad he h0, Option.bind_some, show (e == 0) = false by simpa using h0]
      rfl
    rw [hR, grow_bad he h0, shrink_bad he h0]
    simp only [Option.bind_some]
    rw [Tot.bind_iff]
    refine (cutcheck_law h c).mono fun e' he' => ?_
    obtain rfl := he'.one he
    rw [bne_self_eq_false, cond_false, show (e' != 0) = true by simpa using h0]
    simp [Tot.some_iff]
end Go.Proofs.Ytclmlddmgccfjaa
