/-
  All events in order: the stable sort, and the selection.
-/
import Derived.Test.YtclmlddmgccfjaaStStampStable
namespace Go.Proofs.Ytclmlddmgccfjaa
open Enc

theorem tot_step {σ τ : Type} {body : σ → Option (Ctl σ τ)} {fu : Nat} {z : σ} {Q : σ ⊕ τ → Prop} (h : Tot (body z) (Tot.CtlOk (fun s => Tot (whileM body fu s) Q) (fun s => Q (.inl s)) (fun t => Q (.inr t)))) : Tot (whileM body (fu + 1) z) Q := by
  obtain ⟨c, e, hc⟩ := h
  unfold whileM
  rw [e]
  cases c with
  | go s' => exact hc
  | brk s' => exact ⟨_, rfl, hc⟩
  | ret t => exact ⟨_, rfl, hc⟩
section
variable {s : List Int} {h : List Event}
theorem ins_law {fu a b : Nat} {l : List Int} (hab : a ≤ b) (hb : b ≤ l.length) (hn : l.length ≤ 2 ^ 20) (hfu : l.length < fu) (hP : AllP (InH s h) l) : Tot (slices_insertionSortCmpFunc_int_Total_1 fu l a b s h) fun r => SP a b l r ∧ Srt (elt s h) a b r := by
  unfold slices_insertionSortCmpFunc_int_Total_1
  rw [Tot.andThen_iff]
  refine (insertion_law (P := InH s h) (lt := elt s h) (elt_swo s h) (a := a) (b := b) (fu := fu) (l := l) hab hb (by omega) hP (by omega) (less := fun x y => (stamp_Total_1 x y s h).bind fun r => some (decide (r < 0))) (fun x y hx hy => ?_) (inner := slices_insertionSortCmpFunc_int_Total_1_B2 (a : Int) s h) (fun z => rfl) (fun z => rfl)).mono ?_
  · obtain ⟨r, e1, e2⟩ := total_cmp hx hy
    rw [e1, Option.bind_some, e2]
  · rintro _ ⟨j, m, rfl, h1, h2⟩
    exact Tot.some_iff.2 ⟨h1, h2⟩
/-- All blocks are sorted. -/
def Blk (s : List Int) (h : List Event) (w n : Nat) (l : List Int) : Prop := ∀ j : Nat, w * j < n → Srt (elt s h) (w * j) (min (w * j + w) n) l
theorem blocks_law {fu n : Nat} {l : List Int} (hn : n = l.length) (h60 : n ≤ 60) (hfu : 200 ≤ fu) (hP : AllP (InH s h) l) :
    Tot (whileM (slices_stableCmpFunc_int_Total_1_B0 fu (n : Int) s h) fu ((0 : Int), (20 : Int), l)) fun o => ∃ (j : Nat) (y : Int) (d : List Int), o = .inl (((20 * j : Nat) : Int), y, d) ∧ 20 * j ≤ n ∧ n < 20 * j + 20 ∧ SP 0 n l d ∧ ∀ i, i < j → Srt (elt s h) (20 * i) (20 * i + 20) d := by
  refine Tot.whileM (fun z : Int × Int × List Int => ∃ j : Nat, z.1 = ((20 * j : Nat) : Int) ∧ z.2.1 = ((20 * j + 20 : Nat) : Int) ∧ 20 * j ≤ n ∧ SP 0 n l z.2.2 ∧ ∀ i, i < j → Srt (elt s h) (20 * i) (20 * i + 20) z.2.2) (fun z => (100 - z.1).toNat) ⟨0, rfl, rfl, by omega, SP.refl _ _ _, fun i hi => by omega⟩ (by simp only; omega) ?_
  rintro ⟨x, y, d⟩ ⟨j, rfl, rfl, h1, h2, h3⟩
  simp only at h2 h3
  have hlen := h2.len
  unfold slices_stableCmpFunc_int_Total_1_B0
  simp only
  rw [Tot.ite_iff]
  refine ⟨fun q => ?_, fun q => ?_⟩
  · have q : 20 * j + 20 ≤ n := by simp at q; omega
    rw [Tot.bind_iff]
    refine (ins_law (fu := fu) (a := 20 * j) (b := 20 * j + 20) (l := d) (by omega) (by omega) (by omega) (by omega) (h2.allP hP)).mono fun r hr => ?_
    rw [Tot.some_iff, w64_id (by omega) (by omega)]
    refine ⟨⟨j + 1, by simp only; omega, by simp only; omega, by omega, h2.trans (hr.1.wide (by omega) (by omega)), fun i hi => ?_⟩, by simp only; omega⟩
    by_cases e : i = j
    · subst e; exact hr.2
    · exact (h3 i (by omega)).out hr.1 (.inl (by omega))
  · have q : ¬ 20 * j + 20 ≤ n := by simp at q; omega
    exact Tot.some_iff.2 ⟨j, _, d, rfl, h1, by omega, h2, h3⟩
theorem stable_law {fu n : Nat} {l : List Int} (hn : n = l.length) (h60 : n ≤ 60) (hfu : 400 ≤ fu) (hP : AllP (InH s h) l) : Tot (slices_stableCmpFunc_int_Total_1 fu l n s h) fun r => SP 0 n l r ∧ Srt (elt s h) 0 n r := by
  unfold slices_stableCmpFunc_int_Total_1
  rw [Tot.andThen_iff]
  refine (blocks_law hn h60 (by omega) hP).mono ?_
  rintro _ ⟨j, y, d, rfl, h1, h2, h3, h4⟩
  have hlen := h3.len
  show Tot ((Option.bind _ _)) _
  rw [Tot.bind_iff]
  refine (ins_law (fu := fu) (a := 20 * j) (b := n) (l := d) h1 (by omega) (by omega) (by omega) (h3.allP hP)).mono fun r hr => ?_
  have h5 := h3.trans (hr.1.wide (by omega) (Nat.le_refl _))
  have hl5 := h5.len
  have hP5 := h5.allP hP
  have blk : ∀ i, i < j → Srt (elt s h) (20 * i) (20 * i + 20) r := fun i hi => (h4 i hi).out hr.1 (.inl (by omega))
  have last := hr.2
  clear hr h4
  rw [Tot.andThen_iff]
  -- the merges
  have done : ∀ (w f : Nat) (m : List Int), n ≤ w → w ≤ 100 → SP 0 n l m → Srt (elt s h) 0 n m → Tot (whileM (slices_stableCmpFunc_int_Total_1_B2 fu (n : Int) s h) (f + 1) ((w : Int), m)) fun o => ∃ (y : Int) (m : List Int), o = .inl (y, m) ∧ SP 0 n l m ∧ Srt (elt s h) 0 n m := by
    intro w f m hw _ a1 a2
    refine tot_step ?_
    unfold slices_stableCmpFunc_int_Total_1_B2
    simp only
    rw [decide_eq_false (by omega), cond_false]
    exact Tot.some_iff.2 ⟨_, _, rfl, a1, a2⟩
  -- one merge of the rest
  have rest : ∀ (w f c : Nat) (m : List Int) (Q : (Int × List Int) ⊕ List Int → Prop), w ≤ 100 → c + w < n → SP 0 n l m → Srt (elt s h) c (c + w) m → Srt (elt s h) (c + w) n m → 0 < w →
      (∀ r, SP 0 n l r → SP c n m r → Srt (elt s h) c n r → Tot (whileM (slices_stableCmpFunc_int_Total_1_B2 fu (n : Int) s h) f (((w * 2 : Nat) : Int), r)) Q) →
      Tot (bif decide ((w64 ((c : Int) + (w : Int))) < (n : Int)) then ((slices_symMergeCmpFunc_int_Total_1 fu m (c : Int) (w64 ((c : Int) + (w : Int))) (n : Int) s h).bind fun r29 => some (Ctl.go (w64 ((w : Int) * (2 : Int)), r29))) else some (Ctl.go (w64 ((w : Int) * (2 : Int)), m))) (Tot.CtlOk (fun s' => Tot (whileM (slices_stableCmpFunc_int_Total_1_B2 fu (n : Int) s h) f s') Q) (fun s => Q (.inl s)) (fun t => Q (.inr t))) := by
    intro w f c m Q hw hc a1 a2 a3 a4 hk
    have e1 : w64 ((c : Int) + (w : Int)) = ((c + w : Nat) : Int) := by rw [w64_id (by omega) (by omega)]; push_cast; rfl
    have e2 : w64 ((w : Int) * 2) = ((w * 2 : Nat) : Int) := by rw [w64_id (by omega) (by omega)]; push_cast; rfl
    have al := a1.len
    rw [e1, e2, decide_eq_true (by omega), cond_true, Tot.bind_iff]
    refine (sym_law (n - c) fu c (c + w) n m (by omega) (by omega) (by omega) hc (by omega) (by omega) (a1.allP hP) a2 a3).mono fun r hr => ?_
    exact Tot.some_iff.2 (hk r (a1.trans (hr.1.wide (by omega) (Nat.le_refl _))) hr.1 hr.2)
  suffices hs : Tot (whileM (slices_stableCmpFunc_int_Total_1_B2 fu (n : Int) s h) fu ((20 : Int), r)) fun o => ∃ (y : Int) (m : List Int), o = .inl (y, m) ∧ SP 0 n l m ∧ Srt (elt s h) 0 n m by
    refine hs.mono ?_
    rintro _ ⟨y, m, rfl, k1, k2⟩
    exact Tot.some_iff.2 ⟨k1, k2⟩
  obtain ⟨f, hf⟩ : ∃ f, fu = f + 4 := ⟨fu - 4, by omega⟩
  rw [show whileM (slices_stableCmpFunc_int_Total_1_B2 fu (n : Int) s h) fu ((20 : Int), r) = whileM (slices_stableCmpFunc_int_Total_1_B2 fu (n : Int) s h) (f + 3 + 1) ((20 : Int), r) by rw [show f + 3 + 1 = fu by omega]]
  by_cases n20 : n ≤ 20
  · refine done 20 _ r n20 (by omega) h5 ?_
    by_cases k : j = 0
    · subst k; exact last
    · have := blk 0 (by omega)
      exact this.sub (by omega) (by omega)
  · refine tot_step ?_
    unfold slices_stableCmpFunc_int_Total_1_B2
    simp only
    rw [decide_eq_true (by omega), cond_true, Tot.andThen_iff]
    rw [show whileM (slices_stableCmpFunc_int_Total_1_B4 fu (n : Int) s h 20) fu ((0 : Int), w64 (2 * 20), r) = whileM (slices_stableCmpFunc_int_Total_1_B4 fu (n : Int) s h 20) (f + 3 + 1) ((0 : Int), (40 : Int), r) by rw [show f + 3 + 1 = fu by omega]; rfl]
    -- behind the first round of merges
    have second : ∀ (g : Nat) (r : List Int), SP 0 n l r → Srt (elt s h) 0 (min 40 n) r → Srt (elt s h) 40 n r → Tot (whileM (slices_stableCmpFunc_int_Total_1_B2 fu (n : Int) s h) (g + 2) (((20 * 2 : Nat) : Int), r)) fun o => ∃ (y : Int) (m : List Int), o = .inl (y, m) ∧ SP 0 n l m ∧ Srt (elt s h) 0 n m := by
      intro g r k1 k2 k3
      by_cases n40 : n ≤ 40
      · exact done 40 _ r n40 (by omega) k1 (k2.sub (by omega) (by omega))
      · refine tot_step ?_
        unfold slices_stableCmpFunc_int_Total_1_B2
        simp only
        rw [decide_eq_true (by omega), cond_true, Tot.andThen_iff]
        rw [show whileM (slices_stableCmpFunc_int_Total_1_B4 fu (n : Int) s h ((20 * 2 : Nat) : Int)) fu ((0 : Int), w64 (2 * ((20 * 2 : Nat) : Int)), r) = whileM (slices_stableCmpFunc_int_Total_1_B4 fu (n : Int) s h 40) (f + 3 + 1) ((0 : Int), (80 : Int), r) by rw [show f + 3 + 1 = fu by omega]; rfl]
        refine tot_step ?_
        unfold slices_stableCmpFunc_int_Total_1_B4
        simp only
        rw [decide_eq_false (by omega), cond_false]
        refine Tot.some_iff.2 ?_
        refine rest 40 (g + 1) 0 r _ (by omega) (by omega) k1 (k2.sub (by omega) (by omega)) (k3.sub (by omega) (by omega)) (by omega) fun r' q1 q2 q3 => ?_
        exact done 80 g r' (by omega) (by omega) q1 q3
    by_cases n40 : 40 ≤ n
    · refine tot_step ?_
      unfold slices_stableCmpFunc_int_Total_1_B4
      simp only
      rw [decide_eq_true (by omega), cond_true, Tot.bind_iff]
      refine (sym_law 40 fu 0 20 40 r (by omega) (by omega) (by omega) (by omega) (by omega) (by omega) hP5 ?_ ?_).mono fun r2 hr2 => ?_
      · exact (blk 0 (by omega)).sub (by omega) (by omega)
      · exact (blk 1 (by omega)).sub (by omega) (by omega)
      have h6 := h5.trans (hr2.1.wide (Nat.le_refl _) n40)
      have s40 : Srt (elt s h) 40 n r2 := by
        refine Srt.out ?_ hr2.1 (.inr (Nat.le_refl _))
        by_cases k : j = 2
        · subst k; exact last
        · have := blk 2 (by omega)
          exact this.sub (by omega) (by omega)
      rw [Tot.some_iff]
      show Tot (whileM (slices_stableCmpFunc_int_Total_1_B4 fu (n : Int) s h 20) (f + 2 + 1) ((40 : Int), (80 : Int), r2)) _
      refine tot_step ?_
      unfold slices_stableCmpFunc_int_Total_1_B4
      simp only
      rw [decide_eq_false (by omega), cond_false]
      refine Tot.some_iff.2 ?_
      show Tot (bif decide ((w64 ((40 : Int) + (20 : Int))) < (n : Int)) then _ else _) _
      rw [show w64 ((40 : Int) + (20 : Int)) = 60 from rfl, decide_eq_false (by omega), cond_false]
      exact Tot.some_iff.2 (second (f + 1) r2 h6 (hr2.2.sub (by omega) (by omega)) s40)
    · refine tot_step ?_
      unfold slices_stableCmpFunc_int_Total_1_B4
      simp only
      rw [decide_eq_false (by omega), cond_false]
      refine Tot.some_iff.2 ?_
      refine rest 20 (f + 3) 0 r _ (by omega) (by omega) h5 ((blk 0 (by omega)).sub (by omega) (by omega)) ?_ (by omega) fun r' q1 q2 q3 => ?_
      · by_cases k : j = 1
        · subst k; exact last.sub (by omega) (by omega)
        · omega
      · exact second (f + 1) r' q1 (q3.sub (by omega) (by omega)) (Srt.one (by omega))
end
end Go.Proofs.Ytclmlddmgccfjaa
