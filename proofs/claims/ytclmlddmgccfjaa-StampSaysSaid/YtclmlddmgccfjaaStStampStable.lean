/-
  The stable sort of the events: the merge, all blocks.
-/
import Derived.Test.YtclmlddmgccfjaaStStampMerge
namespace Go.Proofs.Ytclmlddmgccfjaa
open Enc

def lg (l : List Int) (k : Nat) : Int := (l[k]?).getD 0
theorem lg_get {l : List Int} {k : Nat} (h : k < l.length) : l[k]? = some (lg l k) := by simp [lg, h]
theorem lg_lat {l : List Int} {k : Nat} (h : k < l.length) : lat l (k : Int) = some (lg l k) := by rw [lat_nat, lg_get h]
theorem lg_of {l : List Int} {k : Nat} {x : Int} (h : l[k]? = some x) : lg l k = x := by simp [lg, h]
theorem rot_id {α : Type} {l : List α} {s m e k : Nat} (h1 : s ≤ m) (h2 : m ≤ e) (h : s = m ∨ m = e) : l[k]? = Rot l s m e k := by
  unfold Rot
  repeat' split
  all_goals first | rfl | omega | (refine congrArg (fun n => l[n]?) ?_; omega)
section
variable {s : List Int} {h : List Event}
/-- Sorted: what lies at p is not behind what lies at q. -/
theorem Srt.le {a b p q : Nat} {l : List Int} (hs : Srt (elt s h) a b l) (hb : b ≤ l.length) (h1 : a ≤ p) (h2 : p ≤ q) (h3 : q < b) : elt s h (lg l q) (lg l p) = false := by
  by_cases e : p = q
  · subst e
    unfold elt
    simp only [decide_eq_false_iff_not]; omega
  · exact hs p q _ _ h1 (by omega) h3 (lg_get (by omega)) (lg_get (by omega))
theorem elt_trans {x y z : Int} (h1 : elt s h y x = false) (h2 : elt s h z y = false) : elt s h z x = false := by
  unfold elt at h1 h2 ⊢
  simp only [decide_eq_false_iff_not] at h1 h2 ⊢; omega
theorem elt_asymm {x y : Int} (h1 : elt s h x y = true) : elt s h y x = false := by
  unfold elt at h1 ⊢
  simp only [decide_eq_false_iff_not, decide_eq_true_eq] at h1 ⊢; omega
theorem lg_in {l : List Int} (hP : AllP (InH s h) l) {k : Nat} (hk : k < l.length) : InH s h (lg l k) := hP.at (lg_get hk)

theorem sym_low {fu a m b : Nat} {l : List Int} {rc : (List Int) → Int → Int → Int → (List Int) → (List Event) → Option (List Int)} (hfu : l.length < fu) (hm : m = a + 1) (hmb : m < b) (hb : b ≤ l.length) (hn : l.length ≤ 2 ^ 20) (hP : AllP (InH s h) l) (h2 : Srt (elt s h) m b l) :
    Tot (slices_symMergeCmpFunc_int_Total_1_R fu rc l a m b s h) fun r => SP a b l r ∧ Srt (elt s h) a b r := by
  unfold slices_symMergeCmpFunc_int_Total_1_R
  have e : (w64 ((m : Int) - (a : Int)) == (1 : Int)) = true := by
    rw [w64_id (by omega) (by omega)]; simp; omega
  rw [e, cond_true, Tot.andThen_iff]
  refine (bsearch_law (lo := m) (hi := b) (f := fun k => elt s h (lg l k) (lg l a)) (by omega) (by omega) (fun i j i1 i2 i3 hj => ?_) (fun i j i1 i2 i3 => ?_)).mono ?_
  · cases hf : elt s h (lg l i) (lg l a) with
    | true => rfl
    | false => rw [elt_trans hf (h2.le hb i1 i2 i3)] at hj; cases hj
  · unfold slices_symMergeCmpFunc_int_Total_1_B0
    simp only
    by_cases hij : i < j
    · rw [decide_eq_true hij, decide_eq_true (show (i : Int) < (j : Int) by omega), cond_true, cond_true, smid_eq (by omega), lg_lat (show (i + j) / 2 < l.length by omega), lg_lat (show a < l.length by omega), Option.bind_some, Option.bind_some]
      obtain ⟨r, e1, e2⟩ := total_cmp (lg_in hP (show (i + j) / 2 < l.length by omega)) (lg_in hP (show a < l.length by omega))
      rw [e1, Option.bind_some, e2, w64_id (x := (((i + j) / 2 : Nat) : Int) + 1) (by omega) (by omega)]
      cases elt s h (lg l ((i + j) / 2)) (lg l a) <;> simp
    · rw [decide_eq_false hij, decide_eq_false (show ¬ (i : Int) < (j : Int) by omega), cond_false, cond_false]
  rintro _ ⟨i, rfl, i1, i2, i3, i4⟩
  show Tot (andThen _ _) _
  rw [Tot.andThen_iff]
  refine (up_law (a := a) (i := i) (by omega) (by omega) (by omega) (by omega)).mono ?_
  rintro _ ⟨j, r, rfl, r1, r2⟩
  show Tot (some r) _
  rw [Tot.some_iff]
  subst hm
  have hsp := SP.rot (by omega) (by omega) r1 r2
  refine ⟨hsp.wide (Nat.le_refl _) i2, ?_⟩
  obtain ⟨p1, p2, p3, p4⟩ := rot_parts (lt := elt s h) (a := a) (Nat.le_refl _) (by omega) i1 i2 (Srt.one (by omega)) h2 r2
  refine Srt.join p2 (Srt.join p3 p4 ?_) (rot_cross (by omega) i1 (Srt.one (by omega)) h2 r2 (fun p q x y _ _ => by omega) fun p q x y q1 q2 q3 q4 hx hy => ?_)
  · intro p q x y q1 q2 q3 q4 hx hy
    rw [r2] at hx hy
    unfold Rot at hx hy
    rw [if_neg (by omega), if_pos (by omega)] at hx
    rw [if_neg (by omega), if_neg (by omega)] at hy
    have := i4 q q3 q4
    rw [show p - (i - (a + 1)) = a by omega] at hx
    rwa [lg_of hx, lg_of hy] at this
  · have := i3 p q1 q2
    obtain rfl : q = a := by omega
    simp only [lg_of hx, lg_of hy] at this
    exact elt_asymm this
theorem sym_high {fu a m b : Nat} {l : List Int} {rc : (List Int) → Int → Int → Int → (List Int) → (List Event) → Option (List Int)} (hfu : l.length < fu) (ham : a + 1 < m) (hmb : b = m + 1) (hb : b ≤ l.length) (hn : l.length ≤ 2 ^ 20) (hP : AllP (InH s h) l) (h1 : Srt (elt s h) a m l) :
    Tot (slices_symMergeCmpFunc_int_Total_1_R fu rc l a m b s h) fun r => SP a b l r ∧ Srt (elt s h) a b r := by
  unfold slices_symMergeCmpFunc_int_Total_1_R
  have e0 : (w64 ((m : Int) - (a : Int)) == (1 : Int)) = false := by
    rw [w64_id (by omega) (by omega)]; simp; omega
  have e : (w64 ((b : Int) - (m : Int)) == (1 : Int)) = true := by
    rw [w64_id (by omega) (by omega)]; simp; omega
  rw [e0, cond_false, e, cond_true, Tot.andThen_iff]
  refine (bsearch_law (lo := a) (hi := m) (f := fun k => !elt s h (lg l m) (lg l k)) (by omega) (by omega) (fun i j i1 i2 i3 hj => ?_) (fun i j i1 i2 i3 => ?_)).mono ?_
  · simp only [Bool.not_eq_true'] at hj ⊢
    exact elt_trans (h1.le (by omega) i1 i2 i3) hj
  · unfold slices_symMergeCmpFunc_int_Total_1_B4
    simp only
    by_cases hij : i < j
    · rw [decide_eq_true hij, decide_eq_true (show (i : Int) < (j : Int) by omega), cond_true, cond_true, smid_eq (by omega), lg_lat (show (i + j) / 2 < l.length by omega), lg_lat (show m < l.length by omega), Option.bind_some, Option.bind_some]
      obtain ⟨r, e1, e2⟩ := total_cmp (lg_in hP (show m < l.length by omega)) (lg_in hP (show (i + j) / 2 < l.length by omega))
      rw [e1, Option.bind_some, e2, w64_id (x := (((i + j) / 2 : Nat) : Int) + 1) (by omega) (by omega)]
      cases elt s h (lg l m) (lg l ((i + j) / 2)) <;> simp
    · rw [decide_eq_false hij, decide_eq_false (show ¬ (i : Int) < (j : Int) by omega), cond_false, cond_false]
  rintro _ ⟨i, rfl, i1, i2, i3, i4⟩
  show Tot (andThen _ _) _
  rw [Tot.andThen_iff]
  refine (down_law (i := i) (m := m) (by omega) (by omega) (by omega) (by omega)).mono ?_
  rintro _ ⟨j, r, rfl, r1, r2⟩
  show Tot (some r) _
  rw [Tot.some_iff]
  subst hmb
  have hsp := SP.rot (by omega) (by omega) r1 r2
  refine ⟨hsp.wide i1 (Nat.le_refl _), ?_⟩
  obtain ⟨p1, p2, p3, p4⟩ := rot_parts (lt := elt s h) (b := m + 1) i1 i2 (by omega) (Nat.le_refl _) h1 (Srt.one (by omega)) r2
  refine Srt.join (Srt.join p1 p2 ?_) p3 (rot_cross i2 (by omega) h1 (Srt.one (by omega)) r2 (fun p q x y _ _ => by omega) fun p q x y q1 q2 q3 q4 hx hy => ?_)
  · intro p q x y q1 q2 q3 q4 hx hy
    rw [r2] at hx hy
    unfold Rot at hx hy
    rw [if_neg (by omega), if_neg (by omega)] at hx
    rw [if_pos (by omega)] at hy
    have := i3 p q1 q2
    rw [show q + (m - i) = m by omega] at hy
    simpa only [lg_of hx, lg_of hy, Bool.not_eq_true'] using this
  · have := i4 q q3 q4
    obtain rfl : p = m := by omega
    simp only [lg_of hx, lg_of hy, Bool.not_eq_false'] at this
    exact elt_asymm this
theorem sym_law : ∀ (n fu a m b : Nat) (l : List Int), b - a ≤ n → n + 2 * l.length + 5 ≤ fu → a < m → m < b → b ≤ l.length → l.length ≤ 2 ^ 20 → AllP (InH s h) l → Srt (elt s h) a m l → Srt (elt s h) m b l →
    Tot (slices_symMergeCmpFunc_int_Total_1 fu l a m b s h) fun r => SP a b l r ∧ Srt (elt s h) a b r
  | 0, _, _, _, _, _, h0, _, h1, h2, _, _, _, _, _ => by omega
  | n + 1, 0, _, _, _, _, _, hfu, _, _, _, _, _, _, _ => by omega
  | n + 1, fu + 1, a, m, b, l, h0, hfu, ham, hmb, hb, hn, hP, h1, h2 => by
    show Tot (slices_symMergeCmpFunc_int_Total_1_R fu (slices_symMergeCmpFunc_int_Total_1 fu) l a m b s h) _
    by_cases c1 : m = a + 1
    · exact sym_low (by omega) c1 hmb hb hn hP h2
    by_cases c2 : b = m + 1
    · exact sym_high (by omega) (by omega) c2 hb hn hP h1
    unfold slices_symMergeCmpFunc_int_Total_1_R
    have e0 : (w64 ((m : Int) - (a : Int)) == (1 : Int)) = false := by
      rw [w64_id (by omega) (by omega)]; simp; omega
    have e1 : (w64 ((b : Int) - (m : Int)) == (1 : Int)) = false := by
      rw [w64_id (by omega) (by omega)]; simp; omega
    rw [e0, cond_false, e1, cond_false, smid_eq (by omega)]
    obtain ⟨c, hc⟩ : ∃ c, c = (a + b) / 2 := ⟨_, rfl⟩
    rw [← hc]
    have eN : w64 ((c : Int) + (m : Int)) = ((c + m : Nat) : Int) := by rw [w64_id (by omega) (by omega)]; push_cast; rfl
    rw [eN]
    obtain ⟨S0, R0, hSR, hS⟩ : ∃ S0 R0 : Nat, (bif decide ((m : Int) > (c : Int)) then (some (w64 (((c + m : Nat) : Int) - (b : Int)), (c : Int))) else some ((a : Int), (m : Int))) = some ((S0 : Int), (R0 : Int)) ∧ ((m > c ∧ S0 + b = c + m ∧ R0 = c) ∨ (m ≤ c ∧ S0 = a ∧ R0 = m)) := by
      by_cases q : m > c
      · refine ⟨c + m - b, c, ?_, .inl ⟨q, by omega, rfl⟩⟩
        rw [decide_eq_true (by omega), cond_true, w64_id (by omega) (by omega)]
        congr 2; omega
      · exact ⟨a, m, by rw [decide_eq_false (by omega), cond_false], .inr ⟨by omega, rfl, rfl⟩⟩
    rw [hSR, Option.bind_some, Tot.andThen_iff]
    clear hSR
    refine (bsearch_law (lo := S0) (hi := R0) (f := fun k => !elt s h (lg l (c + m - 1 - k)) (lg l k)) (by omega) (by omega) (fun i j i1 i2 i3 hj => ?_) (fun i j i1 i2 i3 => ?_)).mono ?_
    · simp only [Bool.not_eq_true'] at hj ⊢
      exact elt_trans (elt_trans (h1.le (by omega) (by omega) i2 (by omega)) hj) (h2.le hb (by omega) (by omega) (by omega))
    · unfold slices_symMergeCmpFunc_int_Total_1_B8
      simp only
      by_cases hij : i < j
      · have eP : w64 (w64 (((c + m : Nat) : Int) - 1) - (((i + j) / 2 : Nat) : Int)) = ((c + m - 1 - (i + j) / 2 : Nat) : Int) := by rw [w64_id (x := ((c + m : Nat) : Int) - 1) (by omega) (by omega), w64_id (by omega) (by omega)]; omega
        have b1 : (i + j) / 2 < l.length := by omega
        have b2 : c + m - 1 - (i + j) / 2 < l.length := by omega
        rw [decide_eq_true hij, decide_eq_true (show (i : Int) < (j : Int) by omega), cond_true, cond_true, smid_eq (i := a) (j := b) (by omega), ← hc, eN, smid_eq (by omega), eP, lg_lat b2, lg_lat b1, Option.bind_some, Option.bind_some]
        obtain ⟨r, e1, e2⟩ := total_cmp (lg_in hP b2) (lg_in hP b1)
        rw [e1, Option.bind_some, e2, w64_id (x := (((i + j) / 2 : Nat) : Int) + 1) (by omega) (by omega)]
        cases elt s h (lg l (c + m - 1 - (i + j) / 2)) (lg l ((i + j) / 2)) <;> simp
      · rw [decide_eq_false hij, decide_eq_false (show ¬ (i : Int) < (j : Int) by omega), cond_false, cond_false]
    rintro _ ⟨t, rfl, t1, t2, t3, t4⟩
    obtain ⟨e, he⟩ : ∃ e, e = c + m - t := ⟨_, rfl⟩
    have eE : w64 (((c + m : Nat) : Int) - (t : Int)) = (e : Int) := by rw [w64_id (by omega) (by omega)]; omega
    show Tot ((Option.bind _ _)) _
    rw [eE, and_some, Option.bind_some, Tot.bind_iff]
    refine Tot.mono (Q := fun d : List Int => d.length = l.length ∧ ∀ k, d[k]? = Rot l t m e k) ?_ fun d hd => ?_
    · rw [Tot.ite_iff]
      refine ⟨fun q => ?_, fun q => ?_⟩
      · have q : t < m ∧ m < e := by simpa using q
        rw [Tot.bind_iff]
        exact (rotate_law (a := t) (m := m) (b := e) q.1 q.2 (by omega) (by omega) (by omega)).mono fun r hr => Tot.some_iff.2 hr
      · have q : ¬ (t < m ∧ m < e) := by simpa using q
        exact Tot.some_iff.2 ⟨rfl, fun k => rot_id (by omega) (by omega) (by omega)⟩
    obtain ⟨d1, d2⟩ := hd
    have hsp := SP.rot (by omega) (by omega) d1 d2
    have hsp := hsp.wide (a' := a) (b' := b) (by omega) (by omega)
    obtain ⟨p1, p2, p3, p4⟩ := rot_parts (lt := elt s h) (show a ≤ t by omega) (show t ≤ m by omega) (show m ≤ e by omega) (show e ≤ b by omega) h1 h2 d2
    have hcr : Crs (elt s h) a (t + (e - m)) b d := by
      refine rot_cross (by omega) (by omega) h1 h2 d2 (fun p q x y q1 q2 q3 q4 hx hy => ?_) (fun p q x y q1 q2 q3 q4 hx hy => ?_)
      · have hk : S0 < t := by omega
        have := t3 (t - 1) (by omega) (by omega)
        simp only [Bool.not_eq_true'] at this
        rw [show c + m - 1 - (t - 1) = e by omega] at this
        rw [← lg_of hx, ← lg_of hy]
        exact elt_trans (elt_trans (h1.le (by omega) q1 (show p ≤ t - 1 by omega) (by omega)) this) (h2.le hb (by omega) q3 q4)
      · have hk : t < R0 := by omega
        have := t4 t (Nat.le_refl _) hk
        simp only [Bool.not_eq_false'] at this
        have := elt_asymm this
        rw [show c + m - 1 - t = e - 1 by omega] at this
        rw [← lg_of hx, ← lg_of hy]
        exact elt_trans (elt_trans (h2.le hb q1 (show p ≤ e - 1 by omega) (by omega)) this) (h1.le (by omega) (by omega) q3 q4)
    rw [show t + (e - m) = c by omega] at p2 p3 hcr
    rw [and_some, Option.bind_some, Tot.bind_iff]
    refine Tot.mono (Q := fun d' : List Int => SP a c d d' ∧ Srt (elt s h) a c d') ?_ fun d' hd' => ?_
    · rw [Tot.ite_iff]
      refine ⟨fun q => ?_, fun q => ?_⟩
      · have q : a < t ∧ t < c := by simpa using q
        rw [Tot.bind_iff]
        exact (sym_law n fu a t c d (by omega) (by omega) q.1 q.2 (by omega) (by omega) (hsp.allP hP) p1 p2).mono fun r hr => Tot.some_iff.2 hr
      · have q : ¬ (a < t ∧ t < c) := by simpa using q
        refine Tot.some_iff.2 ⟨SP.refl _ _ _, ?_⟩
        by_cases k : a < t
        · obtain rfl : t = c := by omega
          exact p1
        · obtain rfl : t = a := by omega
          exact p2
    obtain ⟨g1, g2⟩ := hd'
    have gl := g1.len
    have hcr2 := hcr.left g1
    have hsp2 := hsp.trans (g1.wide (a' := a) (b' := b) (by omega) (by omega))
    rw [and_some, Option.bind_some, Tot.ite_iff]
    have fin : ∀ r, SP c b d' r → Srt (elt s h) c b r → SP a b l r ∧ Srt (elt s h) a b r := fun r k1 k2 =>
      ⟨hsp2.trans (k1.wide (by omega) (Nat.le_refl _)), Srt.join (g2.out k1 (.inl (Nat.le_refl _))) k2 (hcr2.right k1)⟩
    refine ⟨fun q => ?_, fun q => ?_⟩
    · have q : c < e ∧ e < b := by simpa using q
      rw [Tot.bind_iff]
      exact (sym_law n fu c e b d' (by omega) (by omega) q.1 q.2 (by omega) (by omega) (hsp2.allP hP) (p3.out g1 (.inr (Nat.le_refl _))) (p4.out g1 (.inr (by omega)))).mono fun r hr => Tot.some_iff.2 (fin r hr.1 hr.2)
    · have q : ¬ (c < e ∧ e < b) := by simpa using q
      refine Tot.some_iff.2 (fin d' (SP.refl _ _ _) ?_)
      by_cases k : c < e
      · obtain rfl : e = b := by omega
        exact p3.out g1 (.inr (Nat.le_refl _))
      · obtain rfl : e = c := by omega
        exact p4.out g1 (.inr (Nat.le_refl _))
end
end Go.Proofs.Ytclmlddmgccfjaa
