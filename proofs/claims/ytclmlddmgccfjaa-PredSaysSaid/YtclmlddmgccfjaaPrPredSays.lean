/-
  PredSays: the plain law.
-/
import Derived.Test.YtclmlddmgccfjaaPrPredMust
namespace Go.Proofs.Ytclmlddmgccfjaa
open Enc

theorem low_zero {h : List Event} {T : List (List Bool)} : Low h T (Vector.replicate 6 0) := ⟨zero_cut, fun d hd p hp => by rw [Vector.getElem_replicate]; exact (hd.1 p hp).1⟩
theorem grow_ex {h : List Event} {c : Vector Int 6} (hr : Right h) (hc : IsCut h c) : ∃ d, cut_Grow h c = some (d, 0) ∧ Below h d (Grown h c) := by
  obtain ⟨⟨d, e⟩, h1, h2, h3⟩ := grow_law (h := h) (c := c) (.inr (.inl ⟨hr, hc, rfl⟩))
  simp only at h2 h3
  subst h2
  exact ⟨d, h1, h3⟩
theorem first_row {h : List Event} {T : List (List Bool)} {fu i : Nat} {z y : Vector Int 6} (hr : Right h) (hT : RightT h T) (hfu : 100 ≤ fu) (hi : i < 6) (hz : Low h T z) (hyz : LeV y z) (hp : ∀ (p : Nat) (hp : p < 6), p < i → tr T p z[p] = true) :
    Tot (pred_First_B2 fu T i z) fun o => (∃ w, o = .go w ∧ Low h T w ∧ LeV y w ∧ ∀ (p : Nat) (hp : p < 6), p < i + 1 → tr T p w[p] = true) ∨ (o = .ret (.ret ((Vector.replicate 6 0), 6)) ∧ ∀ d, ¬ FitsP h T d) := by
  have hlen := hr.1
  have hle := cntP_le' (h := h) (p := (i : Int)) (j := h.length)
  unfold pred_First_B2
  rw [Tot.andThen_iff]
  refine Tot.whileM (fun w : Vector Int 6 => Low h T w ∧ LeV y w ∧ ∀ (p : Nat) (hp : p < 6), p < i → tr T p w[p] = true) (fun w : Vector Int 6 => ((cntP h i h.length : Int) - w[i]).toNat) ⟨hz, hyz, hp⟩ (by have := (hz.cut i hi).1; omega) ?_
  rintro w ⟨h1, h2, h3⟩
  obtain ⟨w1, w2⟩ := h1.cut i hi
  obtain ⟨l, e1, e2, e3⟩ := tr_lat hT hi w1 w2
  unfold pred_First_B4
  simp only [vat_lt _ hi, Option.bind_some, e1, e2]
  rw [Tot.ite_iff]
  refine ⟨fun k => ?_, fun k => ?_⟩
  · have k : tr T i w[i] = false := by simpa using k
    have hn := low_next hi h1 k
    have e64 : w64 (w[i] + 1) = w[i] + 1 := w64_id (by omega) (by omega)
    rw [Tot.let_iff, Int.toNat_natCast, Vector.getElem_setIfInBounds_self, e64, Tot.ite_iff, e3]
    refine ⟨fun q => Tot.some_iff.2 ?_, fun q => Tot.some_iff.2 ?_⟩
    · have q : w[i] + 1 = ((cntP h i h.length + 1 : Nat) : Int) := by simpa using q
      exact .inr ⟨rfl, hn.2 (by omega)⟩
    · have q : ¬ w[i] + 1 = ((cntP h i h.length + 1 : Nat) : Int) := by simpa using q
      refine ⟨⟨hn.1 (by omega), fun p hp => ?_, fun p hp hpi => ?_⟩, ?_⟩
      · have := h2 p hp
        by_cases e : i = p
        · subst e; rw [Vector.getElem_setIfInBounds_self]; omega
        · rw [Vector.getElem_setIfInBounds_ne hp e]; exact this
      · rw [Vector.getElem_setIfInBounds_ne hp (by omega)]; exact h3 p hp hpi
      · rw [Vector.getElem_setIfInBounds_self]; omega
  · have k : tr T i w[i] = true := by simpa using k
    refine Tot.some_iff.2 (Tot.some_iff.2 (.inl ⟨w, rfl, h1, h2, fun p hp hpi => ?_⟩))
    by_cases e : p = i
    · subst e; exact k
    · exact h3 p hp (by omega)
theorem first_law {h : List Event} {T : List (List Bool)} {fu : Nat} (hfu : 500 ≤ fu) (hk : TruthCode h T 0) : Tot (pred_First fu h T) fun r => ∃ b, r.2 = (if b = true then 0 else 6) ∧ IsFirst h T (r.1, b) := by
  obtain ⟨hr, hT⟩ := hk.ok
  have hlen := hr.1
  unfold pred_First
  rw [Tot.bind_iff]
  refine (truth_law h T).mono fun e he => ?_
  obtain rfl := he.one hk
  rw [bne_self_eq_false, cond_false, Tot.andThen_iff]
  refine Tot.whileM (fun c : Vector Int 6 => Low h T c ∧ Closed h c) (far h) ⟨low_zero, zero_closed⟩ (by have := far_le hlen (zero_cut (h := h)); omega) ?_
  rintro c ⟨h1, h2⟩
  unfold pred_First_B0
  rw [Tot.bind_iff]
  refine (holds_law hT h1.cut).mono fun b hb => ?_
  rw [Tot.ite_iff]
  refine ⟨fun k => ?_, fun k => Tot.some_iff.2 (Tot.some_iff.2 ⟨true, rfl, .inl ⟨rfl, ⟨h1.cut, h2, hb.1 (by simpa using k)⟩, h1.low⟩⟩)⟩
  have hns : ¬ Sat T c := fun q => by rw [hb.2 q] at k; cases k
  rw [Tot.andThen_iff]
  refine Tot.rangeM (fun i w => Low h T w ∧ LeV c w ∧ ∀ (p : Nat) (hp : p < 6), p < i → tr T p w[p] = true) ⟨h1, LeV.refl _, fun p hp k => by omega⟩ ?_ ?_
  · rintro i w _ hi ⟨g1, g2, g3⟩
    refine (first_row hr hT (by omega) (by omega) g1 g2 g3).mono ?_
    rintro o (⟨w, rfl, q⟩ | ⟨rfl, q⟩)
    · exact q
    · exact ⟨false, rfl, .inr ⟨rfl, q⟩⟩
  · rintro w ⟨g1, g2, g3⟩
    obtain ⟨d, e1, e2⟩ := grow_ex hr g1.cut
    show Tot ((cut_Grow h w).bind _) _
    rw [e1, Option.bind_some, Tot.some_iff]
    refine ⟨⟨grown_low g1 e2, grown_closed hr e2⟩, far_lt (Grown.cut e2) (fun p hp => Int.le_trans (g2 p hp) (grown_ge g1.cut e2 p hp)) ?_⟩
    rintro rfl
    refine hns fun p hp => ?_
    have := g3 p hp (by omega)
    have a := g2 p hp
    have b := grown_ge g1.cut e2 p hp
    rwa [show w[p] = c[p] by omega] at this
theorem first_bad {h : List Event} {T : List (List Bool)} {e : Int} {fu : Nat} (hk : TruthCode h T e) (h0 : e ≠ 0) : pred_First fu h T = some (Vector.replicate 6 0, e) := by
  refine Tot.eq ?_
  unfold pred_First
  rw [Tot.bind_iff]
  refine (truth_law h T).mono fun e' he => ?_
  obtain rfl := he.one hk
  rw [show (e' != 0) = true by simpa using h0]
  exact Tot.some_iff.2 rfl
theorem reffirst_law {h : List Event} {T : List (List Bool)} {fu : Nat} (hfu : 500 ≤ fu) (hfu2 : fu ≤ 2 ^ 30) (hr : Right h) (hT : RightT h T) : Tot (partref_First fu h T) (IsFirst h T) := by
  have hlen := hr.1
  unfold partref_First
  rw [Tot.bind_iff]
  refine (sizes_law hr).mono fun n hn => ?_
  rw [Tot.andThen_iff]
  refine Tot.whileM (fun c : Vector Int 6 => Low h T c ∧ Closed h c) (far h) ⟨low_zero, zero_closed⟩ (by have := far_le hlen (zero_cut (h := h)); omega) ?_
  rintro c ⟨h1, h2⟩
  unfold partref_First_B0
  rw [Tot.bind_iff]
  refine (so_law hT h1.cut).mono fun b hb => ?_
  rw [Tot.ite_iff]
  refine ⟨fun k => ?_, fun k => Tot.some_iff.2 (Tot.some_iff.2 (.inl ⟨rfl, ⟨h1.cut, h2, hb.1 (by simpa using k)⟩, h1.low⟩))⟩
  have hns : ¬ Sat T c := fun q => by rw [hb.2 q] at k; cases k
  rw [Tot.andThen_iff]
  refine Tot.rangeM (fun i w => w = c ∧ ∀ (p : Nat) (hp : p < 6), p < i → tr T p c[p] = true) ⟨rfl, fun p hp k => by omega⟩ ?_ ?_
  · rintro i w _ hi ⟨rfl, g3⟩
    have hi : i < 6 := by omega
    have hle := cntP_le' (h := h) (p := (i : Int)) (j := h.length)
    obtain ⟨w1, w2⟩ := h1.cut i hi
    obtain ⟨l, e1, e2, e3⟩ := tr_lat hT hi w1 w2
    unfold partref_First_B2
    simp only [vat_lt _ hi, Option.bind_some, e1, e2, hn i hi]
    rw [Tot.ite_iff]
    refine ⟨fun k => ?_, fun k => Tot.some_iff.2 ⟨rfl, fun p hp hpi => ?_⟩⟩
    · have k : tr T i w[i] = false := by simpa using k
      have hnx := low_next hi h1 k
      rw [Tot.ite_iff]
      refine ⟨fun q => Tot.some_iff.2 ?_, fun q => ?_⟩
      · have q : w[i] = (cntP h i h.length : Int) := by simpa using q
        exact .inr ⟨rfl, hnx.2 (by omega)⟩
      · have q : ¬ w[i] = (cntP h i h.length : Int) := by simpa using q
        have hlow := hnx.1 (by omega)
        obtain ⟨d, _, hd⟩ := grow_ex hr hlow.cut
        rw [Tot.let_iff, Int.toNat_natCast, w64_id (by omega) (by omega), grow_or hr (by omega) hfu2 hd, Option.bind_some, Tot.some_iff]
        show Tot (some _) _
        rw [Tot.some_iff]
        refine ⟨⟨grown_low hlow hd, grown_closed hr hd⟩, far_lt (Grown.cut hd) (fun p hp => ?_) ?_⟩
        · have := grown_ge hlow.cut hd p hp
          by_cases e : i = p
          · subst e; rw [Vector.getElem_setIfInBounds_self] at this; omega
          · rw [Vector.getElem_setIfInBounds_ne hp e] at this; exact this
        · intro e
          have := grown_ge hlow.cut hd i hi
          rw [Vector.getElem_setIfInBounds_self, ← e] at this
          omega
    · by_cases e : p = i
      · subst e; simpa using k
      · exact g3 p hp (by omega)
  · rintro w ⟨rfl, g3⟩
    exact absurd (fun p hp => g3 p hp (by omega)) hns

theorem predsays_law (h : List Event) (T : List (List Bool)) (_ : Rng.ok h) (_ : Rng.ok T) : ∃ fu, partlaw_PredSays fu h T = some true := by
  refine ⟨10000, Tot.eq ?_⟩
  unfold partlaw_PredSays
  rw [Tot.bind_iff]
  refine (truth_ref h T).mono fun e he => ?_
  by_cases h0 : e = 0
  · subst h0
    obtain ⟨hr, hT⟩ := he.ok
    obtain ⟨⟨c, f⟩, ef, b, e1, e2⟩ := first_law (fu := 10000) (by omega) he
    simp only at e1 e2
    subst e1
    obtain ⟨⟨d, b'⟩, eg, e3⟩ := reffirst_law (fu := 10000) (by omega) (by omega) hr hT
    have := e3.one e2
    obtain ⟨rfl, rfl⟩ := Prod.mk.inj this
    rw [ef, Option.bind_some, must_law (by omega) he, Option.bind_some, Tot.bind_iff]
    refine (truth_law h T).mono fun e' he' => ?_
    obtain rfl := he'.one he
    rw [bne_self_eq_false, cond_false, cond_false, eg, Option.bind_some]
    have x1 : (b' != ((if b' = true then (0 : Int) else 6) == 0)) = false := by cases b' <;> rfl
    have x2 : ((if b' = true then (0 : Int) else 6) != 6) = b' := by cases b' <;> rfl
    simp only [x1, x2, decide_true, Bool.not_true, cond_false, Option.bind_some]
    have x3 : (bif !b' then (some b' : Option Bool) else some false) = some false := by cases b' <;> rfl
    rw [x3, Option.bind_some, cond_false, room_law hr, Option.bind_some]
    by_cases hm : many (base h) 0 > 4096
    · rw [if_pos hm, decide_eq_true (show (many (base h) 0 : Int) > 4096 by omega)]
      simp [Tot.some_iff]
    · rw [if_neg hm, decide_eq_false (show ¬ (many (base h) 0 : Int) > 4096 by omega), refmust_law (by omega) (by omega) (by omega) hr hT]
      simp [Tot.some_iff]
  · rw [first_bad he h0, Option.bind_some, must_bad he h0, Option.bind_some, Tot.bind_iff]
    refine (truth_law h T).mono fun e' he' => ?_
    obtain rfl := he'.one he
    have x : (e' != 0) = true := by simpa using h0
    rw [bne_self_eq_false, cond_false, x]
    simp [Tot.some_iff]
end Go.Proofs.Ytclmlddmgccfjaa
