/-
  TopCauses: the plain law.
-/
import Derived.Test.YtclmlddmgccfjaaTcHistOf
import Derived.Test.YtclmlddmgccfjaaTcStamps
namespace Go.Proofs.Ytclmlddmgccfjaa
open Enc

theorem vec_le {h : List Event} {v w : Vector Int 6} {i k : Nat} (hr : Right h) (hi : i < h.length) (hv : Below h v fun j => Hbe h j i) (hw : Below h w fun j => Hbe h j k) : LeV v w ↔ Hbe h i k := by
  have hx : h[i]? = some h[i] := by simp [hi]
  obtain ⟨r1, r2, _, _⟩ := hr.2.range hi hx
  obtain ⟨p, hp⟩ := int_nat r1
  have hp6 : p < 6 := by omega
  constructor
  · intro h1
    have a1 := ((hv p hp6).iff i _ hx hp).1 (.inl rfl)
    have := h1 p hp6
    exact ((hw p hp6).iff i _ hx hp).2 (by omega)
  · intro h1 q hq
    exact (hv q hq).le (hw q hq) fun j x _ _ hj => hj.trans h1
theorem vec_right {h : List Event} {v : Vector Int 6} {i : Nat} (hr : Right h) (hi : i < h.length) (hv : Below h v fun j => Hbe h j i) : cut_Right h v = some (true, 0) := by
  have hc : IsCut h v := fun p hp => ⟨(hv p hp).lo, (hv p hp).hi⟩
  obtain ⟨⟨d, e⟩, er, e0, hd⟩ := grow_law (h := h) (c := v) (.inr (.inl ⟨hr, hc, rfl⟩))
  simp only at e0 hd
  subst e0
  have : d = v := by
    refine hd.one fun p hp => (hv p hp).congr fun j x hx e => ?_
    have inc : ∀ (k : Nat) y, h[k]? = some y → (InC h v k ↔ Hbe h k i) := by
      intro k y hy
      have hk := (List.getElem?_eq_some_iff.1 hy).1
      obtain ⟨r1, r2, _, _⟩ := hr.2.range hk hy
      obtain ⟨q, hq⟩ := int_nat r1
      have hq6 : q < 6 := by omega
      rw [inC_iff hy hq6 hq, (hv q hq6).iff k y hy hq]
    constructor
    · rintro ⟨k, k1, k2⟩
      obtain ⟨y, hy, _⟩ := id k1
      exact k2.trans ((inc k y hy).1 k1)
    · intro k
      have hy : h[i]? = some h[i] := by simp [hi]
      exact ⟨i, (inc i _ hy).2 (.inl rfl), k⟩
  subst this
  unfold cut_Right
  rw [er]
  simp
theorem topcauses_law (l : List Event) (_ : Rng.ok l) : parttop_TopCauses l = some true := by
  refine Tot.eq ?_
  unfold parttop_TopCauses
  rw [top_grown, Option.bind_some, Bool.not_true, cond_false, Tot.bind_iff]
  refine (historyof_law l).mono fun h hr => ?_
  rw [Tot.bind_iff]
  refine (stamps_law hr).mono ?_
  rintro ⟨s, e⟩ ⟨e0, hs⟩
  simp only at e0 hs
  subst e0
  rw [Tot.bind_iff]
  refine (vectors_law hr).mono ?_
  rintro ⟨v, e⟩ ⟨e0, hv⟩
  simp only at e0 hv
  subst e0
  rw [bne_self_eq_false, cond_false, Option.bind_some, cond_false, Tot.andThen_iff]
  refine Tot.rangeM (fun _ _ => True) trivial ?_ (fun _ _ => Tot.some_iff.2 rfl)
  intro i _ _ hi _
  have hi : i < h.length := by omega
  have hvi : i < v.length := by rw [hv.1]; exact hi
  have hbi := hv.2 i v[i] (by simp [hvi])
  unfold parttop_TopCauses_B0
  simp only [lat_lt hvi, Option.bind_some, vec_right hr hi hbi, bne_self_eq_false, cond_false, Bool.not_true]
  rw [Tot.andThen_iff]
  refine Tot.rangeM (fun _ _ => True) trivial ?_ (fun _ _ => Tot.some_iff.2 trivial)
  intro k _ _ hk _
  have hk : k < h.length := by omega
  have hvk : k < v.length := by rw [hv.1]; exact hk
  have hbk := hv.2 k v[k] (by simp [hvk])
  have hsi : i < s.length := by rw [hs.len]; exact hi
  have hsk : k < s.length := by rw [hs.len]; exact hk
  unfold parttop_TopCauses_B2
  simp only [lat_lt hvi, lat_lt hvk, lat_lt hsi, lat_lt hsk, Option.bind_some, compare_law]
  have hle := vec_le hr hi hbi hbk
  have hle2 := vec_le hr hk hbk hbi
  have hc1 : (cmpV v[i] v[k] == 1) = true ↔ Hb h i k := by
    rw [beq_iff_eq]
    unfold cmpV
    by_cases e : v[i] = v[k]
    · rw [if_pos e]
      have a1 := hle.1 (by rw [e]; exact LeV.refl _)
      have a2 := hle2.1 (by rw [e]; exact LeV.refl _)
      have : i = k := by have := a1.le; have := a2.le; omega
      subst this
      exact ⟨fun q => by omega, fun q => absurd q.lt (by omega)⟩
    · rw [if_neg e]
      have hne : i ≠ k := fun k => e (by subst k; rfl)
      constructor
      · intro q
        split at q
        · rename_i hl
          exact (hle.1 hl).resolve_left hne
        · split at q <;> omega
      · intro q
        rw [if_pos (hle.2 (.inr q))]
  rw [Tot.bind_iff]
  have hw : Tot (bif (i : Int) != (k : Int) then (vect_Within v[i] v[k]).bind fun r68 => some r68 else some false) fun b => b = true ↔ Hb h i k := by
    rw [Tot.ite_iff]
    refine ⟨fun e => ?_, fun e => Tot.some_iff.2 ?_⟩
    · have hne : i ≠ k := by intro e2; subst e2; simp at e
      rw [Tot.bind_iff]
      refine (within_law _ _).mono fun b hb => Tot.some_iff.2 ?_
      rw [hb, hle]
      exact ⟨fun k => k.resolve_left hne, .inr⟩
    · have : i = k := by simp at e; omega
      subst this
      show (false = true) ↔ Hb h i i
      constructor
      · intro q; exact absurd q (by decide)
      · intro q; have := Hb.lt q; omega
  refine hw.mono fun b hb => ?_
  have e1 : b = (cmpV v[i] v[k] == 1) := by rw [Bool.eq_iff_iff, hb, hc1]
  subst e1
  rw [bne_self_eq_false, cond_false]
  have e2 : (bif cmpV v[i] v[k] == 1 then some (decide (s[i] ≥ s[k])) else some false) = some false := by
    cases hq : (cmpV v[i] v[k] == 1) with
    | false => rfl
    | true =>
      have := hs.up i k s[i] s[k] (by simp [hsi]) (by simp [hsk]) (hc1.1 hq)
      rw [cond_true, decide_eq_false (by omega)]
  rw [e2]
  exact Tot.some_iff.2 trivial
end Go.Proofs.Ytclmlddmgccfjaa
