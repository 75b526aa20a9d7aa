/-
  Cuts of histories: sizes, codes, tables of vectors, the least cut around and the greatest cut within.
-/
import Derived.Test.YtclmlddmgccfjaaTlCauses
namespace Go.Proofs.Ytclmlddmgccfjaa
open Enc

/-! ### Sizes -/
def IsSizes (h : List Event) (v : Vector Int 6) : Prop := ∀ (p : Nat) (hp : p < 6), v[p] = (cntP h p h.length : Int)
theorem IsSizes.one {h : List Event} {v w : Vector Int 6} (h1 : IsSizes h v) (h2 : IsSizes h w) : v = w := Vector.ext fun p hp => by rw [h1 p hp, h2 p hp]
theorem count_next {h : List Event} {j : Nat} {z : Vector Int 6} (hr : Right h) (hj : j < h.length) (hI : ∀ (p : Nat) (hp : p < 6), z[p] = (cntP h p j : Int)) :
    Tot ((lat h (j : Int)).bind fun x9 => (vat z x9.Proc).bind fun x14 => (vat z x9.Proc).bind fun _ => Let (z.setIfInBounds x9.Proc.toNat (w64 (x14 + (1 : Int)))) fun p20 => some p20) fun z => ∀ (p : Nat) (hp : p < 6), z[p] = (cntP h p (j + 1) : Int) := by
  have hx : h[j]? = some h[j] := by simp [hj]
  rw [Tot.bind_iff, Tot.lat_iff]
  refine ⟨hj, ?_⟩
  obtain ⟨r1, r2, _, _⟩ := hr.2.range hj hx
  generalize h[j] = x at hx r1 r2
  obtain ⟨P, K, M⟩ := x
  simp only at r1 r2
  obtain ⟨p, rfl⟩ := int_nat r1
  have hp : p < 6 := by omega
  have hlen := hr.1
  have hle := cntP_le (h := h) (p := (p : Int)) (j := j)
  simp only [Tot.bind_iff, Tot.vat_iff, Tot.let_iff, Tot.some_iff, Int.toNat_natCast]
  refine ⟨hp, hp, fun q hq => ?_⟩
  by_cases e : p = q
  · subst e
    rw [Vector.getElem_setIfInBounds_self, hI p hp, cntP_succ hx, if_pos rfl, w64_id (by omega) (by omega)]; omega
  · rw [Vector.getElem_setIfInBounds_ne hq e, hI q hq, cntP_succ hx, if_neg (by simp only; omega)]; rfl
theorem counts_law {h : List Event} (hr : Right h) : Tot (cut_counts h) (IsSizes h) := by
  unfold cut_counts
  rw [Tot.bind_iff]
  refine Tot.rangeF (fun j z => ∀ (p : Nat) (hp : p < 6), z[p] = (cntP h p j : Int)) (fun p hp => by simp [cntP_zero]) ?_ ?_
  · intro j z _ hj hI
    unfold cut_counts_B0
    exact count_next hr (by omega) hI
  · intro z hI
    rw [Nat.zero_add] at hI
    exact Tot.some_iff.2 hI

/-! ### What may be a cut -/
def IsCut (h : List Event) (c : Vector Int 6) : Prop := ∀ (p : Nat) (hp : p < 6), 0 ≤ c[p] ∧ c[p] ≤ (cntP h p h.length : Int)
def CutCode (h : List Event) (c : Vector Int 6) (r : Int) : Prop := (HistCode h r ∧ r ≠ 0) ∨ (Right h ∧ IsCut h c ∧ r = 0) ∨ (Right h ∧ ¬ IsCut h c ∧ r = 1)
theorem CutCode.one {h : List Event} {c : Vector Int 6} {r s : Int} (h1 : CutCode h c r) (h2 : CutCode h c s) : r = s := by
  rcases h1 with ⟨a, b⟩ | ⟨a, b, rfl⟩ | ⟨a, b, rfl⟩ <;> rcases h2 with ⟨a', b'⟩ | ⟨a', b', rfl⟩ | ⟨a', b', rfl⟩
  · exact a.one a'
  · exact absurd (a.of_right a') b
  · exact absurd (a.of_right a') b
  · exact absurd (a'.of_right a) b'
  · rfl
  · exact absurd b b'
  · exact absurd (a'.of_right a) b'
  · exact absurd b' b
  · rfl
theorem CutCode.ok {h : List Event} {c : Vector Int 6} (h1 : CutCode h c 0) : Right h ∧ IsCut h c := by
  rcases h1 with ⟨_, b⟩ | ⟨a, b, _⟩ | ⟨_, _, c⟩
  · exact absurd rfl b
  · exact ⟨a, b⟩
  · cases c

/-! ### Sets of events of a cut -/
/-- The events of a cut. -/
def InC (h : List Event) (c : Vector Int 6) (i : Nat) : Prop := ∃ x, h[i]? = some x ∧ ∃ (p : Nat) (hp : p < 6), x.Proc = p ∧ (cntP h p (i + 1) : Int) ≤ c[p]
theorem inC_iff {h : List Event} {c : Vector Int 6} {i p : Nat} {x : Event} (hx : h[i]? = some x) (hp : p < 6) (e : x.Proc = p) : InC h c i ↔ (cntP h p (i + 1) : Int) ≤ c[p] := by
  constructor
  · rintro ⟨y, hy, q, hq, e', k⟩
    rw [hx] at hy
    obtain rfl := Option.some.inj hy
    have : p = q := by omega
    subst this; exact k
  · intro k; exact ⟨x, hx, p, hp, e, k⟩
theorem IsCut.below {h : List Event} {c : Vector Int 6} (hc : IsCut h c) : Below h c (InC h c) := fun p hp => ⟨(hc p hp).1, (hc p hp).2, fun _ _ hx e => by rw [inC_iff hx hp e]⟩
theorem InC.down {h : List Event} {c : Vector Int 6} {i k : Nat} {x y : Event} (hk : InC h c k) (hx : h[i]? = some x) (hy : h[k]? = some y) (e : x.Proc = y.Proc) (hik : i ≤ k) : InC h c i := by
  obtain ⟨y', hy', p, hp, e', hc⟩ := hk
  rw [hy] at hy'
  obtain rfl := Option.some.inj hy'
  have := cntP_mono (h := h) (p := (p : Int)) (show i + 1 ≤ k + 1 by omega)
  exact ⟨x, hx, p, hp, by omega, by omega⟩
def Grown (h : List Event) (c : Vector Int 6) (i : Nat) : Prop := ∃ k, InC h c k ∧ Hbe h i k
def Shrunk (h : List Event) (c : Vector Int 6) (i : Nat) : Prop := ∀ j, Hbe h j i → InC h c j
theorem InC.lt {h : List Event} {c : Vector Int 6} {i : Nat} (hk : InC h c i) : i < h.length := by
  obtain ⟨x, hx, _⟩ := hk
  exact (List.getElem?_eq_some_iff.1 hx).1

/-! ### The table of vectors -/
structure VTab (h : List Event) (j : Nat) (l : Vector (List (Vector Int 6)) 6) : Prop where
  len : ∀ (p : Nat) (hp : p < 6), l[p].length = cntP h p j
  get : ∀ (p : Nat) (hp : p < 6) (i : Nat) (x : Event), i < j → h[i]? = some x → x.Proc = p → ∃ v, l[p][cntP h p (i + 1) - 1]? = some v ∧ Below h v fun k => Hbe h k i
theorem table_law {h : List Event} (hr : Right h) : Tot (cut_vectors h) (VTab h h.length) := by
  unfold cut_vectors
  rw [Tot.bind_iff]
  refine (vectors_law hr).mono ?_
  rintro ⟨vs, e⟩ ⟨_, hv⟩
  simp only at hv
  rw [Tot.bind_iff]
  refine Tot.rangeF (VTab h) ⟨fun p hp => by simp [cntP_zero], fun p hp i x hi => by omega⟩ ?_ ?_
  · rintro j z _ hj ⟨h1, h2⟩
    have hj : j < h.length := by omega
    have hx : h[j]? = some h[j] := by simp [hj]
    have hlen := hr.1
    unfold cut_vectors_B0
    rw [Tot.bind_iff, Tot.lat_iff]
    refine ⟨hj, ?_⟩
    obtain ⟨r1, r2, _, _⟩ := hr.2.range hj hx
    generalize h[j] = x at hx r1 r2
    obtain ⟨P, K, M⟩ := x
    simp only at r1 r2
    obtain ⟨p, rfl⟩ := int_nat r1
    have hp : p < 6 := by omega
    simp only [Tot.bind_iff, Tot.vat_iff, Tot.let_iff, Tot.some_iff, Int.toNat_natCast, Tot.lat_iff, Tot.room_iff]
    have hjv : j < vs.length := by rw [hv.1]; exact hj
    have hle := cntP_le (h := h) (p := (p : Int)) (j := j)
    have hl1 := h1 p hp
    have hb := hv.2 j vs[j] (by simp [hjv])
    refine ⟨hp, hjv, by simp; omega, hp, ⟨fun q hq => ?_, fun q hq i y hi hy e => ?_⟩⟩
    · by_cases e : p = q
      · subst e
        rw [Vector.getElem_setIfInBounds_self, List.length_append, hl1, cntP_succ hx, if_pos rfl]; rfl
      · rw [Vector.getElem_setIfInBounds_ne hq e, h1 q hq, cntP_succ hx, if_neg (by simp only; omega)]; rfl
    · by_cases e2 : p = q
      · subst e2
        rw [Vector.getElem_setIfInBounds_self]
        by_cases e3 : i = j
        · subst e3
          refine ⟨vs[i], ?_, hb⟩
          rw [cntP_succ hx, if_pos rfl, Nat.add_sub_cancel, List.getElem?_append_right (by omega), ← hl1, Nat.sub_self]; rfl
        · obtain ⟨u, k1, k2⟩ := h2 p hp i y (by omega) hy e
          refine ⟨u, ?_, k2⟩
          rw [List.getElem?_append_left (List.getElem?_eq_some_iff.1 k1).1]; exact k1
      · rw [Vector.getElem_setIfInBounds_ne hq e2]
        refine h2 q hq i y ?_ hy e
        rcases Nat.lt_or_ge i j with k | k
        · exact k
        · have : i = j := by omega
          subst this
          rw [hx] at hy
          obtain rfl := Option.some.inj hy
          simp only at e
          omega
  · intro z hI
    rw [Nat.zero_add] at hI
    exact Tot.some_iff.2 hI
theorem grown_law {h : List Event} {l : Vector (List (Vector Int 6)) 6} {c : Vector Int 6} (hr : Right h) (hl : VTab h h.length l) (hc : IsCut h c) : Tot (cut_grown l c) fun d => Below h d (Grown h c) := by
  unfold cut_grown
  rw [Tot.bind_iff]
  refine Tot.rangeF (fun p z => Below h z fun i => InC h c i ∨ ∃ (k : Nat) (x : Event), h[k]? = some x ∧ x.Proc < p ∧ InC h c k ∧ Hbe h i k) ?_ ?_ ?_
  · intro q hq
    refine (hc.below q hq).congr fun i x hx e => ⟨?_, .inl⟩
    rintro (k | ⟨k, y, hy, a, _⟩)
    · exact k
    · have hk := (List.getElem?_eq_some_iff.1 hy).1
      have := (hr.2.range hk hy).1
      omega
  · intro p z _ hp hI
    have hp : p < 6 := by omega
    have hlen := hr.1
    have hle := cntP_le' (h := h) (p := (p : Int)) (j := h.length)
    obtain ⟨c1, c2⟩ := hc p hp
    unfold cut_grown_B0
    rw [vat_lt _ hp, Option.bind_some, Tot.ite_iff]
    refine ⟨fun k => ?_, fun k => Tot.some_iff.2 fun q hq => (hI q hq).congr fun i x hx e => ?_⟩
    · have k : 0 < c[p] := by simpa using k
      rw [vat_lt _ hp, Option.bind_some]
      obtain ⟨m, x, hm, hx, hxp, hcm⟩ := cntP_surj (h := h) (p := (p : Int)) (n := c[p].toNat) (by omega) h.length (by omega)
      obtain ⟨v, hv, hb⟩ := hl.get p hp m x hm hx hxp
      have e1 : w64 (c[p] - 1) = ((cntP h p (m + 1) - 1 : Nat) : Int) := by rw [w64_id (by omega) (by omega)]; omega
      rw [e1, lat_nat, hv, Option.bind_some, Tot.bind_iff]
      refine (vmax_law z v).mono fun w hw => Tot.some_iff.2 fun q hq => ?_
      rw [hw q hq]
      refine ((hI q hq).max (hb q hq)).congr fun i y hy hyq => ?_
      constructor
      · rintro (a | ⟨k', u, hu, a, b, d⟩)
        · exact .inl (.inl a)
        · by_cases e : u.Proc < p
          · exact .inl (.inr ⟨k', u, hu, e, b, d⟩)
          · have eu : u.Proc = p := by omega
            refine .inr (d.trans (same_hbe ?_ hu hx (by omega)))
            have := (inC_iff hu hp eu).1 b
            refine (cntP_le_iff hu hx (by omega)).1 ?_
            rw [hxp]; omega
      · rintro ((a | ⟨k', u, hu, a, b⟩) | a)
        · exact .inl a
        · exact .inr ⟨k', u, hu, by omega, b⟩
        · refine .inr ⟨m, x, hx, by omega, (inC_iff hx hp hxp).2 (by omega), a⟩
    · have k : ¬ 0 < c[p] := by simpa using k
      constructor
      · rintro (a | ⟨k', u, hu, a, b, d⟩)
        · exact .inl a
        · refine .inr ⟨k', u, hu, ?_, b, d⟩
          rcases Int.lt_or_le u.Proc p with h3 | h3
          · exact h3
          · have eu : u.Proc = p := by omega
            have := (inC_iff hu hp eu).1 b
            have := cntP_pos hu
            rw [eu] at this
            omega
      · rintro (a | ⟨k', u, hu, a, b⟩)
        · exact .inl a
        · exact .inr ⟨k', u, hu, by omega, b⟩
  · intro z hI
    refine Tot.some_iff.2 fun q hq => (hI q hq).congr fun i x hx e => ?_
    constructor
    · rintro ⟨k, a, b⟩
      obtain ⟨y, hy, p, hp, e2, _⟩ := id a
      exact .inr ⟨k, y, hy, by omega, a, b⟩
    · rintro (a | ⟨k, y, hy, _, b, d⟩)
      · exact ⟨i, a, .inl rfl⟩
      · exact ⟨k, b, d⟩
theorem shrunk_iff {h : List Event} {c v : Vector Int 6} {i : Nat} (hr : Right h) (hc : IsCut h c) (hi : i < h.length) (hv : Below h v fun k => Hbe h k i) : LeV v c ↔ Shrunk h c i := by
  constructor
  · intro h1 j hj
    have hjl : j < h.length := by
      rcases hj with rfl | hj
      · exact hi
      · exact Nat.lt_trans hj.lt hj.in
    have hx : h[j]? = some h[j] := by simp [hjl]
    obtain ⟨r1, r2, _, _⟩ := hr.2.range hjl hx
    obtain ⟨p, hp⟩ := int_nat r1
    have hp6 : p < 6 := by omega
    have := ((hv p hp6).iff j _ hx hp).1 hj
    have := h1 p hp6
    exact (inC_iff hx hp6 hp).2 (by omega)
  · intro h1 p hp
    refine (hv p hp).le (hc.below p hp) fun j x hx e hj => h1 j hj
theorem Grown.cut {h : List Event} {c d : Vector Int 6} (hd : Below h d (Grown h c)) : IsCut h d := fun p hp => ⟨(hd p hp).lo, (hd p hp).hi⟩
end Go.Proofs.Ytclmlddmgccfjaa
