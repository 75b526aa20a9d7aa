/-
  Histories: what comes before what; vectors.
-/
import Derived.Test.YtclmlddmgccfjaaTlHist
import Derived.Test.YtclmlddmgccfjaaTlClosure
namespace Go.Proofs.Ytclmlddmgccfjaa
open Enc

/-! ### Before -/
def Prec (h : List Event) (i k : Nat) : Prop := i < k ∧ ∃ x y, h[i]? = some x ∧ h[k]? = some y ∧ (x.Proc = y.Proc ∨ (x.Kind = 2 ∧ y.Kind = 3 ∧ x.Msg = y.Msg))
def Hb (h : List Event) : Nat → Nat → Prop := Relation.TransGen (Prec h)
def Hbe (h : List Event) (i k : Nat) : Prop := i = k ∨ Hb h i k
theorem Hb.lt {h : List Event} {i k : Nat} (hk : Hb h i k) : i < k := by
  induction hk with
  | single h1 => exact h1.1
  | tail _ h1 ih => exact Nat.lt_trans ih h1.1
theorem Hb.in {h : List Event} {i k : Nat} (hk : Hb h i k) : k < h.length := by
  cases hk with
  | single h1 => obtain ⟨_, x, y, _, hy, _⟩ := h1; exact (List.getElem?_eq_some_iff.1 hy).1
  | tail _ h1 => obtain ⟨_, x, y, _, hy, _⟩ := h1; exact (List.getElem?_eq_some_iff.1 hy).1
theorem Hbe.le {h : List Event} {i k : Nat} (hk : Hbe h i k) : i ≤ k := by
  rcases hk with rfl | hk
  · exact Nat.le_refl _
  · exact Nat.le_of_lt hk.lt
theorem Hb.trans {h : List Event} {i j k : Nat} (h1 : Hb h i j) (h2 : Hb h j k) : Hb h i k := by
  induction h2 with
  | single h2 => exact .tail h1 h2
  | tail _ h2 ih => exact .tail ih h2
theorem Hbe.trans {h : List Event} {i j k : Nat} (h1 : Hbe h i j) (h2 : Hbe h j k) : Hbe h i k := by
  rcases h1 with rfl | h1
  · exact h2
  · rcases h2 with rfl | h2
    · exact .inr h1
    · exact .inr (h1.trans h2)
theorem Hbe.step {h : List Event} {i k : Nat} : Hbe h i k ↔ i = k ∨ ∃ l, Hbe h i l ∧ Prec h l k := by
  constructor
  · rintro (rfl | hk)
    · exact .inl rfl
    · cases hk with
      | single h1 => exact .inr ⟨i, .inl rfl, h1⟩
      | tail h0 h1 => exact .inr ⟨_, .inr h0, h1⟩
  · rintro (rfl | ⟨l, rfl | h0, h1⟩)
    · exact .inl rfl
    · exact .inr (.single h1)
    · exact .inr (.tail h0 h1)
theorem Prec.hbe {h : List Event} {i k : Nat} (h1 : Prec h i k) : Hbe h i k := .inr (.single h1)
theorem same_hbe {h : List Event} {i k : Nat} {x y : Event} (hik : i ≤ k) (hx : h[i]? = some x) (hy : h[k]? = some y) (hp : x.Proc = y.Proc) : Hbe h i k := by
  rcases Nat.lt_or_ge i k with h1 | h1
  · exact Prec.hbe ⟨h1, x, y, hx, hy, .inl hp⟩
  · exact .inl (by omega)

/-! ### Numbers of events -/
def cntP (h : List Event) (p : Int) (j : Nat) : Nat := (h.take j).countP fun x => x.Proc == p
theorem cntP_zero {h : List Event} {p : Int} : cntP h p 0 = 0 := by simp [cntP]
theorem cntP_succ {h : List Event} {p : Int} {j : Nat} {x : Event} (hx : h[j]? = some x) : cntP h p (j + 1) = cntP h p j + if x.Proc = p then 1 else 0 := by
  unfold cntP
  rw [List.take_add_one, hx, List.countP_append]
  simp [List.countP_cons]
theorem cntP_mono {h : List Event} {p : Int} {i j : Nat} (hij : i ≤ j) : cntP h p i ≤ cntP h p j := by
  unfold cntP
  refine List.Sublist.countP_le ?_
  have : h.take i = (h.take j).take i := by rw [List.take_take, Nat.min_eq_left hij]
  rw [this]; exact List.take_sublist _ _
theorem cntP_le {h : List Event} {p : Int} {j : Nat} : cntP h p j ≤ j := by
  unfold cntP
  exact Nat.le_trans List.countP_le_length (by simp; omega)
theorem cntP_le' {h : List Event} {p : Int} {j : Nat} : cntP h p j ≤ h.length := by
  unfold cntP
  exact Nat.le_trans List.countP_le_length (by simp; omega)
theorem cntP_end {h : List Event} {p : Int} {j : Nat} (hj : h.length ≤ j) : cntP h p j = cntP h p h.length := by
  unfold cntP; rw [List.take_of_length_le hj, List.take_length]
theorem cntP_pos {h : List Event} {i : Nat} {x : Event} (hx : h[i]? = some x) : 1 ≤ cntP h x.Proc (i + 1) := by rw [cntP_succ hx, if_pos rfl]; omega
theorem cntP_lt {h : List Event} {i j : Nat} {y : Event} (hij : i < j) (hy : h[j]? = some y) : cntP h y.Proc (i + 1) < cntP h y.Proc (j + 1) := by
  have := cntP_mono (h := h) (p := y.Proc) (show i + 1 ≤ j by omega)
  rw [cntP_succ hy, if_pos rfl]; omega
theorem cntP_le_iff {h : List Event} {i j : Nat} {x y : Event} (hx : h[i]? = some x) (_hy : h[j]? = some y) (hp : x.Proc = y.Proc) : cntP h y.Proc (i + 1) ≤ cntP h y.Proc (j + 1) ↔ i ≤ j := by
  constructor
  · intro h1
    rcases Nat.lt_or_ge j i with h2 | h2
    · have := cntP_lt h2 hx
      rw [hp] at this; omega
    · exact h2
  · intro h1; exact cntP_mono (by omega)
theorem cntP_surj {h : List Event} {p : Int} {n : Nat} (h1 : 1 ≤ n) : ∀ j, n ≤ cntP h p j → ∃ (i : Nat) (x : Event), i < j ∧ h[i]? = some x ∧ x.Proc = p ∧ cntP h p (i + 1) = n
  | 0, h2 => by rw [cntP_zero] at h2; omega
  | j + 1, h2 => by
    by_cases h3 : n ≤ cntP h p j
    · obtain ⟨i, x, a, b⟩ := cntP_surj h1 j h3
      exact ⟨i, x, by omega, b⟩
    · cases hx : h[j]? with
      | none =>
        have : h.length ≤ j := List.getElem?_eq_none_iff.1 hx
        rw [cntP_end (show h.length ≤ j + 1 by omega)] at h2
        rw [cntP_end this] at h3
        omega
      | some x =>
        rw [cntP_succ hx] at h2
        split at h2
        · rename_i hp
          exact ⟨j, x, by omega, hx, hp, by rw [cntP_succ hx, if_pos hp]; omega⟩
        · omega

/-! ### Sets of events, by numbers -/
structure BelowAt (h : List Event) (p : Int) (n : Int) (S : Nat → Prop) : Prop where
  lo : 0 ≤ n
  hi : n ≤ cntP h p h.length
  iff : ∀ (i : Nat) (x : Event), h[i]? = some x → x.Proc = p → (S i ↔ (cntP h p (i + 1) : Int) ≤ n)
namespace BelowAt
variable {h : List Event} {p n m : Int} {S S' : Nat → Prop}
theorem le (h1 : BelowAt h p n S) (h2 : BelowAt h p m S') (hs : ∀ (i : Nat) (x : Event), h[i]? = some x → x.Proc = p → S i → S' i) : n ≤ m := by
  rcases Int.lt_or_le m n with hlt | hlt
  · obtain ⟨i, x, _, b, c, d⟩ := cntP_surj (h := h) (p := p) (n := n.toNat) (by have := h2.lo; omega) h.length (by have := h1.hi; omega)
    have e1 := (h1.iff i x b c).2 (by have := h1.lo; omega)
    have e2 := (h2.iff i x b c).1 (hs i x b c e1)
    have := h1.lo
    omega
  · exact hlt
theorem one (h1 : BelowAt h p n S) (h2 : BelowAt h p m S') (hs : ∀ (i : Nat) (x : Event), h[i]? = some x → x.Proc = p → (S i ↔ S' i)) : n = m := by
  have := h1.le h2 fun i x a b => (hs i x a b).1
  have := h2.le h1 fun i x a b => (hs i x a b).2
  omega
theorem max (h1 : BelowAt h p n S) (h2 : BelowAt h p m S') : BelowAt h p (max n m) fun i => S i ∨ S' i := by
  refine ⟨by have := h1.lo; omega, by have := h1.hi; have := h2.hi; omega, fun i x a b => ?_⟩
  rw [h1.iff i x a b, h2.iff i x a b]; omega
theorem congr (h1 : BelowAt h p n S) (hs : ∀ (i : Nat) (x : Event), h[i]? = some x → x.Proc = p → (S' i ↔ S i)) : BelowAt h p n S' :=
  ⟨h1.lo, h1.hi, fun i x a b => (hs i x a b).trans (h1.iff i x a b)⟩
theorem zero (hs : ∀ (i : Nat) (x : Event), h[i]? = some x → x.Proc = p → ¬ S i) : BelowAt h p 0 S := by
  refine ⟨by omega, by omega, fun i x a b => ⟨fun k => absurd k (hs i x a b), fun k => ?_⟩⟩
  have := cntP_pos a
  rw [b] at this; omega
theorem upto {k : Nat} {y : Event} (hy : h[k]? = some y) : BelowAt h y.Proc (cntP h y.Proc (k + 1) : Int) fun i => i ≤ k := by
  have hk := (List.getElem?_eq_some_iff.1 hy).1
  refine ⟨by omega, by have := cntP_mono (h := h) (p := y.Proc) (show k + 1 ≤ h.length by omega); omega, fun i x a b => ?_⟩
  rw [← cntP_le_iff a hy b]; omega
end BelowAt
def Below (h : List Event) (v : Vector Int 6) (S : Nat → Prop) : Prop := ∀ (p : Nat) (hp : p < 6), BelowAt h p v[p] S
theorem Below.one {h : List Event} {v w : Vector Int 6} {S : Nat → Prop} (h1 : Below h v S) (h2 : Below h w S) : v = w := by
  apply Vector.ext
  intro p hp
  exact (h1 p hp).one (h2 p hp) fun _ _ _ _ => Iff.rfl
def Vecs (h : List Event) (l : List (Vector Int 6)) : Prop := l.length = h.length ∧ ∀ (k : Nat) v, l[k]? = some v → Below h v fun i => Hbe h i k
theorem Vecs.one {h : List Event} {l m : List (Vector Int 6)} (h1 : Vecs h l) (h2 : Vecs h m) : l = m := by
  apply List.ext_getElem?
  intro k
  by_cases hk : k < h.length
  · have a : l[k]? = some (l[k]'(by rw [h1.1]; exact hk)) := by simp
    have b : m[k]? = some (m[k]'(by rw [h2.1]; exact hk)) := by simp
    rw [a, b, (h1.2 k _ a).one (h2.2 k _ b)]
  · rw [List.getElem?_eq_none (by rw [h1.1]; omega), List.getElem?_eq_none (by rw [h2.1]; omega)]

/-! ### The program's vectors -/
theorem vmax_law (a b : Vector Int 6) : Tot (vect_Max a b) fun w => ∀ (p : Nat) (hp : p < 6), w[p] = max a[p] b[p] := by
  unfold vect_Max
  rw [Tot.bind_iff]
  refine Tot.rangeF (fun i w => ∀ (p : Nat) (hp : p < 6), w[p] = if p < i then max a[p] b[p] else a[p]) (fun p hp => by simp) ?_ ?_
  · intro i w _ hi hI
    have hi6 : i < 6 := by omega
    unfold vect_Max_B0
    simp only [Tot.bind_iff, Tot.vat_iff, Tot.let_iff, Tot.some_iff, Int.toNat_natCast]
    refine ⟨hi6, hi6, hi6, fun p hp => ?_⟩
    by_cases e : i = p
    · subst e
      rw [Vector.getElem_setIfInBounds_self, hI i hi6]
      simp
    · rw [Vector.getElem_setIfInBounds_ne hp e, hI p hp]
      by_cases e2 : p < i
      · rw [if_pos e2, if_pos (by omega)]
      · rw [if_neg e2, if_neg (by omega)]
  · intro w hw
    rw [Tot.some_iff]
    intro p hp
    rw [hw p hp, if_pos (by omega)]
def OfProc (h : List Event) (j : Nat) (p : Int) (i : Nat) : Prop := ∃ (l : Nat) (x : Event), l < j ∧ h[l]? = some x ∧ x.Proc = p ∧ Hbe h i l
def OfMsg (h : List Event) (j : Nat) (m : Int) (i : Nat) : Prop := ∃ (l : Nat) (x : Event), l < j ∧ h[l]? = some x ∧ x.Kind = 2 ∧ x.Msg = m ∧ Hbe h i l
theorem hbe_new {h : List Event} {j i : Nat} {x : Event} (hx : h[j]? = some x) : Hbe h i j ↔ i = j ∨ OfProc h j x.Proc i ∨ (x.Kind = 3 ∧ OfMsg h j x.Msg i) := by
  rw [Hbe.step]
  constructor
  · rintro (h1 | ⟨l, h1, h2, a, b, ha, hb, h3⟩)
    · exact .inl h1
    · rw [hx] at hb
      obtain rfl := Option.some.inj hb
      rcases h3 with h3 | ⟨k1, k2, k3⟩
      · exact .inr (.inl ⟨l, a, h2, ha, h3, h1⟩)
      · exact .inr (.inr ⟨k2, l, a, h2, ha, k1, k3, h1⟩)
  · rintro (h1 | ⟨l, a, h2, ha, h3, h1⟩ | ⟨k2, l, a, h2, ha, k1, k3, h1⟩)
    · exact .inl h1
    · exact .inr ⟨l, h1, h2, a, x, ha, hx, .inl h3⟩
    · exact .inr ⟨l, h1, h2, a, x, ha, hx, .inr ⟨k1, k2, k3⟩⟩
structure VInv (h : List Event) (j : Nat) (z : (Vector (Vector Int 6) 30) × (Vector (Vector Int 6) 6) × (Vector Int 6) × (List (Vector Int 6))) : Prop where
  last : ∀ (p : Nat) (hp : p < 6), z.2.2.1[p] = (cntP h p j : Int)
  now : ∀ (p : Nat) (hp : p < 6), Below h z.2.1[p] (OfProc h j p)
  sent : ∀ (m : Nat) (hm : m < 30), Below h z.1[m] (OfMsg h j m)
  out : z.2.2.2.length = j ∧ ∀ (k : Nat) v, z.2.2.2[k]? = some v → Below h v fun i => Hbe h i k
theorem vinv_step {h : List Event} {j : Nat} {z : (Vector (Vector Int 6) 30) × (Vector (Vector Int 6) 6) × (Vector Int 6) × (List (Vector Int 6))} (hr : Right h) (hj : j < h.length) (hI : VInv h j z) : Tot (vect_Vectors_B0 h j z) (VInv h (j + 1)) := by
  obtain ⟨sent, now, last, out⟩ := z
  obtain ⟨h1, h2, h3, h4, h5⟩ := hI
  simp only at h1 h2 h3 h4 h5
  have hx : h[j]? = some h[j] := by simp [hj]
  unfold vect_Vectors_B0
  rw [Tot.bind_iff, Tot.lat_iff]
  refine ⟨hj, ?_⟩
  generalize h[j] = x at hx
  obtain ⟨hro, hk⟩ := evErr_at hx (hr.2 j hj)
  obtain ⟨P, K, M⟩ := x
  obtain ⟨r1, r2, r3, r4⟩ := hro
  simp only at r1 r2 r3 r4
  obtain ⟨p, rfl⟩ := int_nat r1
  obtain ⟨m, rfl⟩ := int_nat r3
  have hp : p < 6 := by omega
  have hm : m < 30 := by omega
  have hlen := hr.1
  have hb : cntP h p (j + 1) = cntP h p j + 1 := by rw [cntP_succ hx, if_pos rfl]
  have hle := cntP_le (h := h) (p := (p : Int)) (j := j)
  have e64 : w64 (last[p] + 1) = (cntP h p (j + 1) : Int) := by rw [h1 p hp, hb]; rw [w64_id (by omega) (by omega)]; omega
  simp only
  rw [Tot.bind_iff, Tot.vat_iff]
  refine ⟨hp, ?_⟩
  rw [Tot.bind_iff]
  -- the greatest of what came before
  have hv : Tot (bif K == 3 then (vat sent (m : Int)).bind fun x36 => (vect_Max now[p] x36).bind fun r39 => some r39 else some now[p]) fun v => ∀ (q : Nat) (hq : q < 6), BelowAt h q v[q] fun i => OfProc h j p i ∨ (K = 3 ∧ OfMsg h j m i) := by
    simp only [Tot.ite_iff, Tot.bind_iff, Tot.vat_iff, Tot.some_iff, beq_iff_eq, beq_eq_false_iff_ne, ne_eq]
    refine ⟨fun hK => ⟨hm, (vmax_law _ _).mono fun w hw q hq => ?_⟩, fun hK q hq => (h2 p hp q hq).congr fun i y _ _ => ?_⟩
    · rw [hw q hq]
      exact ((h2 p hp q hq).max (h3 m hm q hq)).congr fun i y _ _ => by simp [hK]
    · simp [hK]
  refine hv.mono fun v hv => ?_
  simp only [Tot.bind_iff, Tot.vat_iff, Tot.let_iff, Tot.some_iff, Int.toNat_natCast, Vector.getElem_setIfInBounds_self, e64]
  refine ⟨hp, hp, hp, hp, hp, ?_⟩
  have hnew : Below h (v.setIfInBounds p (cntP h p (j + 1) : Int)) fun i => Hbe h i j := by
    intro q hq
    by_cases e : p = q
    · subst e
      rw [Vector.getElem_setIfInBounds_self]
      exact (BelowAt.upto hx).congr fun i y hy hyp => ⟨fun k => k.le, fun k => same_hbe k hy hx hyp⟩
    · rw [Vector.getElem_setIfInBounds_ne hq e]
      refine (hv q hq).congr fun i y hy hyp => ?_
      rw [hbe_new hx]
      have hne : i ≠ j := by
        rintro rfl
        rw [hx] at hy
        obtain rfl := Option.some.inj hy
        simp only at hyp
        omega
      simp [hne]
  generalize v.setIfInBounds p (cntP h p (j + 1) : Int) = nv at hnew
  have hnow : ∀ (q : Nat) (hq : q < 6), Below h (now.setIfInBounds p nv)[q] (OfProc h (j + 1) q) := by
    intro q hq
    by_cases e : p = q
    · subst e
      rw [Vector.getElem_setIfInBounds_self]
      refine fun r hr => (hnew r hr).congr fun i _ _ _ => ⟨?_, fun k => ⟨j, _, by omega, hx, rfl, k⟩⟩
      rintro ⟨l, y, a, b, c, d⟩
      exact d.trans (same_hbe (by omega) b hx c)
    · rw [Vector.getElem_setIfInBounds_ne hq e]
      refine fun r hr => (h2 q hq r hr).congr fun i _ _ _ => ⟨?_, fun ⟨l, y, a, b⟩ => ⟨l, y, by omega, b⟩⟩
      rintro ⟨l, y, a, b, c, d⟩
      by_cases el : l = j
      · subst el
        rw [hx] at b
        obtain rfl := Option.some.inj b
        simp only at c
        omega
      · exact ⟨l, y, by omega, b, c, d⟩
  have hs : Tot (bif K == 2 then (vat sent (m : Int)).bind fun x69 => Let (sent.setIfInBounds m nv) fun p72 => some p72 else some sent) fun s => ∀ (m' : Nat) (hm' : m' < 30), Below h s[m'] (OfMsg h (j + 1) m') := by
    simp only [Tot.ite_iff, Tot.bind_iff, Tot.vat_iff, Tot.let_iff, Tot.some_iff, beq_iff_eq, beq_eq_false_iff_ne, ne_eq]
    have other : ∀ (m' : Nat), (K = 2 → m' ≠ m) → ∀ i, OfMsg h (j + 1) m' i ↔ OfMsg h j m' i := by
      intro m' hne i
      refine ⟨?_, fun ⟨l, y, a, b⟩ => ⟨l, y, by omega, b⟩⟩
      rintro ⟨l, y, a, b, c, d, e⟩
      by_cases el : l = j
      · subst el
        rw [hx] at b
        obtain rfl := Option.some.inj b
        simp only at c d
        have := hne c
        omega
      · exact ⟨l, y, by omega, b, c, d, e⟩
    refine ⟨fun hK => ⟨hm, fun m' hm' => ?_⟩, fun hK m' hm' r hr => (h3 m' hm' r hr).congr fun i _ _ _ => other m' (fun k => absurd k hK) i⟩
    by_cases e : m = m'
    · subst e
      rw [Vector.getElem_setIfInBounds_self]
      refine fun r hr => (hnew r hr).congr fun i _ _ _ => ⟨?_, fun k => ⟨j, _, by omega, hx, hK, rfl, k⟩⟩
      rintro ⟨l, y, a, b, c, d, e⟩
      by_cases el : l = j
      · subst el; exact e
      · rcases hk with ⟨k, _⟩ | ⟨_, k⟩ | ⟨k, _⟩
        · simp only at k; omega
        · exact absurd d (k l y (by omega) b c)
        · simp only at k; omega
    · rw [Vector.getElem_setIfInBounds_ne hm' e]
      exact fun r hr => (h3 m' hm' r hr).congr fun i _ _ _ => other m' (fun _ k => e k.symm) i
  refine hs.mono fun s hs => ?_
  rw [Tot.room_iff]
  refine ⟨by simp; omega, ?_, hnow, hs, by simp [h4], ?_⟩
  · intro q hq
    simp only
    by_cases e : p = q
    · subst e; rw [Vector.getElem_setIfInBounds_self]
    · rw [Vector.getElem_setIfInBounds_ne hq e, h1 q hq, cntP_succ hx, if_neg (by simp only; omega)]
      rfl
  · intro k w hkw
    simp only at hkw
    by_cases e : k < out.length
    · rw [List.getElem?_append_left e] at hkw
      exact h5 k w hkw
    · rw [List.getElem?_append_right (by omega)] at hkw
      have hk0 : k - out.length = 0 := by
        rcases Nat.eq_zero_or_pos (k - out.length) with h0 | h0
        · exact h0
        · rw [List.getElem?_eq_none (by simp; omega)] at hkw; cases hkw
      rw [hk0] at hkw
      obtain rfl : nv = w := by simpa using hkw
      have : k = j := by omega
      subst this
      exact hnew
theorem vectors_law {h : List Event} (hr : Right h) : Tot (vect_Vectors h) fun r => r.2 = 0 ∧ Vecs h r.1 := by
  unfold vect_Vectors
  rw [Tot.bind_iff]
  refine (check_law h).mono fun c hc => ?_
  obtain rfl := hc.of_right hr
  simp only [bne_self_eq_false, cond_false]
  rw [Tot.bind_iff]
  refine Tot.rangeF (VInv h) ⟨fun p hp => ?_, fun p hp => ?_, fun m hm => ?_, rfl, fun k v hk => by simp at hk⟩ (fun j z _ hj hI => vinv_step hr (by omega) hI) ?_
  · simp [cntP_zero]
  · simp only [Vector.getElem_replicate]
    intro q hq
    rw [Vector.getElem_replicate]
    exact BelowAt.zero fun i x _ _ ⟨l, y, a, _⟩ => by omega
  · simp only [Vector.getElem_replicate]
    intro q hq
    rw [Vector.getElem_replicate]
    exact BelowAt.zero fun i x _ _ ⟨l, y, a, _⟩ => by omega
  · rintro ⟨s, n, l, out⟩ hI
    rw [Nat.zero_add] at hI
    exact Tot.some_iff.2 ⟨rfl, hI.out⟩
theorem vectors_bad {h : List Event} {c : Int} (hc : HistCode h c) (h0 : c ≠ 0) : vect_Vectors h = some ([], c) := by
  refine Tot.eq ?_
  unfold vect_Vectors
  rw [Tot.bind_iff]
  refine (check_law h).mono fun d hd => ?_
  obtain rfl := hc.one hd
  rw [show (c != 0) = true by simpa using h0]
  exact Tot.some_iff.2 rfl
end Go.Proofs.Ytclmlddmgccfjaa
