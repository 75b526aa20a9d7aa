/-
  Histories: what comes before what; vectors.
-/
import Derived.Test.YtclmlddmgccfjaaStHist
import Derived.Test.YtclmlddmgccfjaaStClosure
namespace Go.Proofs.Ytclmlddmgccfjaa
open Enc

/-! ### Before -/
def Prec (h : List Event) (i k : Nat) : Prop := i < k ∧ ∃ x y, h[i]? = some x ∧ h[k]? = some y ∧ (x.Proc = y.Proc ∨ (x.Kind = 2 ∧ y.Kind = 3 ∧ x.Msg = y.Msg))
def Hb (h : List Event) : Nat → Nat → Prop := Relation.TransGen (Prec h)
def Hbe (h : List Event) (i k : Nat) : Prop := i = k ∨ Hb h i k
theorem Hb.lt {h : List Event} {i k : Nat} (hk : Hb h i k) : i < k := by
  induction hk with
  | single h1 => exact h1.1
  | tail _ h1 ih => exact Nat.lt_trans ih h1.1
theorem Hb.in {h : List Event} {i k : Nat} (hk : Hb h i k) : k < h.length := by
  cases hk with
  | single h1 => obtain ⟨_, x, y, _, hy, _⟩ := h1; exact (List.getElem?_eq_some_iff.1 hy).1
  | tail _ h1 => obtain ⟨_, x, y, _, hy, _⟩ := h1; exact (List.getElem?_eq_some_iff.1 hy).1
theorem Hbe.le {h : List Event} {i k : Nat} (hk : Hbe h i k) : i ≤ k := by
  rcases hk with rfl | hk
  · exact Nat.le_refl _
  · exact Nat.le_of_lt hk.lt
theorem Hb.trans {h : List Event} {i j k : Nat} (h1 : Hb h i j) (h2 : Hb h j k) : Hb h i k := by
  induction h2 with
  | single h2 => exact .tail h1 h2
  | tail _ h2 ih => exact .tail ih h2
theorem Hbe.trans {h : List Event} {i j k : Nat} (h1 : Hbe h i j) (h2 : Hbe h j k) : Hbe h i k := by
  rcases h1 with rfl | h1
  · exact h2
  · rcases h2 with rfl | h2
    · exact .inr h1
    · exact .inr (h1.trans h2)
theorem Hbe.step {h : List Event} {i k : Nat} : Hbe h i k ↔ i = k ∨ ∃ l, Hbe h i l ∧ Prec h l k := by
  constructor
  · rintro (rfl | hk)
    · exact .inl rfl
    · cases hk with
      | single h1 => exact .inr ⟨i, .inl rfl, h1⟩
      | tail h0 h1 => exact .inr ⟨_, .inr h0, h1⟩
  · rintro (rfl | ⟨l, rfl | h0, h1⟩)
    · exact .inl rfl
    · exact .inr (.single h1)
    · exact .inr (.tail h0 h1)
theorem Prec.hbe {h : List Event} {i k : Nat} (h1 : Prec h i k) : Hbe h i k := .inr (.single h1)
theorem same_hbe {h : List Event} {i k : Nat} {x y : Event} (hik : i ≤ k) (hx : h[i]? = some x) (hy : h[k]? = some y) (hp : x.Proc = y.Proc) : Hbe h i k := by
  rcases Nat.lt_or_ge i k with h1 | h1
  · exact Prec.hbe ⟨h1, x, y, hx, hy, .inl hp⟩
  · exact .inl (by omega)

/-! ### Numbers of events -/
def cntP (h : List Event) (p : Int) (j : Nat) : Nat := (h.take j).countP fun x => x.Proc == p
theorem cntP_zero {h : List Event} {p : Int} : cntP h p 0 = 0 := by simp [cntP]
theorem cntP_succ {h : List Event} {p : Int} {j : Nat} {x : Event} (hx : h[j]? = some x) : cntP h p (j + 1) = cntP h p j + if x.Proc = p then 1 else 0 := by
  unfold cntP
  rw [List.take_add_one, hx, List.countP_append]
  simp [List.countP_cons]
theorem cntP_mono {h : List Event} {p : Int} {i j : Nat} (hij : i ≤ j) : cntP h p i ≤ cntP h p j := by
  unfold cntP
  refine List.Sublist.countP_le ?_
  have : h.take i = (h.take j).take i := by rw [List.take_take, Nat.min_eq_left hij]
  rw [this]; exact List.take_sublist _ _
theorem cntP_le {h : List Event} {p : Int} {j : Nat} : cntP h p j ≤ j := by
  unfold cntP
  exact Nat.le_trans List.countP_le_length (by simp; omega)
theorem cntP_le' {h : List Event} {p : Int} {j : Nat} : cntP h p j ≤ h.length := by
  unfold cntP
  exact Nat.le_trans List.countP_le_length (by simp; omega)
theorem cntP_end {h : List Event} {p : Int} {j : Nat} (hj : h.length ≤ j) : cntP h p j = cntP h p h.length := by
  unfold cntP; rw [List.take_of_length_le hj, List.take_length]
theorem cntP_pos {h : List Event} {i : Nat} {x : Event} (hx : h[i]? = some x) : 1 ≤ cntP h x.Proc (i + 1) := by rw [cntP_succ hx, if_pos rfl]; omega
theorem cntP_lt {h : List Event} {i j : Nat} {y : Event} (hij : i < j) (hy : h[j]? = some y) : cntP h y.Proc (i + 1) < cntP h y.Proc (j + 1) := by
  have := cntP_mono (h := h) (p := y.Proc) (show i + 1 ≤ j by omega)
  rw [cntP_succ hy, if_pos rfl]; omega
theorem cntP_le_iff {h : List Event} {i j : Nat} {x y : Event} (hx : h[i]? = some x) (_hy : h[j]? = some y) (hp : x.Proc = y.Proc) : cntP h y.Proc (i + 1) ≤ cntP h y.Proc (j + 1) ↔ i ≤ j := by
  constructor
  · intro h1
    rcases Nat.lt_or_ge j i with h2 | h2
    · have := cntP_lt h2 hx
      rw [hp] at this; omega
    · exact h2
  · intro h1; exact cntP_mono (by omega)
theorem cntP_surj {h : List Event} {p : Int} {n : Nat} (h1 : 1 ≤ n) : ∀ j, n ≤ cntP h p j → ∃ (i : Nat) (x : Event), i < j ∧ h[i]? = some x ∧ x.Proc = p ∧ cntP h p (i + 1) = n
  | 0, h2 => by rw [cntP_zero] at h2; omega
  | j + 1, h2 => by
    by_cases h3 : n ≤ cntP h p j
    · obtain ⟨i, x, a, b⟩ := cntP_surj h1 j h3
      exact ⟨i, x, by omega, b⟩
    · cases hx : h[j]? with
      | none =>
        have : h.length ≤ j := List.getElem?_eq_none_iff.1 hx
        rw [cntP_end (show h.length ≤ j + 1 by omega)] at h2
        rw [cntP_end this] at h3
        omega
      | some x =>
        rw [cntP_succ hx] at h2
        split at h2
        · rename_i hp
          exact ⟨j, x, by omega, hx, hp, by rw [cntP_succ hx, if_pos hp]; omega⟩
        · omega

/-! ### Sets of events, by numbers -/
structure BelowAt (h : List Event) (p : Int) (n : Int) (S : Nat → Prop) : Prop where
  lo : 0 ≤ n
  hi : n ≤ cntP h p h.length
  iff : ∀ (i : Nat) (x : Event), h[i]? = some x → x.Proc = p → (S i ↔ (cntP h p (i + 1) : Int) ≤ n)
namespace BelowAt
variable {h : List Event} {p n m : Int} {S S' : Nat → Prop}
theorem le (h1 : BelowAt h p n S) (h2 : BelowAt h p m S') (hs : ∀ (i : Nat) (x : Event), h[i]? = some x → x.Proc = p → S i → S' i) : n ≤ m := by
  rcases Int.lt_or_le m n with hlt | hlt
  · obtain ⟨i, x, _, b, c, d⟩ := cntP_surj (h := h) (p := p) (n := n.toNat) (by have := h2.lo; omega) h.length (by have := h1.hi; omega)
    have e1 := (h1.iff i x b c).2 (by have := h1.lo; omega)
    have e2 := (h2.iff i x b c).1 (hs i x b c e1)
    have := h1.lo
    omega
  · exact hlt
theorem one (h1 : BelowAt h p n S) (h2 : BelowAt h p m S') (hs : ∀ (i : Nat) (x : Event), h[i]? = some x → x.Proc = p → (S i ↔ S' i)) : n = m := by
  have := h1.le h2 fun i x a b => (hs i x a b).1
  have := h2.le h1 fun i x a b => (hs i x a b).2
  omega
theorem max (h1 : BelowAt h p n S) (h2 : BelowAt h p m S') : BelowAt h p (max n m) fun i => S i ∨ S' i := by
  refine ⟨by have := h1.lo; omega, by have := h1.hi; have := h2.hi; omega, fun i x a b => ?_⟩
  rw [h1.iff i x a b, h2.iff i x a b]; omega
theorem congr (h1 : BelowAt h p n S) (hs : ∀ (i : Nat) (x : Event), h[i]? = some x → x.Proc = p → (S' i ↔ S i)) : BelowAt h p n S' :=
  ⟨h1.lo, h1.hi, fun i x a b => (hs i x a b).trans (h1.iff i x a b)⟩
theorem zero (hs : ∀ (i : Nat) (x : Event), h[i]? = some x → x.Proc = p → ¬ S i) : BelowAt h p 0 S := by
  refine ⟨by omega, by omega, fun i x a b => ⟨fun k => absurd k (hs i x a b), fun k => ?_⟩⟩
  have := cntP_pos a
  rw [b] at this; omega
theorem upto {k : Nat} {y : Event} (hy : h[k]? = some y) : BelowAt h y.Proc (cntP h y.Proc (k + 1) : Int) fun i => i ≤ k := by
  have hk := (List.getElem?_eq_some_iff.1 hy).1
  refine ⟨by omega, by have := cntP_mono (h := h) (p := y.Proc) (show k + 1 ≤ h.length by omega); omega, fun i x a b => ?_⟩
  rw [← cntP_le_iff a hy b]; omega
end BelowAt
def Below (h : List Event) (v : Vector Int 6) (S : Nat → Prop) : Prop := ∀ (p : Nat) (hp : p < 6), BelowAt h p v[p] S
theorem Below.one {h : List Event} {v w : Vector Int 6} {S : Nat → Prop} (h1 : Below h v S) (h2 : Below h w S) : v = w := by
  apply Vector.ext
  intro p hp
  exact (h1 p hp).one (h2 p hp) fun _ _ _ _ => Iff.rfl
def Vecs (h : List Event) (l : List (Vector Int 6)) : Prop := l.length = h.length ∧ ∀ (k : Nat) v, l[k]? = some v → Below h v fun i => Hbe h i k
theorem Vecs.one {h : List Event} {l m : List (Vector Int 6)} (h1 : Vecs h l) (h2 : Vecs h m) : l = m := by
  apply List.ext_getElem?
  intro k
  by_cases hk : k < h.length
  · have a : l[k]? = some (l[k]'(by rw [h1.1]; exact hk)) := by simp
    have b : m[k]? = some (m[k]'(by rw [h2.1]; exact hk)) := by simp
    rw [a, b, (h1.2 k _ a).one (h2.2 k _ b)]
  · rw [List.getElem?_eq_none (by rw [h1.1]; omega), List.getElem?_eq_none (by rw [h2.1]; omega)]

/-! ### The program's vectors -/
def OfProc (h : List Event) (j : Nat) (p : Int) (i : Nat) : Prop := ∃ (l : Nat) (x : Event), l < j ∧ h[l]? = some x ∧ x.Proc = p ∧ Hbe h i l
def OfMsg (h : List Event) (j : Nat) (m : Int) (i : Nat) : Prop := ∃ (l : Nat) (x : Event), l < j ∧ h[l]? = some x ∧ x.Kind = 2 ∧ x.Msg = m ∧ Hbe h i l
theorem hbe_new {h : List Event} {j i : Nat} {x : Event} (hx : h[j]? = some x) : Hbe h i j ↔ i = j ∨ OfProc h j x.Proc i ∨ (x.Kind = 3 ∧ OfMsg h j x.Msg i) := by
  rw [Hbe.step]
  constructor
  · rintro (h1 | ⟨l, h1, h2, a, b, ha, hb, h3⟩)
    · exact .inl h1
    · rw [hx] at hb
      obtain rfl := Option.some.inj hb
      rcases h3 with h3 | ⟨k1, k2, k3⟩
      · exact .inr (.inl ⟨l, a, h2, ha, h3, h1⟩)
      · exact .inr (.inr ⟨k2, l, a, h2, ha, k1, k3, h1⟩)
  · rintro (h1 | ⟨l, a, h2, ha, h3, h1⟩ | ⟨k2, l, a, h2, ha, k1, k3, h1⟩)
    · exact .inl h1
    · exact .inr ⟨l, h1, h2, a, x, ha, hx, .inl h3⟩
    · exact .inr ⟨l, h1, h2, a, x, ha, hx, .inr ⟨k1, k2, k3⟩⟩
end Go.Proofs.Ytclmlddmgccfjaa
