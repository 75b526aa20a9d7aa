/-
  The reference's causes and vectors.
-/
import Derived.Test.YtclmlddmgccfjaaTcVect
namespace Go.Proofs.Ytclmlddmgccfjaa
open Enc

/-- Of a set that is told by numbers, so many are there up to j. -/
theorem count_step {h : List Event} {p : Int} {n : Int} {S : Nat → Prop} {j : Nat} {x : Event} (hb : BelowAt h p n S) (hx : h[j]? = some x) :
    (x.Proc = p → S j → min n (cntP h p (j + 1) : Int) = min n (cntP h p j : Int) + 1) ∧ ((x.Proc ≠ p ∨ ¬ S j) → min n (cntP h p (j + 1) : Int) = min n (cntP h p j : Int)) := by
  rw [cntP_succ hx]
  refine ⟨fun hp hs => ?_, fun hn => ?_⟩
  · have := (hb.iff j x hx hp).1 hs
    rw [cntP_succ hx, if_pos hp] at this
    rw [if_pos hp]; omega
  · by_cases hp : x.Proc = p
    · have hs : ¬ S j := hn.resolve_left fun k => k hp
      have := mt (hb.iff j x hx hp).2 hs
      rw [cntP_succ hx, if_pos hp] at this
      rw [if_pos hp]; omega
    · rw [if_neg hp]; simp
/-! ### Comparing -/
def LeV (a b : Vector Int 6) : Prop := ∀ (p : Nat) (hp : p < 6), a[p] ≤ b[p]
theorem LeV.anti {a b : Vector Int 6} (h1 : LeV a b) (h2 : LeV b a) : a = b := Vector.ext fun p hp => by have := h1 p hp; have := h2 p hp; omega
theorem LeV.refl (a : Vector Int 6) : LeV a a := fun _ _ => Int.le_refl _
theorem within_law (a b : Vector Int 6) : Tot (vect_Within a b) fun r => r = true ↔ LeV a b := by
  unfold vect_Within
  rw [Tot.bind_iff]
  refine (vmax_law a b).mono fun w hw => ?_
  rw [Tot.some_iff, decide_eq_true_eq]
  constructor
  · rintro rfl p hp
    have := hw p hp; omega
  · intro h1
    apply Vector.ext
    intro p hp
    rw [hw p hp]
    have := h1 p hp; omega
open Classical in
noncomputable def cmpV (a b : Vector Int 6) : Int := if a = b then 0 else if LeV a b then 1 else if LeV b a then 2 else 3
theorem compare_law (a b : Vector Int 6) : vect_Compare a b = some (cmpV a b) := by
  refine Tot.eq ?_
  unfold vect_Compare cmpV
  simp only [Tot.ite_iff, Tot.bind_iff, Tot.some_iff, decide_eq_true_eq, decide_eq_false_iff_not]
  refine ⟨fun h1 => by rw [if_pos h1], fun h1 => ?_⟩
  rw [if_neg h1]
  refine (within_law a b).mono fun r hr => ⟨fun h2 => by rw [if_pos (hr.1 h2)], fun h2 => ?_⟩
  rw [if_neg fun h3 => by rw [hr.2 h3] at h2; cases h2]
  refine (within_law b a).mono fun s hs => ⟨fun h3 => by rw [if_pos (hs.1 h3)], fun h3 => ?_⟩
  rw [if_neg fun h4 => by rw [hs.2 h4] at h3; cases h3]
end Go.Proofs.Ytclmlddmgccfjaa
