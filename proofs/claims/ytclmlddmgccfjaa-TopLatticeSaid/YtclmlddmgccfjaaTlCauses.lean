/-
  The reference's causes and vectors.
-/
import Derived.Test.YtclmlddmgccfjaaTlVect
namespace Go.Proofs.Ytclmlddmgccfjaa
open Enc

/-- Of a set that is told by numbers, so many are there up to j. -/
theorem count_step {h : List Event} {p : Int} {n : Int} {S : Nat → Prop} {j : Nat} {x : Event} (hb : BelowAt h p n S) (hx : h[j]? = some x) :
    (x.Proc = p → S j → min n (cntP h p (j + 1) : Int) = min n (cntP h p j : Int) + 1) ∧ ((x.Proc ≠ p ∨ ¬ S j) → min n (cntP h p (j + 1) : Int) = min n (cntP h p j : Int)) := by
  rw [cntP_succ hx]
  refine ⟨fun hp hs => ?_, fun hn => ?_⟩
  · have := (hb.iff j x hx hp).1 hs
    rw [cntP_succ hx, if_pos hp] at this
    rw [if_pos hp]; omega
  · by_cases hp : x.Proc = p
    · have hs : ¬ S j := hn.resolve_left fun k => k hp
      have := mt (hb.iff j x hx hp).2 hs
      rw [cntP_succ hx, if_pos hp] at this
      rw [if_pos hp]; omega
    · rw [if_neg hp]; simp
/-! ### Comparing -/
def LeV (a b : Vector Int 6) : Prop := ∀ (p : Nat) (hp : p < 6), a[p] ≤ b[p]
theorem LeV.anti {a b : Vector Int 6} (h1 : LeV a b) (h2 : LeV b a) : a = b := Vector.ext fun p hp => by have := h1 p hp; have := h2 p hp; omega
theorem LeV.refl (a : Vector Int 6) : LeV a a := fun _ _ => Int.le_refl _
open Classical in
noncomputable def cmpV (a b : Vector Int 6) : Int := if a = b then 0 else if LeV a b then 1 else if LeV b a then 2 else 3
end Go.Proofs.Ytclmlddmgccfjaa
