/-
  VectSays: the plain law.
-/
import Derived.Test.YtclmlddmgccfjaaVdCauses
namespace Go.Proofs.Ytclmlddmgccfjaa
open Enc

theorem vmin_law (a b : Vector Int 6) : Tot (vect_Min a b) fun w => ∀ (p : Nat) (hp : p < 6), w[p] = min a[p] b[p] := by
  unfold vect_Min
  rw [Tot.bind_iff]
  refine Tot.rangeF (fun i w => ∀ (p : Nat) (hp : p < 6), w[p] = if p < i then min a[p] b[p] else a[p]) (fun p hp => by simp) ?_ ?_
  · intro i w _ hi hI
    have hi6 : i < 6 := by omega
    unfold vect_Min_B0
    simp only [Tot.bind_iff, Tot.vat_iff, Tot.let_iff, Tot.some_iff, Int.toNat_natCast]
    refine ⟨hi6, hi6, hi6, fun p hp => ?_⟩
    by_cases e : i = p
    · subst e
      rw [Vector.getElem_setIfInBounds_self, hI i hi6]
      simp
    · rw [Vector.getElem_setIfInBounds_ne hp e, hI p hp]
      by_cases e2 : p < i
      · rw [if_pos e2, if_pos (by omega)]
      · rw [if_neg e2, if_neg (by omega)]
  · intro w hw
    rw [Tot.some_iff]
    intro p hp
    rw [hw p hp, if_pos (by omega)]
theorem equalV_self (l : List (Vector Int 6)) : slices_Equal_api_Vector_api_Vector l l = some true := by
  unfold slices_Equal_api_Vector_api_Vector
  rw [show ((l.length : Int) != (l.length : Int)) = false from by simp, cond_false, rangeM_all l.length 0 fun j _ hj => by
    unfold slices_Equal_api_Vector_api_Vector_B0
    rw [lat_lt (by omega), Option.bind_some, Option.bind_some]
    simp]
  rfl
theorem cmpV_lt (a b : Vector Int 6) : decide (cmpV a b < 2) = true ↔ LeV a b := by
  rw [decide_eq_true_eq]
  unfold cmpV
  split
  · rename_i h; subst h; simp [LeV.refl]
  · split
    · rename_i h; simp [h]
    · split <;> simp_all
theorem vectsays_law (a b : Vector Int 6) (h : List Event) (_ : Rng.ok a) (_ : Rng.ok b) (_ : Rng.ok h) : ∃ fu, partlaw_VectSays fu a b h = some true := by
  refine ⟨1000, Tot.eq ?_⟩
  unfold partlaw_VectSays
  rw [Tot.bind_iff]
  refine (vmax_law a b).mono fun x hx => ?_
  rw [Tot.bind_iff]
  refine (vmin_law a b).mono fun y hy => ?_
  rw [Tot.andThen_iff]
  refine Tot.rangeM (fun _ _ => True) trivial ?_ ?_
  · intro i _ _ hi _
    have hi6 : i < 6 := by omega
    unfold partlaw_VectSays_B0
    simp only [vat_lt _ hi6, Option.bind_some, hx i hi6, hy i hi6, bne_self_eq_false, cond_false]
    exact Tot.some_iff.2 trivial
  · intro _ _
    rw [Tot.inl_iff, compare_law, refcompare_law]
    simp only [Option.bind_some, bne_self_eq_false, cond_false]
    rw [Tot.bind_iff, Tot.bind_iff]
    refine (within_law a b).mono fun r hr => ?_
    have e : r = decide (cmpV a b < 2) := by rw [Bool.eq_iff_iff, hr, cmpV_lt]
    rw [e, bne_self_eq_false, Tot.some_iff, cond_false, Tot.bind_iff]
    obtain ⟨c, ec, hc⟩ := ref_law h
    rw [ec]
    by_cases h0 : c = 0
    · subst h0
      have hR := hc.right
      refine (vectors_law hR).mono ?_
      rintro ⟨v, e⟩ ⟨h1, h2⟩
      simp only at h1 h2
      subst h1
      simp only [Option.bind_some, bne_self_eq_false, cond_false, refvectors_law hR (show 100 ≤ 1000 by omega) (by omega) h2, equalV_self]
      exact Tot.some_iff.2 rfl
    · rw [vectors_bad hc h0, Tot.some_iff]
      simp only [Option.bind_some, show (c != 0) = true by simpa using h0, cond_true, List.length_nil]
      simp [Tot.some_iff]
end Go.Proofs.Ytclmlddmgccfjaa
