/-
  CutAll: the plain law.
-/
import Derived.Test.YtclmlddmgccfjaaCaCutAlls
namespace Go.Proofs.Ytclmlddmgccfjaa
open Enc

theorem equalV_self (l : List (Vector Int 6)) : slices_Equal_api_Vector_api_Vector l l = some true := by
  unfold slices_Equal_api_Vector_api_Vector
  rw [show ((l.length : Int) != (l.length : Int)) = false from by simp, cond_false, rangeM_all l.length 0 fun j _ hj => by
    unfold slices_Equal_api_Vector_api_Vector_B0
    rw [lat_lt (by omega), Option.bind_some, Option.bind_some]
    simp]
  rfl
theorem cutall_law (h : List Event) (_ : Rng.ok h) : ∃ fu, partlaw_CutAll fu h = some true := by
  refine ⟨1000, Tot.eq ?_⟩
  unfold partlaw_CutAll
  obtain ⟨c, ec, hc⟩ := ref_law h
  rw [ec, Option.bind_some]
  by_cases h0 : c = 0
  · subst h0
    have hr := hc.right
    have hlen := hr.1
    rw [all_law hr (by omega), Option.bind_some, show ((0 : Int) == 0) = true by decide, cond_true, room_law hr]
    simp only [Option.bind_some]
    by_cases hm : many (base h) 0 > 4096
    · rw [if_pos hm, decide_eq_true (show (many (base h) 0 : Int) > 4096 by omega)]
      simp [Tot.some_iff]
    · rw [if_neg hm, decide_eq_false (show ¬ (many (base h) 0 : Int) > 4096 by omega)]
      simp only [cond_false, Option.bind_some, bne_self_eq_false]
      obtain ⟨⟨v, e⟩, _, e0, hv⟩ := vectors_law hr
      have hR : partref_Cuts 1000 h = some (allCuts h (many (base h) 0)) := by
        refine Tot.eq ?_
        unfold partref_Cuts
        rw [refvectors_law hr (by omega) (by omega) hv, Option.bind_some, Tot.bind_iff]
        refine (sizes_law hr).mono fun n hn => ?_
        have := fill_law hr hv hn (by omega) 6 0 1000 (Vector.replicate 6 0) [] (by omega) (by omega) (fun q hq hq0 => by omega) (by simp; omega)
        rw [show ((0 : Nat) : Int) = 0 from rfl] at this
        rw [this, Option.bind_some, Tot.some_iff]
        unfold allCuts
        simp only [List.nil_append]
        congr 1
      rw [hR, Option.bind_some, equalV_self]
      simp [Tot.some_iff]
  · rw [all_bad hc h0, Option.bind_some, show (c == 0) = false by simpa using h0]
    have e : (c != 0) = true := by simpa using h0
    simp [Tot.some_iff, e]
end Go.Proofs.Ytclmlddmgccfjaa
