/-
  LaneTakes: the plain law.
-/
import Derived.Test.YtobikknjaomalaaLtLaneTake
namespace Go.Proofs.Ytobikknjaomalaa
open Enc

theorem sameto_eq (a b : To) : partref_SameTo a b = some (decide (a = b)) := by
  unfold partref_SameTo
  simp only [eq_slices_Equal_api_Parcel_api_Parcel, Option.bind_some, and_some]
  congr 1
  cases a; cases b
  rw [Bool.eq_iff_iff]; simp
theorem lanetakes_law (r : To) (p : Parcel) (_ : Rng.ok r) (_ : Rng.ok p) : ∃ fu, partlaw_LaneTakes fu r p = some true := by
  refine ⟨1000, ?_⟩
  obtain ⟨c, e1, e2, hc⟩ := codes_to r
  unfold partlaw_LaneTakes
  rw [e1, e2, Option.bind_some]
  by_cases h0 : c = 0
  · subst h0
    have hg := hc.1 rfl
    by_cases hs : 0 ≤ p.Seq ∧ p.Seq ≤ 16777214
    · by_cases ht : p.Text.length ≤ 200
      · obtain ⟨o, ts, l1, l2, _⟩ := take_law (fu := 1000) (by omega) hg hs ht
        rw [l1, Option.bind_some, Option.bind_some]
        simp only [bne_self_eq_false, cond_false, beq_self_eq_true, cond_true]
        rw [or_some, Option.bind_some, decide_eq_false (show ¬ p.Seq < 0 by omega), decide_eq_false (show ¬ p.Seq ≥ 16777215 by omega), Bool.or_self, cond_false, decide_eq_false (show ¬ (p.Text.length : Int) > 200 by omega), cond_false, Option.bind_some]
        simp only [bne_self_eq_false, cond_false]
        rw [l2, Option.bind_some, sameto_eq, Option.bind_some]
        simp only [eq_slices_Equal_string_string, decide_true, cond_true, Option.bind_some, beq_self_eq_true]
      · have l1 : lane_Take 1000 r p = some (({ To.zero with Early := ([] : List Parcel) } : To), ([] : List Str), 2) := by
          unfold lane_Take
          rw [to_ok hg, Option.bind_some, lin_eq, Option.bind_some, decide_eq_true (show p.Seq ≥ 0 by omega), decide_eq_true (show p.Seq ≤ 16777214 by omega)]
          unfold lane_long
          rw [Option.bind_some, decide_eq_true (show (p.Text.length : Int) > 200 by omega)]
          rfl
        rw [l1, Option.bind_some, Option.bind_some]
        simp only [bne_self_eq_false, cond_false, beq_self_eq_true, cond_true]
        rw [or_some, Option.bind_some, decide_eq_false (show ¬ p.Seq < 0 by omega), decide_eq_false (show ¬ p.Seq ≥ 16777215 by omega), Bool.or_self, cond_false, decide_eq_true (show (p.Text.length : Int) > 200 by omega), cond_true, Option.bind_some, sameto_eq]
        rfl
    · have l1 : lane_Take 1000 r p = some (({ To.zero with Early := ([] : List Parcel) } : To), ([] : List Str), 1) := by
        unfold lane_Take
        rw [to_ok hg, Option.bind_some, lin_eq, Option.bind_some]
        have : (decide (p.Seq ≥ 0) && decide (p.Seq ≤ 16777214)) = false := by
          rw [Bool.eq_false_iff]; simp; omega
        rw [this]; rfl
      rw [l1, Option.bind_some, Option.bind_some]
      simp only [bne_self_eq_false, cond_false, beq_self_eq_true, cond_true]
      have : (decide (p.Seq < 0) || decide (p.Seq ≥ 16777215)) = true := by simp; omega
      rw [or_some, Option.bind_some, this, cond_true, Option.bind_some, sameto_eq]
      rfl
  · have hne : (c != 0) = true := by simpa using h0
    have hb : (c == 0) = false := by simpa using h0
    have l1 : lane_Take 1000 r p = some (({ To.zero with Early := ([] : List Parcel) } : To), ([] : List Str), c) := by
      unfold lane_Take
      rw [e1, Option.bind_some, hne, cond_true]
    rw [l1, Option.bind_some, Option.bind_some]
    simp only [bne_self_eq_false, cond_false, hb, Option.bind_some, hne, cond_true]
    rw [sameto_eq, Option.bind_some]
    simp [To.zero]
end Go.Proofs.Ytobikknjaomalaa
