/-
  The order of waiting messages: by their numbers.
-/
import Derived.Test.YtnljiedichjagaaSkSort5
import Derived.Test.YtnljiedichjagaaSkSp
namespace Go.Proofs.Ytnljiedichjagaa
open Enc

def cmpZ (x y : Int) : Int := if x < y then -1 else if x > y then 1 else 0
theorem compare_int (x y : Int) : cmp_Compare_int x y = some (cmpZ x y) := by
  unfold cmp_Compare_int cmp_isNaN_int cmpZ
  simp only [bne_self_eq_false, Option.bind_some, cond_false]
  by_cases h : x < y
  · simp [h]
  · by_cases h2 : x > y
    · simp [h, h2]
    · simp [h, h2]
theorem or_int (x y : Int) : cmp_Or_int [x, y] = some (if x ≠ 0 then x else y) := by
  unfold cmp_Or_int
  by_cases h : x = 0
  · subst h
    by_cases h2 : y = 0
    · subst h2; rfl
    · have e : (y != 0) = true := by simpa using h2
      simp [rangeM, cmp_Or_int_B0, lat, andThen, e]
  · have e : (x != 0) = true := by simpa using h
    simp [rangeM, cmp_Or_int_B0, lat, andThen, e, h]
def ncmp (x y : Num) : Int := if cmpZ x.N y.N ≠ 0 then cmpZ x.N y.N else cmpZ x.By y.By
theorem ncmp_eq (x y : Num) : skeen_compare x y = some (ncmp x y) := by
  unfold skeen_compare
  simp only [compare_int, or_int, Option.bind_some]
  rfl
def nlt (x y : Num) : Bool := decide (x.N < y.N ∨ x.N = y.N ∧ x.By < y.By)
theorem nless_eq (x y : Num) : partref_Less x y = some (nlt x y) := by
  unfold partref_Less
  rw [and_some, Option.bind_some, or_some]
  congr 1
  unfold nlt
  rw [Bool.eq_iff_iff]; simp
theorem ncmp_neg {x y : Num} : decide (ncmp x y < 0) = nlt x y := by
  unfold ncmp cmpZ nlt
  rw [Bool.eq_iff_iff, decide_eq_true_eq, decide_eq_true_eq]
  repeat' split
  all_goals omega
theorem ncmp_le {x y : Num} : decide (ncmp x y ≤ 0) = !nlt y x := by
  unfold ncmp cmpZ nlt
  rw [Bool.eq_iff_iff, decide_eq_true_eq, Bool.not_eq_true', decide_eq_false_iff_not]
  repeat' split
  all_goals omega
theorem ncmp_pos {x y : Num} : decide (ncmp x y > 0) = nlt y x := by
  unfold ncmp cmpZ nlt
  rw [Bool.eq_iff_iff, decide_eq_true_eq, decide_eq_true_eq]
  repeat' split
  all_goals omega
theorem nlt_iff {x y : Num} : nlt x y = true ↔ x.N < y.N ∨ x.N = y.N ∧ x.By < y.By := by unfold nlt; rw [decide_eq_true_eq]
theorem nlt_false {x y : Num} : nlt x y = false ↔ ¬ (x.N < y.N ∨ x.N = y.N ∧ x.By < y.By) := by unfold nlt; rw [decide_eq_false_iff_not]
theorem num_eq {x y : Num} (h1 : x.N = y.N) (h2 : x.By = y.By) : x = y := by cases x; cases y; simp_all
def wcmp (x y : Wait) : Int := ncmp x.Num_ y.Num_
theorem wcmp_eq (x y : Wait) : skeen_Fix_3 x y = some (wcmp x y) := by
  unfold skeen_Fix_3
  rw [ncmp_eq]; rfl
def wlt (x y : Wait) : Bool := decide (wcmp x y < 0)
theorem wlt_eq (x y : Wait) : wlt x y = nlt x.Num_ y.Num_ := ncmp_neg
theorem wlt_swo : SWO (fun _ : Wait => True) wlt := by
  refine ⟨fun x y _ _ h => ?_, fun x y z _ _ _ h1 h2 => ?_⟩
  · rw [wlt_eq, nlt_iff] at h; rw [wlt_eq, nlt_false]; omega
  · rw [wlt_eq, nlt_false] at h1 h2 ⊢; omega
end Go.Proofs.Ytnljiedichjagaa
