/-
  The order of strings: byte by byte.
-/
import Derived.Test.YtnljiedichjagaaSySort5
import Derived.Test.YtnljiedichjagaaSySp
namespace Go.Proofs.Ytnljiedichjagaa
open Enc

def slt (x y : Str) : Bool := Op.bytesLess x y
theorem u8_lt {a b : UInt8} : decide (a < b) = decide (a.toNat < b.toNat) := by
  rw [Bool.eq_iff_iff, decide_eq_true_eq, decide_eq_true_eq]; exact UInt8.lt_iff_toNat_lt
theorem slt_cons {a b : UInt8} {x y : Str} : slt (a :: x) (b :: y) = true ↔ a.toNat < b.toNat ∨ (a = b ∧ slt x y = true) := by
  show (decide (a < b) || (a == b && Op.bytesLess x y)) = true ↔ _
  rw [u8_lt]
  simp [slt]
theorem slt_nil_right {x : Str} : slt x [] = false := by cases x <;> rfl
theorem slt_nil_cons {b : UInt8} {y : Str} : slt [] (b :: y) = true := rfl
theorem slt_irr : ∀ x : Str, slt x x = false
  | [] => rfl
  | a :: x => by
    rw [Bool.eq_false_iff]
    intro h
    rcases slt_cons.1 h with h | ⟨_, h⟩
    · omega
    · rw [slt_irr x] at h; cases h
theorem slt_trans : ∀ {x y z : Str}, slt x y = true → slt y z = true → slt x z = true
  | _, _, [], _, h2 => by rw [slt_nil_right] at h2; cases h2
  | _, [], _ :: _, h1, _ => by rw [slt_nil_right] at h1; cases h1
  | [], _ :: _, _ :: _, _, _ => rfl
  | a :: x, b :: y, c :: z, h1, h2 => by
    rw [slt_cons] at h1 h2 ⊢
    rcases h1 with h1 | ⟨rfl, h1⟩
    · rcases h2 with h2 | ⟨rfl, _⟩
      · exact .inl (by omega)
      · exact .inl h1
    · rcases h2 with h2 | ⟨rfl, h2⟩
      · exact .inl h2
      · exact .inr ⟨rfl, slt_trans h1 h2⟩
theorem slt_total : ∀ {x y : Str}, slt x y = false → slt y x = false → x = y
  | [], [], _, _ => rfl
  | [], _ :: _, h, _ => by cases h
  | _ :: _, [], _, h => by cases h
  | a :: x, b :: y, h1, h2 => by
    rw [Bool.eq_false_iff, ne_eq, slt_cons] at h1 h2
    have e : a = b := UInt8.toNat_inj.1 (by omega)
    subst e
    have : x = y := slt_total (by rw [Bool.eq_false_iff]; exact fun q => h1 (.inr ⟨rfl, q⟩)) (by rw [Bool.eq_false_iff]; exact fun q => h2 (.inr ⟨rfl, q⟩))
    rw [this]
theorem slt_swo : SWO (fun _ : Str => True) slt := by
  refine ⟨fun x y _ _ h => ?_, fun x y z _ _ _ h1 h2 => ?_⟩
  · rw [Bool.eq_false_iff]
    intro k
    have := slt_trans h k
    rw [slt_irr] at this; cases this
  · rw [Bool.eq_false_iff]
    intro h
    cases hc : slt x y with
    | true =>
      have := slt_trans h hc
      rw [h2] at this; cases this
    | false =>
      obtain rfl := slt_total hc h1
      rw [h2] at h; cases h
theorem sless_eq (x y : Str) : cmp_Less_string x y = some (slt x y) := by
  unfold cmp_Less_string cmp_isNaN_string
  simp only [decide_true, Bool.not_true, Option.bind_some, cond_false]
  rfl
end Go.Proofs.Ytnljiedichjagaa
