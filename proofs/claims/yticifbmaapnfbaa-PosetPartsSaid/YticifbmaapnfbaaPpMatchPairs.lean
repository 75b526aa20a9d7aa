/-
  The pairs of a matching.
-/
import Derived.Test.YticifbmaapnfbaaPpMatchMost
namespace Go.Proofs.Yticifbmaapnfbaa
open Enc

theorem idx_mate {n m : Nat} {left : List Int} {L M : Nat → Int} (h1 : LIs left n L) (hc : Coh n m L M (-1)) {a : Nat} (ha : a < m) : idxI ((a : Int) == ·) left = M a := by
  have hr := hc.mr a ha
  by_cases e : M a = -1
  · rw [e]
    refine idxI_none.2 fun x hx => ?_
    obtain ⟨b, hb, rfl⟩ := h1.mem_iff.1 hx
    have : L b ≠ (a : Int) := fun q => by
      have := (hc.iff b a hb ha (by omega)).1 q; omega
    simpa using fun q => this q.symm
  · obtain ⟨b, hb⟩ := int_nat (x := M a) (by omega)
    rw [hb]
    have hbn : b < n := by omega
    refine idxI_some.2 ⟨L b, h1.2 b hbn, ?_, fun c y hcb hy => ?_⟩
    · have := (hc.iff b a hbn ha (by omega)).2 hb
      simp [this]
    · rw [h1.2 c (by omega)] at hy
      have hy := Option.some.inj hy
      have : L c ≠ (a : Int) := fun q => by
        have := (hc.iff c a (by omega) ha (by omega)).1 q; omega
      rw [← hy]; simpa using fun q => this q.symm
theorem in_left {n m : Nat} {left : List Int} {L M : Nat → Int} (h1 : LIs left n L) (hc : Coh n m L M (-1)) {a : Nat} (ha : a < m) : left.contains (a : Int) = decide (M a ≥ 0) := by
  rw [← idxI_ge, idx_mate h1 hc ha]

/-! ### What is reached -/
/-- Left and right nodes that are reached over alternating ways from the left nodes that have no mate. -/
structure Closed (n m : Nat) (l : List Pair) (M : Nat → Int) (A B : Nat → Prop) : Prop where
  root : ∀ a, a < m → M a < 0 → A a
  edge : ∀ a b, a < m → b < n → l.contains (⟨(a : Int), (b : Int)⟩ : Pair) = true → A a → B b
  back : ∀ a b, a < m → b < n → M a = (b : Int) → B b → A a
def RA (n m : Nat) (l : List Pair) (M : Nat → Int) (a : Nat) : Prop := ∀ A B, Closed n m l M A B → A a
def RB (n m : Nat) (l : List Pair) (M : Nat → Int) (b : Nat) : Prop := ∀ A B, Closed n m l M A B → B b
theorem reach_closed (n m : Nat) (l : List Pair) (M : Nat → Int) : Closed n m l M (RA n m l M) (RB n m l M) :=
  ⟨fun a ha h A B hc => hc.root a ha h, fun a b ha hb h hr A B hc => hc.edge a b ha hb h (hr A B hc), fun a b ha hb h hr A B hc => hc.back a b ha hb h (hr A B hc)⟩
end Go.Proofs.Yticifbmaapnfbaa
