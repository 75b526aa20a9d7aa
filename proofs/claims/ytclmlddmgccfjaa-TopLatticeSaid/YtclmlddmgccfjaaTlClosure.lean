/-
  partref.Closure: what is reached over one pair or more.
-/
import Derived.Test.YtclmlddmgccfjaaTlSp
import Derived.Test.YtclmlddmgccfjaaGoN
namespace Go.Proofs.Ytclmlddmgccfjaa
open Enc

theorem lat_lt {α : Type} {l : List α} {i : Nat} (h : i < l.length) : lat l (i : Int) = some l[i] := by rw [lat_nat]; simp [h]


def Adj (l : List Pair) (a b : Nat) : Prop := (⟨(a : Int), (b : Int)⟩ : Pair) ∈ l
def Reach (l : List Pair) : Nat → Nat → Prop := Relation.TransGen (Adj l)
/-- All pairs are of numbers below n. -/
def InR (n : Nat) (l : List Pair) : Prop := ∀ p ∈ l, 0 ≤ p.A ∧ p.A < n ∧ 0 ≤ p.B ∧ p.B < n

end Go.Proofs.Ytclmlddmgccfjaa
