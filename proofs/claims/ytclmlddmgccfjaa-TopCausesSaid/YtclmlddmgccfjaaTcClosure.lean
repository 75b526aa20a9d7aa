/-
  partref.Closure: what is reached over one pair or more.
-/
import Derived.Test.YtclmlddmgccfjaaTcSp
import Derived.Test.YtclmlddmgccfjaaGoN
namespace Go.Proofs.Ytclmlddmgccfjaa
open Enc

theorem lat_lt {α : Type} {l : List α} {i : Nat} (h : i < l.length) : lat l (i : Int) = some l[i] := by rw [lat_nat]; simp [h]

end Go.Proofs.Ytclmlddmgccfjaa
