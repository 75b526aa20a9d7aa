/-
  What the strings library needs: entries of the model, the bytes of a string, errors that are nil.
-/
import Derived.Test.YtnkfphbggemlbaaGoS
import Derived.Lib.Bytealg
namespace Go.Proofs.Ytnkfphbggemlbaa
open Go.RowKit Enc

section
variable {P : Program} {n : Nat} {w0 : World} {ops : Array Oper} {Q : Exit → Act → World → Prop} {K : Act → Prop} {l : List Oper} {e : List (Nat × Value)} {F F0 : Frz} {L L' : List Item} {v : Value} {dst : Option Nat} {d : Nat} {ty : TypeId} {pos : String} {aft : Array Edge} {gd : Option (Nat × Bool)}
end
end Go.Proofs.Ytnkfphbggemlbaa
