/-
  Strings.
-/
import Derived.Test.YtnkfphbggemlbaaGoK
import Derived.Test.YtnkfphbggemlbaaGoI
import Derived.Laws.IdiomStrings
namespace Go.Proofs.Ytnkfphbggemlbaa
open Go.RowKit Enc

def Str.bytes (s : Str) : List (BitVec 8) := s.map UInt8.toBitVec
theorem Str.size (s : Str) : (Str.b s).size = s.length := by simp [Str.b, ByteArray.size]
section
set_option linter.unusedSectionVars false
variable {P : Program} {n : Nat} {w0 : World} {ops : Array Oper} {Q : Exit → Act → World → Prop} {l : List Oper} {e : List (Nat × Value)} {F : Frz} {L L' : List Item} {d : Nat} {dst : Option Nat} {ty : TypeId} {pos : String} {aft : Array Edge} {gd : Option (Nat × Bool)}
end
end Go.Proofs.Ytnkfphbggemlbaa
