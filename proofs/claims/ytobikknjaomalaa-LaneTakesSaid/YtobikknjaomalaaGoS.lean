/-
  Strings.
-/
import Derived.Test.YtobikknjaomalaaGoK
import Derived.Test.YtobikknjaomalaaGoI
import Derived.Laws.IdiomStrings
namespace Go.Proofs.Ytobikknjaomalaa
open Go.RowKit Enc

def Str.bytes (s : Str) : List (BitVec 8) := s.map UInt8.toBitVec
theorem Str.size (s : Str) : (Str.b s).size = s.length := by simp [Str.b, ByteArray.size]
section
set_option linter.unusedSectionVars false
variable {P : Program} {n : Nat} {w0 : World} {ops : Array Oper} {Q : Exit → Act → World → Prop} {l : List Oper} {e : List (Nat × Value)} {F : Frz} {L L' : List Item} {d : Nat} {dst : Option Nat} {ty : TypeId} {pos : String} {aft : Array Edge} {gd : Option (Nat × Bool)}
theorem Str.b_list (s : Str) : (Str.b s).toList = s := by simp [ByteArray.toList_eq, Str.b]
theorem Ev.neqStr {x y : Operand} {t t2 : TypeId} {s m : Str} (hx : ev e x = some (Str.v s)) (hy : ev e y = some (Str.v m)) :
    Ev P n w0 e F L ⟨dst, .binOp .neq t x y t2, ty, pos, aft, gd⟩ (.bool (!decide (s = m))) := fun a w ha hw => by
  simp [execOp, ha.eval hx, ha.eval hy, eqGuard, binOp, Op.stringOp, Str.v, Str.b_list]
  rw [Bool.eq_iff_iff]; simp
end
end Go.Proofs.Ytobikknjaomalaa
