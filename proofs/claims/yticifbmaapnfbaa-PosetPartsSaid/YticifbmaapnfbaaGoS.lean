/-
  Strings.
-/
import Derived.Test.YticifbmaapnfbaaGoK
import Derived.Test.YticifbmaapnfbaaGoI
import Derived.Laws.IdiomStrings
namespace Go.Proofs.Yticifbmaapnfbaa
open Go.RowKit Enc

def Str.bytes (s : Str) : List (BitVec 8) := s.map UInt8.toBitVec
theorem Str.size (s : Str) : (Str.b s).size = s.length := by simp [Str.b, ByteArray.size]
theorem Str.b_get (s : Str) (i : Nat) : (Str.b s)[i]? = s[i]? := by
  by_cases h : i < s.length
  · have h' : i < (Str.b s).size := by rw [Str.size]; exact h
    rw [getElem?_pos (Str.b s) i h', List.getElem?_eq_getElem h]
    rfl
  · have h' : ¬ i < (Str.b s).size := by rw [Str.size]; exact h
    rw [getElem?_neg (Str.b s) i h', List.getElem?_eq_none (by omega)]
section
set_option linter.unusedSectionVars false
variable {P : Program} {n : Nat} {w0 : World} {ops : Array Oper} {Q : Exit → Act → World → Prop} {l : List Oper} {e : List (Nat × Value)} {F : Frz} {L L' : List Item} {d : Nat} {dst : Option Nat} {ty : TypeId} {pos : String} {aft : Array Edge} {gd : Option (Nat × Bool)}
theorem Ev.indexStr {x y : Operand} {t : TypeId} {s : Str} {i : Int} {kd : IntKind} {c : UInt8} (hx : ev e x = some (Str.v s)) (hy : ev e y = some (.int kd i)) (hu : ∀ w, (underlying t).run P w = .ok .string w) (h : lat s i = some c) :
    Ev P n w0 e F L ⟨dst, .index t x y, ty, pos, aft, gd⟩ (.int .u8 c.toBitVec.toNat) := fun a w ha hw => by
  obtain ⟨h1, h2⟩ : 0 ≤ i ∧ s[i.toNat]? = some c := by
    unfold lat at h
    split at h
    · exact ⟨by assumption, h⟩
    · cases h
  have hg : (Str.b s)[i.toNat]? = some c := by rw [Str.b_get]; exact h2
  simp [execOp, ha.eval hx, ha.eval hy, Instr.index, asIntOf, hu, Str.v, h1, hg]
end
end Go.Proofs.Yticifbmaapnfbaa
