/-
  Strings.
-/
import Derived.Test.YtnljiedichjagaaDoorGoK
import Derived.Test.YtnljiedichjagaaDoorGoI
import Derived.Laws.IdiomStrings
namespace Go.Proofs.YtnljiedichjagaaDoor
open Go.RowKit Enc

def Str.bytes (s : Str) : List (BitVec 8) := s.map UInt8.toBitVec
theorem Str.size (s : Str) : (Str.b s).size = s.length := by simp [Str.b, ByteArray.size]
theorem Str.b_extract (s : Str) (i j : Nat) : (Str.b s).extract i j = Str.b ((s.drop i).take (j - i)) := by
  apply ByteArray.ext
  apply Array.ext'
  simp [Str.b, ByteArray.data_extract, List.extract_eq_take_drop]
theorem Str.b_get (s : Str) (i : Nat) : (Str.b s)[i]? = s[i]? := by
  by_cases h : i < s.length
  · have h' : i < (Str.b s).size := by rw [Str.size]; exact h
    rw [getElem?_pos (Str.b s) i h', List.getElem?_eq_getElem h]
    rfl
  · have h' : ¬ i < (Str.b s).size := by rw [Str.size]; exact h
    rw [getElem?_neg (Str.b s) i h', List.getElem?_eq_none (by omega)]
theorem encs_bytes (s : Str) : encs (Str.bytes s) = s.map fun c => Value.int .u8 (c.toNat : Int) := by
  induction s with
  | nil => rfl
  | cons c s ih => show encs (c.toBitVec :: Str.bytes s) = _; rw [encs_cons, ih]; rfl

section
set_option linter.unusedSectionVars false
variable {P : Program} {n : Nat} {w0 : World} {ops : Array Oper} {Q : Exit → Act → World → Prop} {l : List Oper} {e : List (Nat × Value)} {F : Frz} {L L' : List Item} {d : Nat} {dst : Option Nat} {ty : TypeId} {pos : String} {aft : Array Edge} {gd : Option (Nat × Bool)}
theorem Ev.indexStr {x y : Operand} {t : TypeId} {s : Str} {i : Int} {kd : IntKind} {c : UInt8} (hx : ev e x = some (Str.v s)) (hy : ev e y = some (.int kd i)) (hu : ∀ w, (underlying t).run P w = .ok .string w) (h : lat s i = some c) :
    Ev P n w0 e F L ⟨dst, .index t x y, ty, pos, aft, gd⟩ (.int .u8 c.toBitVec.toNat) := fun a w ha hw => by
  obtain ⟨h1, h2⟩ : 0 ≤ i ∧ s[i.toNat]? = some c := by
    unfold lat at h
    split at h
    · exact ⟨by assumption, h⟩
    · cases h
  have hg : (Str.b s)[i.toNat]? = some c := by rw [Str.b_get]; exact h2
  simp [execOp, ha.eval hx, ha.eval hy, Instr.index, asIntOf, hu, Str.v, h1, hg]
theorem cutS {s m : Str} {i j : Int} (h : cutL s i j = some m) : (0 ≤ i ∧ i ≤ j ∧ j ≤ s.length) ∧ (Str.b s).extract i.toNat j.toNat = Str.b m := by
  obtain ⟨h1, h2⟩ := cutL_some h
  exact ⟨h1, by rw [Str.b_extract, h2]⟩
theorem Ev.sliceStrTo {x z : Operand} {t : TypeId} {s m : Str} {j : Int} (hx : ev e x = some (Str.v s)) (hz : ev e z = some (.int .i64 j)) (hu : ∀ w, (underlying t).run P w = .ok .string w) (h : cutL s 0 j = some m) :
    Ev P n w0 e F L ⟨dst, .slice t x none (some z) none, ty, pos, aft, gd⟩ (Str.v m) := fun a w ha hw => by
  obtain ⟨⟨h1, h2, h3⟩, h4⟩ := cutS h
  simp only [Int.toNat_zero] at h4
  simp [execOp, ha.eval hx, ha.eval hz, Instr.sliceAt, Instr.slice, Instr.sliceBounds, Instr.sliceBound, asIntOf, hu, Str.v, Str.size, h2, h3, h4]
theorem Ev.sliceStrFrom {x y : Operand} {t : TypeId} {s m : Str} {i : Int} (hx : ev e x = some (Str.v s)) (hy : ev e y = some (.int .i64 i)) (hu : ∀ w, (underlying t).run P w = .ok .string w) (h : cutL s i (s.length : Int) = some m) :
    Ev P n w0 e F L ⟨dst, .slice t x (some y) none none, ty, pos, aft, gd⟩ (Str.v m) := fun a w ha hw => by
  obtain ⟨⟨h1, h2, h3⟩, h4⟩ := cutS h
  simp only [Int.toNat_natCast] at h4
  simp [execOp, ha.eval hx, ha.eval hy, Instr.sliceAt, Instr.slice, Instr.sliceBounds, Instr.sliceBound, asIntOf, hu, Str.v, Str.size, h1, h2, h4]
theorem Str.b_list (s : Str) : (Str.b s).toList = s := by simp [ByteArray.toList_eq, Str.b]
theorem Ev.eqlStr {x y : Operand} {t t2 : TypeId} {s m : Str} (hx : ev e x = some (Str.v s)) (hy : ev e y = some (Str.v m)) :
    Ev P n w0 e F L ⟨dst, .binOp .eql t x y t2, ty, pos, aft, gd⟩ (.bool (decide (s = m))) := fun a w ha hw => by
  simp [execOp, ha.eval hx, ha.eval hy, eqGuard, binOp, Op.stringOp, Str.v, Str.b_list]
  rw [Bool.eq_iff_iff]; simp
theorem Ev.neqStr {x y : Operand} {t t2 : TypeId} {s m : Str} (hx : ev e x = some (Str.v s)) (hy : ev e y = some (Str.v m)) :
    Ev P n w0 e F L ⟨dst, .binOp .neq t x y t2, ty, pos, aft, gd⟩ (.bool (!decide (s = m))) := fun a w ha hw => by
  simp [execOp, ha.eval hx, ha.eval hy, eqGuard, binOp, Op.stringOp, Str.v, Str.b_list]
  rw [Bool.eq_iff_iff]; simp
end
end Go.Proofs.YtnljiedichjagaaDoor
