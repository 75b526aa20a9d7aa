/-
  More computing operations: unsigned numbers, shifts, division, conversions.
-/
import Derived.Test.YtnljiedichjagaaDoorGoF
namespace Go.Proofs.YtnljiedichjagaaDoor
open Go.RowKit Enc
theorem wrapU8 (z : Int) : IntKind.u8.wrap z = ((BitVec.ofInt 8 z).toNat : Int) := by
  simp only [IntKind.wrap, IntKind.bits, IntKind.signed, BitVec.toNat_ofInt]; simp; omega
theorem ofInt_sub' {w : Nat} (a b : Int) : BitVec.ofInt w (a - b) = BitVec.ofInt w a - BitVec.ofInt w b := by
  apply BitVec.eq_of_toInt_eq
  simp [BitVec.toInt_sub, BitVec.toInt_ofInt]
section
variable {P : Program} {n : Nat} {w0 : World} {e : List (Nat × Value)} {F : Frz} {L : List Item} {v : Value} {dst : Option Nat} {ty : TypeId} {pos : String} {aft : Array Edge} {gd : Option (Nat × Bool)} {x y : Operand} {t t2 s : TypeId}
theorem Ev.subU8 {i j : BitVec 8} (hx : ev e x = some (.int .u8 i.toNat)) (hy : ev e y = some (.int .u8 j.toNat)) : Ev P n w0 e F L ⟨dst, .binOp .sub t x y t2, ty, pos, aft, gd⟩ (.int .u8 (i - j).toNat) := by
  have h := Ev.subK (P := P) (n := n) (w0 := w0) (F := F) (L := L) (dst := dst) (ty := ty) (pos := pos) (aft := aft) (gd := gd) (t := t) (t2 := t2) hx hy
  rw [wrapU8] at h
  rwa [show BitVec.ofInt 8 ((i.toNat : Int) - (j.toNat : Int)) = i - j from by rw [ofInt_sub', bv_int, bv_int]] at h
end
end Go.Proofs.YtnljiedichjagaaDoor
