/-
  More computing operations: unsigned numbers, shifts, division, conversions.
-/
import Derived.Test.YtnkfphbggemlbaaGoF
namespace Go.Proofs.Ytnkfphbggemlbaa
open Go.RowKit Enc
theorem wrapU64 (z : Int) : IntKind.u64.wrap z = ((BitVec.ofInt 64 z).toNat : Int) := by
  simp only [IntKind.wrap, IntKind.bits, IntKind.signed, BitVec.toNat_ofInt]; simp; omega
theorem shr_bv {K : Nat} (x : BitVec K) (n : Nat) : Int.fdiv (x.toNat : Int) (2 ^ (min n K)) = ((x >>> n).toNat : Int) := by
  rw [BitVec.toNat_ushiftRight, Nat.shiftRight_eq_div_pow, ← shr_nat x.toNat n K x.isLt]
  rw [show ((2 : Int) ^ (min n K)) = ((2 ^ (min n K) : Nat) : Int) by simp]
  exact (Int.ofNat_fdiv _ _).symm
section
variable {P : Program} {n : Nat} {w0 : World} {e : List (Nat × Value)} {F : Frz} {L : List Item} {v : Value} {dst : Option Nat} {ty : TypeId} {pos : String} {aft : Array Edge} {gd : Option (Nat × Bool)} {x y : Operand} {t t2 s : TypeId}
theorem Ev.addU64 {i j : BitVec 64} (hx : ev e x = some (.int .u64 i.toNat)) (hy : ev e y = some (.int .u64 j.toNat)) : Ev P n w0 e F L ⟨dst, .binOp .add t x y t2, ty, pos, aft, gd⟩ (.int .u64 (i + j).toNat) := by
  have h := Ev.addK (P := P) (n := n) (w0 := w0) (F := F) (L := L) (dst := dst) (ty := ty) (pos := pos) (aft := aft) (gd := gd) (t := t) (t2 := t2) hx hy
  rw [wrapU64] at h
  rwa [show BitVec.ofInt 64 ((i.toNat : Int) + (j.toNat : Int)) = i + j from by rw [BitVec.ofInt_add, bv_int, bv_int]] at h
theorem Ev.mulU64 {i j : BitVec 64} (hx : ev e x = some (.int .u64 i.toNat)) (hy : ev e y = some (.int .u64 j.toNat)) : Ev P n w0 e F L ⟨dst, .binOp .mul t x y t2, ty, pos, aft, gd⟩ (.int .u64 (i * j).toNat) := by
  have h := Ev.mulK (P := P) (n := n) (w0 := w0) (F := F) (L := L) (dst := dst) (ty := ty) (pos := pos) (aft := aft) (gd := gd) (t := t) (t2 := t2) hx hy
  rw [wrapU64] at h
  rwa [show BitVec.ofInt 64 ((i.toNat : Int) * (j.toNat : Int)) = i * j from by rw [BitVec.ofInt_mul, bv_int, bv_int]] at h
theorem Ev.andU64 {i j : BitVec 64} (hx : ev e x = some (.int .u64 i.toNat)) (hy : ev e y = some (.int .u64 j.toNat)) : Ev P n w0 e F L ⟨dst, .binOp .and t x y t2, ty, pos, aft, gd⟩ (.int .u64 (i &&& j).toNat) := fun a w ha _ => by
  have h : ∀ r : BitVec 64, IntKind.u64.wrap (r.toNat : Int) = r.toNat := fun r => by rw [wrapU64, bv_int]
  simp only [execOp, ha.eval hx, ha.eval hy, eqGuard, binOp, Op.intBits, IntKind.bits, bv_int]
  simp only [h]
  rfl
theorem Ev.shrU64 {i : BitVec 64} {k : IntKind} {m : Nat} (hx : ev e x = some (.int .u64 i.toNat)) (hy : ev e y = some (.int k (m : Int))) : Ev P n w0 e F L ⟨dst, .binOp .shr t x y t2, ty, pos, aft, gd⟩ (.int .u64 (i >>> m).toNat) := fun a w ha _ => by
  have hj : ¬ (m : Int) < 0 := by omega
  have h := shr_bv i m
  simp only [execOp, ha.eval hx, ha.eval hy, eqGuard, binOp, Op.shift, IntKind.bits, if_neg hj, Int.toNat_natCast]
  simp only [h]
  simp
theorem Ev.convTo64 {k : IntKind} {i : Int} {d1 : TypeDesc} (hx : ev e x = some (.int k i)) (h1 : ∀ w, (underlying s).run P w = .ok d1 w) (h2 : ∀ w, (underlying t).run P w = .ok (.int .u64) w) : Ev P n w0 e F L ⟨dst, .convert s t x, ty, pos, aft, gd⟩ (.int .u64 (BitVec.ofInt 64 i).toNat) := by
  rw [← wrapU64]; exact Ev.convI hx h1 h2
theorem Ev.conv64 {k : IntKind} {i : Int} {d1 : TypeDesc} (hx : ev e x = some (.int k i)) (h1 : ∀ w, (underlying s).run P w = .ok d1 w) (h2 : ∀ w, (underlying t).run P w = .ok (.int .i64) w) : Ev P n w0 e F L ⟨dst, .convert s t x, ty, pos, aft, gd⟩ (.int .i64 (w64 i)) := Ev.convI hx h1 h2
end
end Go.Proofs.Ytnkfphbggemlbaa
