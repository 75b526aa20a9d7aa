/-
  The rules of operations: computing ones.
-/
import Derived.Test.YtnkfphbggemlbaaGoC
namespace Go.Proofs.Ytnkfphbggemlbaa
open Go.RowKit Enc

section
variable {P : Program} {n : Nat} {w0 : World} {e : List (Nat × Value)} {F : Frz} {L : List Item} {v : Value} {dst : Option Nat} {ty : TypeId} {pos : String} {aft : Array Edge} {gd : Option (Nat × Bool)}

theorem Ev.move {x : Operand} (hx : ev e x = some v) : Ev P n w0 e F L ⟨dst, .move x, ty, pos, aft, gd⟩ v := fun a w ha _ => by
  simp [execOp, ha.eval hx]
theorem mv0 {Q : Exit → Act → World → Prop} {ops : Array Oper} {l : List Oper} {d : Nat} {x : Operand} (hx : ev e x = some v) (k : Lst P n w0 ops Q l ((d, v) :: e) F L) (hg : gd = none := by exact rfl) (hd : dst = some d := by exact rfl) (hn : d < n := by decide) : Lst P n w0 ops Q (⟨dst, .move x, ty, pos, aft, gd⟩ :: l) e F L := Lst.run hg hd hn (Ev.move hx) k
theorem Ev.assign {x : Operand} (hx : ev e x = some v) : Ev P n w0 e F L ⟨dst, .assign x, ty, pos, aft, gd⟩ v := fun a w ha _ => by
  simp [execOp, ha.eval hx]
theorem Ev.pickT {c x y : Operand} {b : Bool} (hc : ev e c = some (.bool b)) (hb : b = true) (hx : ev e x = some v) : Ev P n w0 e F L ⟨dst, .pick c x y, ty, pos, aft, gd⟩ v := fun a w ha _ => by
  simp [execOp, ha.eval hc, ha.eval hx, hb, asBool]
theorem Ev.pickF {c x y : Operand} {b : Bool} (hc : ev e c = some (.bool b)) (hb : b = false) (hy : ev e y = some v) : Ev P n w0 e F L ⟨dst, .pick c x y, ty, pos, aft, gd⟩ v := fun a w ha _ => by
  simp [execOp, ha.eval hc, ha.eval hy, hb, asBool]
theorem Ev.not {x : Operand} {b : Bool} {t : TypeId} (hx : ev e x = some (.bool b)) : Ev P n w0 e F L ⟨dst, .unOp .not t x, ty, pos, aft, gd⟩ (.bool (!b)) := fun a w ha _ => by
  simp [execOp, ha.eval hx, Op.unary]
section
variable {x y : Operand} {t t2 : TypeId} {k : IntKind} {i j : Int}
theorem Ev.addK (hx : ev e x = some (.int k i)) (hy : ev e y = some (.int k j)) : Ev P n w0 e F L ⟨dst, .binOp .add t x y t2, ty, pos, aft, gd⟩ (.int k (k.wrap (i + j))) := fun a w ha _ => by
  simp [execOp, ha.eval hx, ha.eval hy, eqGuard, binOp, Op.intArith]
theorem Ev.subK (hx : ev e x = some (.int k i)) (hy : ev e y = some (.int k j)) : Ev P n w0 e F L ⟨dst, .binOp .sub t x y t2, ty, pos, aft, gd⟩ (.int k (k.wrap (i - j))) := fun a w ha _ => by
  simp [execOp, ha.eval hx, ha.eval hy, eqGuard, binOp, Op.intArith]
theorem Ev.mulK (hx : ev e x = some (.int k i)) (hy : ev e y = some (.int k j)) : Ev P n w0 e F L ⟨dst, .binOp .mul t x y t2, ty, pos, aft, gd⟩ (.int k (k.wrap (i * j))) := fun a w ha _ => by
  simp [execOp, ha.eval hx, ha.eval hy, eqGuard, binOp, Op.intArith]
theorem Ev.add (hx : ev e x = some (.int .i64 i)) (hy : ev e y = some (.int .i64 j)) : Ev P n w0 e F L ⟨dst, .binOp .add t x y t2, ty, pos, aft, gd⟩ (.int .i64 (w64 (i + j))) := Ev.addK hx hy
theorem Ev.incr {m : Nat} (h : m < 9223372036854775807) (hx : ev e x = some (.int .i64 (m : Int))) (hy : ev e y = some (.int .i64 1)) : Ev P n w0 e F L ⟨dst, .binOp .add t x y t2, ty, pos, aft, gd⟩ (.int .i64 ((m + 1 : Nat) : Int)) := by
  have := Ev.add (P := P) (n := n) (w0 := w0) (F := F) (L := L) (dst := dst) (ty := ty) (pos := pos) (aft := aft) (gd := gd) (t := t) (t2 := t2) hx hy
  rwa [w64_id (by omega) (by omega)] at this
theorem Ev.sub (hx : ev e x = some (.int .i64 i)) (hy : ev e y = some (.int .i64 j)) : Ev P n w0 e F L ⟨dst, .binOp .sub t x y t2, ty, pos, aft, gd⟩ (.int .i64 (w64 (i - j))) := Ev.subK hx hy
theorem Ev.mul (hx : ev e x = some (.int .i64 i)) (hy : ev e y = some (.int .i64 j)) : Ev P n w0 e F L ⟨dst, .binOp .mul t x y t2, ty, pos, aft, gd⟩ (.int .i64 (w64 (i * j))) := Ev.mulK hx hy
theorem Ev.eql (hx : ev e x = some (.int k i)) (hy : ev e y = some (.int k j)) : Ev P n w0 e F L ⟨dst, .binOp .eql t x y t2, ty, pos, aft, gd⟩ (.bool (i == j)) := fun a w ha _ => by
  simp [execOp, ha.eval hx, ha.eval hy, eqGuard, binOp, Op.intCmp]
theorem Ev.neq (hx : ev e x = some (.int k i)) (hy : ev e y = some (.int k j)) : Ev P n w0 e F L ⟨dst, .binOp .neq t x y t2, ty, pos, aft, gd⟩ (.bool (i != j)) := fun a w ha _ => by
  simp [execOp, ha.eval hx, ha.eval hy, eqGuard, binOp, Op.intCmp]
theorem Ev.lss (hx : ev e x = some (.int k i)) (hy : ev e y = some (.int k j)) : Ev P n w0 e F L ⟨dst, .binOp .lss t x y t2, ty, pos, aft, gd⟩ (.bool (decide (i < j))) := fun a w ha _ => by
  simp [execOp, ha.eval hx, ha.eval hy, eqGuard, binOp, Op.intCmp]
theorem Ev.leq (hx : ev e x = some (.int k i)) (hy : ev e y = some (.int k j)) : Ev P n w0 e F L ⟨dst, .binOp .leq t x y t2, ty, pos, aft, gd⟩ (.bool (decide (i ≤ j))) := fun a w ha _ => by
  simp [execOp, ha.eval hx, ha.eval hy, eqGuard, binOp, Op.intCmp]
theorem Ev.gtr (hx : ev e x = some (.int k i)) (hy : ev e y = some (.int k j)) : Ev P n w0 e F L ⟨dst, .binOp .gtr t x y t2, ty, pos, aft, gd⟩ (.bool (decide (i > j))) := fun a w ha _ => by
  simp [execOp, ha.eval hx, ha.eval hy, eqGuard, binOp, Op.intCmp]
theorem Ev.geq (hx : ev e x = some (.int k i)) (hy : ev e y = some (.int k j)) : Ev P n w0 e F L ⟨dst, .binOp .geq t x y t2, ty, pos, aft, gd⟩ (.bool (decide (i ≥ j))) := fun a w ha _ => by
  simp [execOp, ha.eval hx, ha.eval hy, eqGuard, binOp, Op.intCmp]
end

section
variable {x y : Operand} {t t2 : TypeId}
theorem und {d : TypeDesc} (hu : ∀ w, (underlying t).run P w = .ok d w) : P.underlying t = some d := by
  have := hu default
  unfold underlying at this
  simp at this
  cases h : P.underlying t with
  | none => simp [h] at this
  | some d' => simp [h] at this; rw [this]
theorem Ev.eqlB {i j : Bool} (hx : ev e x = some (.bool i)) (hy : ev e y = some (.bool j)) (hu : ∀ w, (underlying t).run P w = .ok .bool w) : Ev P n w0 e F L ⟨dst, .binOp .eql t x y t2, ty, pos, aft, gd⟩ (.bool (i == j)) := fun a w ha _ => by
  have h := run_equalIn_bool (P := P) w 9999 t i j (und hu); simp [execOp, ha.eval hx, ha.eval hy, eqGuard, binOp, Op.equal, show Op.maxDepth = 9999 + 1 from rfl, h]
end

/-! bits -/
section
variable {x y : Operand} {t t2 : TypeId}
theorem bv_int {m : Nat} (x : BitVec m) : BitVec.ofInt m (x.toNat : Int) = x := by
  apply BitVec.eq_of_toNat_eq
  have := x.isLt
  simp
theorem shr_nat (x j m : Nat) (h : x < 2 ^ m) : x / 2 ^ (min j m) = x / 2 ^ j := by
  by_cases hj : j ≤ m
  · rw [Nat.min_eq_left hj]
  · rw [Nat.min_eq_right (by omega), Nat.div_eq_of_lt h, Nat.div_eq_of_lt (Nat.lt_of_lt_of_le h (Nat.pow_le_pow_right (by omega) (by omega)))]
end

/-! addresses of variables -/
theorem Ev.fieldAddr {x : Operand} {t : TypeId} {k b off off' : Nat} {fs : Array Field} {f : Field} {s : Nat} (hx : ev e x = some (.pointer (some ⟨b, off, none⟩))) (hu : ∀ w, (underlying t).run P w = .ok (.struct fs) w)
    (hf : fs[k]? = some f) (hs : ∀ w, (sizeOf f.type).run P w = .ok s w) (h0 : (s == 0) = false) (ho : off + f.offset = off') : Ev P n w0 e F L ⟨dst, .fieldAddr t x k, ty, pos, aft, gd⟩ (.pointer (some ⟨b, off', none⟩)) := fun a w ha _ => by
  subst ho
  have h0' : ¬ s = 0 := by simpa using h0
  simp [execOp, ha.eval hx, Instr.fieldAt, hu, hf, Instr.sureAddr, fieldPlace, hs, h0', Addr.add]
theorem Ev.indexAddr {x y : Operand} {t el : TypeId} {b off off' len s : Nat} {i : Int} (hx : ev e x = some (.pointer (some ⟨b, off, none⟩))) (hy : ev e y = some (.int .i64 i)) (hu : ∀ w, (underlying t).run P w = .ok (.array len el) w)
    (hs : ∀ w, (sizeOf el).run P w = .ok s w) (h0 : 0 ≤ i) (hi : i < len) (ho : off + i.toNat * s = off') : Ev P n w0 e F L ⟨dst, .indexAddr t x y, ty, pos, aft, gd⟩ (.pointer (some ⟨b, off', none⟩)) := fun a w ha _ => by
  subst ho
  simp [execOp, ha.eval hx, ha.eval hy, Instr.indexAt, asIntOf, hu, Instr.sureAddr, hs, h0, hi, Addr.add]
end
end Go.Proofs.Ytnkfphbggemlbaa
