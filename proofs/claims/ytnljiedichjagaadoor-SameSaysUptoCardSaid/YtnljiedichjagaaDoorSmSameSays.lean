/-
  The law: what is read, what is run, and whether two commands may be swapped.
-/
import Derived.Test.YtnljiedichjagaaDoorSmSameRead
namespace Go.Proofs.YtnljiedichjagaaDoor
open Enc

theorem swaps_law {a b : Str} {fu : Nat} {x y : Cmd} {e f : Int} (h1 : same_Read fu a = some (x, e)) (h2 : same_Read fu b = some (y, f)) :
    same_Swaps fu a b = some (e != 0 || f != 0 || decide (x = y) || bif (x.Kind == 4 && x.N == y.Key) || (y.Kind == 4 && y.N == x.Key) then (x.Kind == 4 && x.N == x.Key) || (y.Kind == 4 && y.N == y.Key) else x.Key != y.Key || (x.Kind == 3 && y.Kind == 3)) := by
  unfold same_Swaps same_Swaps_1
  rw [h1, h2]
  simp only [Option.bind_some]
  generalize (e != 0) = p1
  generalize (f != 0) = p2
  generalize decide (x = y) = p3
  generalize (x.Kind == 4) = p4
  generalize (x.N == y.Key) = p5
  generalize (y.Kind == 4) = p6
  generalize (y.N == x.Key) = p7
  generalize (x.N == x.Key) = p8
  generalize (y.N == y.Key) = p9
  generalize (x.Key != y.Key) = p10
  generalize (x.Kind == 3) = p11
  generalize (y.Kind == 3) = p12
  cases p1 <;> try rfl
  cases p2 <;> try rfl
  cases p3 <;> try rfl
  cases p4 <;> cases p6 <;> cases p10 <;> (try cases p5) <;> (try cases p7) <;> (try cases p8) <;> (try cases p9) <;> (try cases p11) <;> rfl
theorem samesays_law {fu : Nat} {a0 : Str} {a1 : Vector Int 10} {a2 : List Str} {a3 a4 : Str} (h0 : a0.length ≤ 2 ^ 21) (h2 : ∀ s ∈ a2, s.length ≤ 2 ^ 21) (h3 : a3.length ≤ 2 ^ 21) (h4 : a4.length ≤ 2 ^ 21) (hf : 2 ^ 21 + 400 < fu) :
    partlaw_SameSays fu a0 a1 a2 a3 a4 = some true := by
  obtain ⟨c, e, r1, r2, _⟩ := read_law (fu := fu) h0 (by omega)
  obtain ⟨x, ex, r3, r4, _⟩ := read_law (fu := fu) h3 (by omega)
  obtain ⟨y, ey, r5, r6, _⟩ := read_law (fu := fu) h4 (by omega)
  obtain ⟨r, r7, r8⟩ := run_law (fu := fu) (v := a1) h2 hf
  unfold partlaw_SameSays
  rw [r1, r2, r7, r8]
  simp only [Option.bind_some, decide_true, Bool.not_true, cond_false, bne_self_eq_false]
  rw [r4, r6, swaps_law r3 r5]
  simp only [Option.bind_some]
  generalize (ex != 0) = p1
  generalize (ey != 0) = p2
  generalize decide (x = y) = p3
  generalize (x.Kind == 4) = p4
  generalize (x.N == y.Key) = p5
  generalize (y.Kind == 4) = p6
  generalize (y.N == x.Key) = p7
  generalize (x.N == x.Key) = p8
  generalize (y.N == y.Key) = p9
  generalize (x.Key != y.Key) = p10
  generalize (x.Kind == 3) = p11
  generalize (y.Kind == 3) = p12
  cases p4 <;> cases p5 <;> cases p6 <;> cases p7 <;> cases p8 <;> cases p9 <;> cases p10 <;> cases p11 <;> cases p12 <;> (try rfl) <;> cases p1 <;> (try rfl) <;> cases p2 <;> (try rfl) <;> cases p3 <;> rfl
theorem samesays_up (a0 : Str) (a1 : Vector Int 10) (a2 : List Str) (a3 a4 : Str) {p : Prop} (h0 : Bnd.ok 1048576 a0) (_ : p) (h2 : a2.length ≤ 1048576 ∧ ∀ r ∈ a2, Bnd.ok 1048576 r) (h3 : Bnd.ok 1048576 a3) (h4 : Bnd.ok 1048576 a4) :
    ∃ fu, partlaw_SameSays fu a0 a1 a2 a3 a4 = some true := by
  have e0 : a0.length ≤ 1048576 := h0
  have e3 : a3.length ≤ 1048576 := h3
  have e4 : a4.length ≤ 1048576 := h4
  refine ⟨2 ^ 22, samesays_law (by omega) (fun s hs => ?_) (by omega) (by omega) (by omega)⟩
  have e2 : s.length ≤ 1048576 := h2.2 s hs
  omega
end Go.Proofs.YtnljiedichjagaaDoor
