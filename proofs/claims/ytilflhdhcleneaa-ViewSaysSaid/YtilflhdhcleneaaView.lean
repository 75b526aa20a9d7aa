/-
  Contracts of the packages view and partref's view functions: each returns what the plain functions of this text say, in a world that only grew.
-/
import Derived.Test.YtilflhdhcleneaaKit
import Derived.Test.YtilflhdhcleneaaShelf
namespace Go.Proofs.Ytilflhdhcleneaa
open Go.RowKit

def viewErr (n : Int) (m : Nat) : Int := if n < 0 ∨ 16777215 < n ∨ m < 1 ∨ 63 < m then 1 else 0
theorem viewErr_01 (n : Int) (m : Nat) : viewErr n m = 0 ∨ viewErr n m = 1 := by unfold viewErr; split <;> simp

theorem and_compl (m g : Nat) (hm : m < 64) (hg : g < 64) : m &&& (255 - g) = m - (m &&& g) := by
  have h : ∀ (a b : Fin 64), a.val &&& (255 - b.val) = a.val - (a.val &&& b.val) := by decide +kernel
  exact h ⟨m, hm⟩ ⟨g, hg⟩
theorem or_lt64 (a b : Nat) : 63 < (a ||| b) ↔ 63 < a ∨ 63 < b := by
  have h := @Nat.or_lt_two_pow a b 6
  constructor
  · intro h1
    by_cases ha : 63 < a
    · exact Or.inl ha
    · by_cases hb : 63 < b
      · exact Or.inr hb
      · have := h (by omega) (by omega); omega
  · rintro (h1 | h1)
    · have := @Nat.left_le_or a b; omega
    · have := @Nat.right_le_or a b; omega
theorem and_le_l (a b : Nat) : a &&& b ≤ a := Nat.and_le_left
theorem ones_step (x : Nat) (hx : x < 65536) : Lib.onesCount x = x % 2 + Lib.onesCount (x / 2) := by
  have h : ∀ (f x : Nat), x < 2 ^ f → Lib.popAux (f + 1) x = Lib.popAux f x := by
    intro f
    induction f with
    | zero => intro x hx; have : x = 0 := by omega
              subst this; rfl
    | succ f ih => intro x hx; rw [show Lib.popAux (f + 1 + 1) x = x % 2 + Lib.popAux (f + 1) (x / 2) from rfl, ih (x / 2) (by omega)]; rfl
  have e : Lib.onesCount x = Lib.popAux (63 + 1) x := rfl
  rw [e, Lib.popAux, show Lib.onesCount (x / 2) = Lib.popAux (63 + 1) (x / 2) from rfl, h 63 (x / 2) (by omega)]
theorem ones_zero : Lib.onesCount 0 = 0 := by decide +kernel
theorem ones_le (x : Nat) : Lib.onesCount x ≤ 64 := by
  have h : ∀ (f x : Nat), Lib.popAux f x ≤ f := by
    intro f
    induction f with
    | zero => intro x; simp [Lib.popAux]
    | succ f ih => intro x; rw [Lib.popAux]; have := ih (x / 2); omega
  exact h 64 x
def pc (x : Nat) : Nat := Lib.onesCount x
theorem pc_eq (x : Nat) : Lib.onesCount x = pc x := rfl
theorem pc_step (x : Nat) (hx : x < 65536) : pc x = x % 2 + pc (x / 2) := ones_step x hx
theorem pc_zero : pc 0 = 0 := ones_zero
theorem pc_le (x : Nat) : pc x ≤ 64 := ones_le x
attribute [irreducible] pc
def nextErr (n : Int) (m g c : Nat) : Int :=
  if viewErr n m ≠ 0 then 1 else if 63 < g ∨ 63 < c ∨ g &&& c ≠ 0 then 1 else if n = 16777215 then 8
  else if 2 * pc (m - (m &&& g)) ≤ pc m then 11 else 0
def nextNum (n : Int) (m g c : Nat) : Int := if nextErr n m g c = 0 then n + 1 else 0
def nextMem (n : Int) (m g c : Nat) : Nat := if nextErr n m g c = 0 then (m - (m &&& g)) ||| c else 0


set_option maxHeartbeats 400000 in
theorem outside_any (a : Nat) (h1 : a < 256) (w : World) :
    Calls Try.prog 29 #[.int .u8 a] w fun e w' => e = .returned (.bool (decide (63 < a))) ∧ w = w' := by
  go_enter Try.func29, Try.ntmps29
  go_wp2
  go_ret
  refine ⟨ret_b ?_, rfl⟩
  rw [Bool.eq_iff_iff]; simp; omega

set_option maxHeartbeats 400000 in
theorem vcheck_any (n : Int) (m : Nat) (h1 : m < 256) (w : World) :
    Calls Try.prog 12 #[.agg #[.int .i64 n, .int .u8 m]] w fun e w' => e = .returned (.int .i64 (viewErr n m)) ∧ Ext w w' := by
  go_enter Try.func12, Try.ntmps12
  go_wp2_with (go_at_call 29; refine (outside_any m h1 _).mono ?_; rintro e w' ⟨rfl, rfl⟩)
  all_goals go_ret
  all_goals refine ⟨ret_i ?_, (Ext.refl _).alloc _⟩
  all_goals unfold viewErr
  all_goals first | rw [if_pos (by omega)] | rw [if_neg (by omega)] | (simp only [beq_iff_eq] at *; first | rw [if_pos (by omega)] | rw [if_neg (by omega)])

set_option maxHeartbeats 400000 in
theorem viewErr_any (n : Int) (m : Nat) (h1 : m < 256) (w : World) :
    Calls Try.prog 7 #[.agg #[.int .i64 n, .int .u8 m]] w fun e w' => e = .returned (.int .i64 (viewErr n m)) ∧ Ext w w' := by
  go_enter Try.func7, Try.ntmps7
  go_wp2_with fail
  all_goals go_ret
  all_goals refine ⟨ret_i ?_, (Ext.refl _).alloc _⟩
  all_goals unfold viewErr
  all_goals first | rw [if_pos (by omega)] | rw [if_neg (by omega)]

set_option maxHeartbeats 400000 in
theorem half_any (a b : Nat) (h1 : a < 256) (g1 : b < 256) (w : World) :
    Calls Try.prog 30 #[.int .u8 a, .int .u8 b] w fun e w' => e = .returned (.bool (decide (pc b < 2 * pc (a &&& b)))) ∧ w = w' := by
  have hb := u8_and_nat a b h1 g1
  have hlt : a &&& b < 256 := Nat.lt_of_le_of_lt Nat.and_le_left h1
  have l1 := pc_le (a &&& b)
  have l2 := pc_le b
  go_enter Try.func30, Try.ntmps30
  go_wp2_with (first
    | (go_at_call 37; refine (Try.bits_OnesCount8 ((a &&& b : Nat) : Int) _ (by omega) (by omega)).mono ?_; rintro e w' ⟨rfl, rfl⟩; rw [Int.toNat_natCast, pc_eq])
    | (go_at_call 37; refine (Try.bits_OnesCount8 (b : Int) _ (by omega) (by omega)).mono ?_; rintro e w' ⟨rfl, rfl⟩; rw [Int.toNat_natCast, pc_eq]))
  go_ret
  refine ⟨ret_b ?_, rfl⟩
  rw [Bool.eq_iff_iff]; simp; omega

set_option maxHeartbeats 400000 in
theorem size_any (x : Nat) (hx : x < 65536) (w : World) :
    Calls Try.prog 31 #[.int .u16 x] w fun e w' => e = .returned (.int .i64 (pc x)) ∧ w = w' := by
  have lx := pc_le x
  go_enter Try.func31, Try.ntmps31
  go_wp2
  go_loop [0, 3] (fun a b => ∃ s n : Nat, s < 65536 ∧ n ≤ 64 ∧ n + pc s = pc x ∧ a = .int .u16 s ∧ b = .int .i64 n) (fun a _ => (intOf a).toNat)
  case atStart => exact ⟨x, 0, hx, by omega, by omega, rfl, rfl⟩
  case round =>
    obtain ⟨s, n, hs, hn, he, rfl, rfl⟩ := hrel
    have HE := Lib.hid he
    clear he
    have HS := Lib.hid (pc_step s hs)
    by_cases hlt : 0 < s
    · go_wp2
      go_round
      case rel => exact ⟨s / 2, n + s % 2, by omega, by have := HE.out; have := HS.out; omega, by have := HE.out; have := HS.out; omega, by go_num, by go_num⟩
      case measure => simp [intOf]; omega
    · obtain rfl : s = 0 := by omega
      go_wp2
      go_ret
      exact ⟨ret_i (by have := HE.out; rw [pc_zero] at this; omega), rfl⟩
theorem nextNum_eq (n : Int) (m g c : Nat) : nextNum n m g c = if nextErr n m g c = 0 then n + 1 else 0 := rfl
theorem nextMem_eq (n : Int) (m g c : Nat) : nextMem n m g c = if nextErr n m g c = 0 then (m - (m &&& g)) ||| c else 0 := rfl
attribute [irreducible] viewErr nextErr nextNum nextMem
end Go.Proofs.Ytilflhdhcleneaa
