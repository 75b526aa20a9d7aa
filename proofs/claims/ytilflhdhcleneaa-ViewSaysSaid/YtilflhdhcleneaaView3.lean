/-
  Contracts of view.Next, view.Follows and view.First.
-/
import Derived.Test.YtilflhdhcleneaaView2
namespace Go.Proofs.Ytilflhdhcleneaa
open Go.RowKit

theorem and_compl2 (m g : Nat) (hm : m < 64) (hg : g < 64) : (m &&& (255 - g)) &&& m = m - (m &&& g) := by
  have h : ∀ (a b : Fin 64), (a.val &&& (255 - b.val)) &&& a.val = a.val - (a.val &&& b.val) := by decide +kernel
  exact h ⟨m, hm⟩ ⟨g, hg⟩

set_option maxHeartbeats 1000000 in
theorem next_any (n : Int) (m g c : Nat) (h1 : m < 256) (h2 : g < 256) (h3 : c < 256) (w : World) :
    Calls Try.prog 8 #[.agg #[.int .i64 n, .int .u8 m], .int .u8 g, .int .u8 c] w fun e w' =>
      e = .returned (.tuple #[.agg #[.int .i64 (nextNum n m g c), .int .u8 (nextMem n m g c)], .int .i64 (nextErr n m g c)]) ∧ Ext w w' := by
  have hb1 := u8_and_nat g c h2 h3
  have hb4 := u8_or_nat g c h2 h3
  have hb2 := u8_andNot_nat m g h1 h2
  have hst : m &&& (255 - g) < 256 := Nat.lt_of_le_of_lt Nat.and_le_left h1
  have hor : (g ||| c) < 256 := Nat.or_lt_two_pow (n := 8) h2 h3
  have hb3 := u8_or_nat (m &&& (255 - g)) c hst h3
  have l1 := pc_le m
  have OR := Lib.hid (or_lt64 g c)
  have AC := Lib.hid (fun (hm : m < 64) (hg : g < 64) => and_compl m g hm hg)
  have AC2 := Lib.hid (fun (hm : m < 64) (hg : g < 64) => and_compl2 m g hm hg)
  rcases viewErr_01 n m with hv | hv
  case' inl => have V := viewErr_0 hv
  all_goals
    have HV := Lib.hid hv
    go_enter Try.func8, Try.ntmps8
    go_wp2_with (first
      | (go_at_call 12; refine (vcheck_any n m h1 _).mono ?_; rintro e w' ⟨rfl, hx⟩; obtain ⟨g1, rfl⟩ := hx.gr; clear hx)
      | (go_at_call 29; refine (outside_any (g ||| c) hor _).mono ?_; rintro e w' ⟨rfl, rfl⟩)
      | (go_at_call 30; refine (half_any (m &&& (255 - g)) m hst h1 _).mono ?_; rintro e w' ⟨rfl, rfl⟩))
  all_goals first
    | (have hE := nextErr_b (g := g) (c := c) HV.out (by have := OR.out; have := ‹63 < g ||| c ∨ _›; simp only [bne_iff_ne] at this; omega))
    | (have hE := nextErr_b (g := g) (c := c) HV.out (by have := OR.out; have := ‹¬ g ||| c ≤ 63›; omega))
    | (have hE := nextErr_c (g := g) (c := c) HV.out (by have := OR.out; have := ‹_ ∧ (((g &&& c : Nat) : Int) != 0) = false›; simp only [bne_eq_false_iff_eq] at this; omega) (by simpa using ‹(n == 16777215) = true›))
    | (have hE := nextErr_d (g := g) (c := c) HV.out (by have := OR.out; have := ‹_ ∧ (((g &&& c : Nat) : Int) != 0) = false›; simp only [bne_eq_false_iff_eq] at this; omega) (by simpa using ‹(n == 16777215) = false›)
        (by rw [← AC2.out (by omega) (by have := OR.out; omega)]; have := ‹(!decide (pc m < 2 * pc (m &&& 255 - g &&& m))) = true›; simpa using this))
    | (have hE := nextErr_e (g := g) (c := c) HV.out (by have := OR.out; have := ‹_ ∧ (((g &&& c : Nat) : Int) != 0) = false›; simp only [bne_eq_false_iff_eq] at this; omega) (by simpa using ‹(n == 16777215) = false›)
        (by rw [← AC2.out (by omega) (by have := OR.out; omega)]; have := ‹(!decide (pc m < 2 * pc (m &&& 255 - g &&& m))) = false›; simpa using this))
    | (have hE := nextErr_a (n := n) (m := m) (g := g) (c := c) (by have := HV.out; omega))
  all_goals
    refine bodyPost_ret (v := .tuple #[.agg #[.int .i64 (nextNum n m g c), .int .u8 (nextMem n m g c)], .int .i64 (nextErr n m g c)]) ?_ rfl ⟨rfl, ?_⟩
    · first
        | (have hM := nextMem_eq n m g c
           rw [if_pos hE, ← AC.out (by omega) (by have := OR.out; omega)] at hM
           simp [results, Try.results8, go_sem, nextNum_eq, hM, hE])
        | simp [results, Try.results8, go_sem, nextNum_eq, nextMem_eq, hE]
    · repeat (first | exact Ext.refl _ | apply Ext.alloc | apply Ext.drew | (refine Ext.setCell ?_ (by simp) _) | (refine Ext.trans ?_ (Grow.ext _)))

def followErr (n1 : Int) (m1 : Nat) (n2 : Int) (m2 : Nat) : Int := if viewErr n1 m1 = 0 then viewErr n2 m2 else 1
def follows (n1 : Int) (m1 : Nat) (n2 : Int) (m2 : Nat) : Bool := decide (followErr n1 m1 n2 m2 = 0) && ((n2 == n1 + 1) && decide (pc m1 < 2 * pc (m2 &&& m1)))
theorem follows_a {n1 : Int} {m1 : Nat} {n2 : Int} {m2 : Nat} (h : viewErr n1 m1 = 1) : followErr n1 m1 n2 m2 = 1 ∧ follows n1 m1 n2 m2 = false := by simp [follows, followErr, h]
theorem follows_b {n1 : Int} {m1 : Nat} {n2 : Int} {m2 : Nat} (h : viewErr n1 m1 = 0) (k : viewErr n2 m2 = 1) : followErr n1 m1 n2 m2 = 1 ∧ follows n1 m1 n2 m2 = false := by simp [follows, followErr, h, k]
theorem follows_c {n1 : Int} {m1 : Nat} {n2 : Int} {m2 : Nat} (h : viewErr n1 m1 = 0) (k : viewErr n2 m2 = 0) :
    followErr n1 m1 n2 m2 = 0 ∧ follows n1 m1 n2 m2 = ((n2 == n1 + 1) && decide (pc m1 < 2 * pc (m2 &&& m1))) := by simp [follows, followErr, h, k]
attribute [irreducible] followErr follows

set_option maxHeartbeats 1000000 in
theorem follows_any (n1 : Int) (m1 : Nat) (n2 : Int) (m2 : Nat) (h1 : m1 < 256) (h2 : m2 < 256) (w : World) :
    Calls Try.prog 10 #[.agg #[.int .i64 n1, .int .u8 m1], .agg #[.int .i64 n2, .int .u8 m2]] w fun e w' =>
      e = .returned (.tuple #[.bool (follows n1 m1 n2 m2), .int .i64 (followErr n1 m1 n2 m2)]) ∧ Ext w w' := by
  rcases viewErr_01 n1 m1 with hv | hv
  · have V1 := viewErr_0 hv
    rcases viewErr_01 n2 m2 with hw | hw
    · have V2 := viewErr_0 hw
      have F := Lib.hid (follows_c hv hw)
      by_cases hn : n2 = n1 + 1
      · subst hn
        have hb : ((n1 + 1) == (n1 + 1)) = true := by simp
        go_enter Try.func10, Try.ntmps10
        go_wp2_with fail
        refine wp_loop_rounds 3 ?_
        rw [rounds_succ]
        go_wp2_with (go_at_call 12; refine (vcheck_any n1 m1 h1 _).mono ?_; rintro e w' ⟨rfl, hx⟩; obtain ⟨g1, rfl⟩ := hx.gr; clear hx)
        rw [rounds_succ]
        go_wp2_with (go_at_call 12; refine (vcheck_any (n1 + 1) m2 h2 _).mono ?_; rintro e w' ⟨rfl, hx⟩; obtain ⟨g2, rfl⟩ := hx.gr; clear hx)
        rw [rounds_succ]
        go_wp2_with (go_at_call 30; refine (half_any m2 m1 h2 h1 _).mono ?_; rintro e w' ⟨rfl, rfl⟩)
        go_ret2
        refine ⟨?_, ?_⟩
        · rw [F.out.1, F.out.2]; simp
        · repeat (first | exact Ext.refl _ | apply Ext.alloc | apply Ext.drew | (refine Ext.setCell ?_ (by simp) _) | (refine Ext.trans ?_ (Grow.ext _)))
      · have hb : (n2 == n1 + 1) = false := by simpa using hn
        go_enter Try.func10, Try.ntmps10
        go_wp2_with fail
        refine wp_loop_rounds 3 ?_
        rw [rounds_succ]
        go_wp2_with (go_at_call 12; refine (vcheck_any n1 m1 h1 _).mono ?_; rintro e w' ⟨rfl, hx⟩; obtain ⟨g1, rfl⟩ := hx.gr; clear hx)
        rw [rounds_succ]
        go_wp2_with (go_at_call 12; refine (vcheck_any n2 m2 h2 _).mono ?_; rintro e w' ⟨rfl, hx⟩; obtain ⟨g2, rfl⟩ := hx.gr; clear hx)
        rw [rounds_succ]
        go_wp2_with fail
        go_ret2
        refine ⟨?_, ?_⟩
        · rw [F.out.1, F.out.2]; simp [hb]
        · repeat (first | exact Ext.refl _ | apply Ext.alloc | apply Ext.drew | (refine Ext.setCell ?_ (by simp) _) | (refine Ext.trans ?_ (Grow.ext _)))
    · have F := Lib.hid (follows_b hv hw)
      go_enter Try.func10, Try.ntmps10
      go_wp2_with fail
      refine wp_loop_rounds 3 ?_
      rw [rounds_succ]
      go_wp2_with (go_at_call 12; refine (vcheck_any n1 m1 h1 _).mono ?_; rintro e w' ⟨rfl, hx⟩; obtain ⟨g1, rfl⟩ := hx.gr; clear hx)
      rw [rounds_succ]
      go_wp2_with (go_at_call 12; refine (vcheck_any n2 m2 h2 _).mono ?_; rintro e w' ⟨rfl, hx⟩; obtain ⟨g2, rfl⟩ := hx.gr; clear hx)
      go_ret2
      refine ⟨?_, ?_⟩
      · rw [F.out.1, F.out.2]; simp
      · repeat (first | exact Ext.refl _ | apply Ext.alloc | apply Ext.drew | (refine Ext.setCell ?_ (by simp) _) | (refine Ext.trans ?_ (Grow.ext _)))
  · have F := Lib.hid (follows_a (n2 := n2) (m2 := m2) hv)
    go_enter Try.func10, Try.ntmps10
    go_wp2_with fail
    refine wp_loop_rounds 3 ?_
    rw [rounds_succ]
    go_wp2_with (go_at_call 12; refine (vcheck_any n1 m1 h1 _).mono ?_; rintro e w' ⟨rfl, hx⟩; obtain ⟨g1, rfl⟩ := hx.gr; clear hx)
    go_ret2
    refine ⟨?_, ?_⟩
    · rw [F.out.1, F.out.2]; simp
    · repeat (first | exact Ext.refl _ | apply Ext.alloc | apply Ext.drew | (refine Ext.setCell ?_ (by simp) _) | (refine Ext.trans ?_ (Grow.ext _)))

def tz (m : Nat) : Nat := Lib.trailingZeros8 m
theorem tz_eq (m : Nat) : Lib.trailingZeros8 m = tz m := rfl
theorem tz_spec (m : Nat) (h : m < 64) (h1 : 1 ≤ m) : tz m < 6 ∧ m / 2 ^ tz m % 2 = 1 ∧ ∀ k, k < tz m → m / 2 ^ k % 2 = 0 := by
  have H : ∀ a : Fin 64, 1 ≤ a.val → tz a.val < 6 ∧ a.val / 2 ^ tz a.val % 2 = 1 ∧ ∀ k : Fin 6, k.val < tz a.val → a.val / 2 ^ k.val % 2 = 0 := by decide +kernel
  obtain ⟨a, b, c⟩ := H ⟨m, h⟩ h1
  exact ⟨a, b, fun k hk => c ⟨k, by have : tz (⟨m, h⟩ : Fin 64).val = tz m := rfl; omega⟩ hk⟩
def first (n : Int) (m : Nat) : Int := if viewErr n m = 0 then tz m else 0
theorem first_0 {n : Int} {m : Nat} (h : viewErr n m = 0) : first n m = tz m := by simp [first, h]
theorem first_1 {n : Int} {m : Nat} (h : viewErr n m = 1) : first n m = 0 := by simp [first, h]
attribute [irreducible] tz first

set_option maxHeartbeats 400000 in
theorem first_any (n : Int) (m : Nat) (h1 : m < 256) (w : World) :
    Calls Try.prog 11 #[.agg #[.int .i64 n, .int .u8 m]] w fun e w' => e = .returned (.tuple #[.int .i64 (first n m), .int .i64 (viewErr n m)]) ∧ Ext w w' := by
  rcases viewErr_01 n m with hv | hv
  · have F := Lib.hid (first_0 hv)
    have HV := Lib.hid hv
    go_enter Try.func11, Try.ntmps11
    go_wp2_with (first
      | (go_at_call 12; refine (vcheck_any n m h1 _).mono ?_; rintro e w' ⟨rfl, hx⟩; obtain ⟨g1, rfl⟩ := hx.gr; clear hx)
      | (go_at_call 32; refine (Try.bits_TrailingZeros8 (m : Int) _ (by omega) (by omega)).mono ?_; rintro e w' ⟨rfl, rfl⟩; rw [Int.toNat_natCast, tz_eq]))
    go_ret2
    refine ⟨?_, ?_⟩
    · rw [F.out, HV.out]; simp
    · repeat (first | exact Ext.refl _ | apply Ext.alloc | apply Ext.drew | (refine Ext.setCell ?_ (by simp) _) | (refine Ext.trans ?_ (Grow.ext _)))
  · have F := Lib.hid (first_1 hv)
    have HV := Lib.hid hv
    go_enter Try.func11, Try.ntmps11
    go_wp2_with (go_at_call 12; refine (vcheck_any n m h1 _).mono ?_; rintro e w' ⟨rfl, hx⟩; obtain ⟨g1, rfl⟩ := hx.gr; clear hx)
    go_ret2
    refine ⟨?_, ?_⟩
    · rw [F.out, HV.out]; simp
    · repeat (first | exact Ext.refl _ | apply Ext.alloc | apply Ext.drew | (refine Ext.setCell ?_ (by simp) _) | (refine Ext.trans ?_ (Grow.ext _)))
end Go.Proofs.Ytilflhdhcleneaa
