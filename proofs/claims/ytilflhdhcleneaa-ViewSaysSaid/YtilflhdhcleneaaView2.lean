/-
  Contracts of view.Next, view.Follows, view.First and partref.NextView.
-/
import Derived.Test.YtilflhdhcleneaaView
namespace Go.Proofs.Ytilflhdhcleneaa
open Go.RowKit

theorem size_int (x : Int) (h0 : 0 ≤ x) (h1 : x ≤ 65535) (w : World) :
    Calls Try.prog 31 #[.int .u16 x] w fun e w' => e = .returned (.int .i64 (pc x.toNat)) ∧ w = w' := by
  obtain ⟨n, rfl⟩ := Int.eq_ofNat_of_zero_le h0
  rw [Int.toNat_natCast]
  exact size_any n (by omega) w

theorem nextErr_a {n : Int} {m g c : Nat} (h : viewErr n m ≠ 0) : nextErr n m g c = 1 := by unfold nextErr; rw [if_pos h]
theorem nextErr_b {n : Int} {m g c : Nat} (h : viewErr n m = 0) (k : 63 < g ∨ 63 < c ∨ g &&& c ≠ 0) : nextErr n m g c = 1 := by unfold nextErr; rw [if_neg (by omega), if_pos k]
theorem nextErr_c {n : Int} {m g c : Nat} (h : viewErr n m = 0) (k : ¬ (63 < g ∨ 63 < c ∨ g &&& c ≠ 0)) (l : n = 16777215) : nextErr n m g c = 8 := by unfold nextErr; rw [if_neg (by omega), if_neg k, if_pos l]
theorem nextErr_d {n : Int} {m g c : Nat} (h : viewErr n m = 0) (k : ¬ (63 < g ∨ 63 < c ∨ g &&& c ≠ 0)) (l : n ≠ 16777215) (q : 2 * pc (m - (m &&& g)) ≤ pc m) : nextErr n m g c = 11 := by
  unfold nextErr; rw [if_neg (by omega), if_neg k, if_neg l, if_pos q]
theorem nextErr_e {n : Int} {m g c : Nat} (h : viewErr n m = 0) (k : ¬ (63 < g ∨ 63 < c ∨ g &&& c ≠ 0)) (l : n ≠ 16777215) (q : ¬ 2 * pc (m - (m &&& g)) ≤ pc m) : nextErr n m g c = 0 := by
  unfold nextErr; rw [if_neg (by omega), if_neg k, if_neg l, if_neg q]
theorem viewErr_0 {n : Int} {m : Nat} (h : viewErr n m = 0) : 0 ≤ n ∧ n ≤ 16777215 ∧ 1 ≤ m ∧ m ≤ 63 := by unfold viewErr at h; split at h <;> omega


set_option maxHeartbeats 1000000 in
theorem nextView_any (n : Int) (m g c : Nat) (h1 : m < 256) (h2 : g < 256) (h3 : c < 256) (w : World) :
    Calls Try.prog 9 #[.agg #[.int .i64 n, .int .u8 m], .int .u8 g, .int .u8 c] w fun e w' =>
      e = .returned (.tuple #[.agg #[.int .i64 (nextNum n m g c), .int .u8 (nextMem n m g c)], .int .i64 (nextErr n m g c)]) ∧ Ext w w' := by
  have hle : m &&& g ≤ m := Nat.and_le_left
  have hst : m - (m &&& g) < 256 := by omega
  have hb1 := u8_and_nat g c h2 h3
  have hb2 := u8_and_nat m g h1 h2
  have hb3 := u8_or_nat (m - (m &&& g)) c hst h3
  rw [show (((m - (m &&& g) : Nat) : Int)) = (m : Int) - ((m &&& g : Nat) : Int) from by omega] at hb3
  have l1 := pc_le m
  have l2 := pc_le (m - (m &&& g))
  rcases viewErr_01 n m with hv | hv
  case' inl => have V := viewErr_0 hv
  all_goals
    have HV := Lib.hid hv
    go_enter Try.func9, Try.ntmps9
    go_wp2_with (go_at_call 7; refine (viewErr_any n m h1 _).mono ?_; rintro e w' ⟨rfl, hx⟩; obtain ⟨g1, rfl⟩ := hx.gr; clear hx)
  any_goals
    refine wp_region_grow (by kernel_rfl) (by kernel_rfl) ?_
    repeat (go_big_quiet_step (first | exact calls_same (size_int _ (by omega) (by omega) _)))
    refine wpQuiet_nil ?_
    rintro _ ⟨g2, rfl⟩
    go_wp2_with fail
  all_goals first
    | (have hE := nextErr_b (g := g) (c := c) HV.out (by omega))
    | (have hE := nextErr_c (g := g) (c := c) HV.out (by omega) (by simpa using ‹(n == 16777215) = true›))
    | (have hE := nextErr_d (g := g) (c := c) HV.out (by omega) (by simpa using ‹(n == 16777215) = false›) (by omega))
    | (have hE := nextErr_e (g := g) (c := c) HV.out (by omega) (by simpa using ‹(n == 16777215) = false›) (by omega))
    | (have hE := nextErr_a (n := n) (m := m) (g := g) (c := c) (by have := HV.out; omega))
  all_goals
    refine bodyPost_ret (v := .tuple #[.agg #[.int .i64 (nextNum n m g c), .int .u8 (nextMem n m g c)], .int .i64 (nextErr n m g c)]) ?_ rfl ⟨rfl, ?_⟩
    · simp [results, Try.results9, go_sem, nextNum_eq, nextMem_eq, hE]
    · repeat (first | exact Ext.refl _ | apply Ext.alloc | apply Ext.drew | (refine Ext.setCell ?_ (by simp) _) | (refine Ext.trans ?_ (Grow.ext _)))
end Go.Proofs.Ytilflhdhcleneaa
