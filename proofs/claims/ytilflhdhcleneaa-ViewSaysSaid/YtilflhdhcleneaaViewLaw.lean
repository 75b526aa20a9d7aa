/-
  The law ViewSays: its call returns true for every input, in a world that only grew.
-/
import Derived.Test.YtilflhdhcleneaaView3
namespace Go.Proofs.Ytilflhdhcleneaa
open Go.RowKit

theorem shr_bit (m k : Nat) : ((m : Int) / 2 ^ k).tmod 2 = ((m / 2 ^ k % 2 : Nat) : Int) := by
  have e : ((m : Int) / 2 ^ k) = ((m / 2 ^ k : Nat) : Int) := by
    rw [Int.natCast_ediv, Int.natCast_pow]; rfl
  rw [e, Int.tmod_eq_emod_of_nonneg (Int.natCast_nonneg _)]
  omega
def bsum (m : Nat) : Nat → Nat
  | 0 => 0
  | k + 1 => bsum m k + m / 2 ^ k % 2
theorem bsum_le (m k : Nat) : bsum m k ≤ k := by
  induction k with
  | zero => simp [bsum]
  | succ k ih => simp only [bsum]; omega
theorem bsum_succ (m k : Nat) : bsum m (k + 1) = bsum m k + m / 2 ^ k % 2 := rfl
theorem bsum_six (m : Nat) (h : m < 64) : bsum m 6 = pc m := by
  have H : ∀ a : Fin 64, bsum a.val 6 = Lib.onesCount a.val := by decide +kernel
  exact (H ⟨m, h⟩).trans (pc_eq m)
attribute [irreducible] bsum
theorem and_lt64 (a b : Nat) (h : a < 64) : a &&& b < 64 := Nat.lt_of_le_of_lt Nat.and_le_left h

set_option maxRecDepth 100000 in
set_option maxHeartbeats 600000 in
theorem viewSays_b (n1 : Int) (m1 : Nat) (n2 : Int) (m2 g c : Nat) (h1 : m1 < 256) (h2 : m2 < 256) (h3 : g < 256) (h4 : c < 256) (hv : viewErr n1 m1 = 1) (w : World) :
    Calls Try.prog 4 #[.agg #[.int .i64 n1, .int .u8 m1], .agg #[.int .i64 n2, .int .u8 m2], .int .u8 g, .int .u8 c] w fun e w' =>
      e = .returned (.bool true) ∧ Ext w w' := by
  have F := follows_a (n2 := n2) (m2 := m2) hv
  obtain ⟨F1, F2⟩ := F
  have T := first_1 hv
  go_enter Try.func4, Try.ntmps4
  go_wp2_with fail
  refine wp_region_grow (by kernel_rfl) (by kernel_rfl) ?_
  repeat (go_big_quiet_step (first | with_reducible exact calls_grow (viewErr_any n1 m1 h1 _) | with_reducible exact calls_grow (viewErr_any n2 m2 h2 _)))
  refine wpQuiet_nil ?_
  rintro _ ⟨g1, rfl⟩
  go_wp2_with fail
  refine (next_any n1 m1 g c h1 h3 h4 _).mono ?_
  rintro e w' ⟨rfl, hx⟩
  obtain ⟨g2, rfl⟩ := hx.gr
  clear hx
  go_wp2_with fail
  refine (nextView_any n1 m1 g c h1 h3 h4 _).mono ?_
  rintro e w' ⟨rfl, hx⟩
  obtain ⟨g3, rfl⟩ := hx.gr
  clear hx
  have s2 := g2.size
  have s3 := g3.size
  simp at s2 s3
  go_wp2_with fail
  refine (follows_any n1 m1 n2 m2 h1 h2 _).mono ?_
  rintro e w' ⟨rfl, hx⟩
  obtain ⟨g4, rfl⟩ := hx.gr
  clear hx
  go_wp2_with fail
  refine (first_any n1 m1 h1 _).mono ?_
  rintro e w' ⟨rfl, hx⟩
  obtain ⟨g5, rfl⟩ := hx.gr
  clear hx
  go_wp2_with fail
  refine (vcheck_any n1 m1 h1 _).mono ?_
  rintro e w' ⟨rfl, hx⟩
  obtain ⟨g6, rfl⟩ := hx.gr
  clear hx
  go_wp2_with fail
  go_ret
  exact ⟨rfl, by repeat (first | exact Ext.refl _ | apply Ext.alloc | apply Ext.drew | (refine Ext.setCell ?_ (by simp) _) | (refine Ext.trans ?_ (Grow.ext _)))⟩

set_option maxRecDepth 100000 in
set_option maxHeartbeats 600000 in
theorem viewSays_c (n1 : Int) (m1 : Nat) (n2 : Int) (m2 g c : Nat) (h1 : m1 < 256) (h2 : m2 < 256) (h3 : g < 256) (h4 : c < 256) (hv : viewErr n1 m1 = 0) (hw : viewErr n2 m2 = 1) (w : World) :
    Calls Try.prog 4 #[.agg #[.int .i64 n1, .int .u8 m1], .agg #[.int .i64 n2, .int .u8 m2], .int .u8 g, .int .u8 c] w fun e w' =>
      e = .returned (.bool true) ∧ Ext w w' := by
  have F := follows_b hv hw
  obtain ⟨F1, F2⟩ := F
  have T := first_0 hv
  have V := viewErr_0 hv
  obtain ⟨t1, t2, t3⟩ := tz_spec m1 (by omega) (by omega)
  have T2 := Lib.hid t2
  have T3 := Lib.hid t3
  clear t2 t3
  go_enter Try.func4, Try.ntmps4
  go_wp2_with fail
  refine wp_region_grow (by kernel_rfl) (by kernel_rfl) ?_
  repeat (go_big_quiet_step (first | with_reducible exact calls_grow (viewErr_any n1 m1 h1 _) | with_reducible exact calls_grow (viewErr_any n2 m2 h2 _)))
  refine wpQuiet_nil ?_
  rintro _ ⟨g1, rfl⟩
  go_wp2_with fail
  refine (next_any n1 m1 g c h1 h3 h4 _).mono ?_
  rintro e w' ⟨rfl, hx⟩
  obtain ⟨g2, rfl⟩ := hx.gr
  clear hx
  go_wp2_with fail
  refine (nextView_any n1 m1 g c h1 h3 h4 _).mono ?_
  rintro e w' ⟨rfl, hx⟩
  obtain ⟨g3, rfl⟩ := hx.gr
  clear hx
  have s2 := g2.size
  have s3 := g3.size
  simp at s2 s3
  go_wp2_with fail
  refine (follows_any n1 m1 n2 m2 h1 h2 _).mono ?_
  rintro e w' ⟨rfl, hx⟩
  obtain ⟨g4, rfl⟩ := hx.gr
  clear hx
  go_wp2_with fail
  refine (first_any n1 m1 h1 _).mono ?_
  rintro e w' ⟨rfl, hx⟩
  obtain ⟨g5, rfl⟩ := hx.gr
  clear hx
  go_wp2_with fail
  refine (vcheck_any n1 m1 h1 _).mono ?_
  rintro e w' ⟨rfl, hx⟩
  obtain ⟨g6, rfl⟩ := hx.gr
  clear hx
  go_wp2_with fail
  go_loop [19] (fun a => ∃ k : Nat, k ≤ tz m1 ∧ a = .int .i64 k) (fun a => 6 - (intOf a).toNat)
  case atStart => exact ⟨0, by omega, rfl⟩
  case round =>
    obtain ⟨k, hk, rfl⟩ := hrel
    by_cases hlt : k < tz m1
    · have hb : (((m1 : Int) / 2 ^ k).tmod 2 == 0) = true := by rw [shr_bit, T3.out k hlt]; rfl
      go_wp2_with fail
      go_round
      case rel => exact ⟨k + 1, by omega, by go_num⟩
      case measure => simp [intOf]; omega
    · obtain rfl : k = tz m1 := by omega
      have hb : (((m1 : Int) / 2 ^ tz m1).tmod 2 == 0) = false := by rw [shr_bit, T2.out]; rfl
      go_wp2_with fail
      go_ret
      exact ⟨rfl, by repeat (first | exact Ext.refl _ | apply Ext.alloc | apply Ext.drew | (refine Ext.setCell ?_ (by simp) _) | (refine Ext.trans ?_ (Grow.ext _)))⟩

set_option maxRecDepth 100000 in
set_option maxHeartbeats 600000 in
theorem viewSays_d (n1 : Int) (m1 : Nat) (n2 : Int) (m2 g c : Nat) (h1 : m1 < 256) (h2 : m2 < 256) (h3 : g < 256) (h4 : c < 256) (hv : viewErr n1 m1 = 0) (hw : viewErr n2 m2 = 0) (w : World) :
    Calls Try.prog 4 #[.agg #[.int .i64 n1, .int .u8 m1], .agg #[.int .i64 n2, .int .u8 m2], .int .u8 g, .int .u8 c] w fun e w' =>
      e = .returned (.bool true) ∧ Ext w w' := by
  have F := follows_c hv hw
  obtain ⟨F1, F2'⟩ := F
  have F2 := Lib.hid F2'
  clear F2'
  have T := first_0 hv
  have V := viewErr_0 hv
  have V2 := viewErr_0 hw
  have hb0 := u8_and_nat m1 m2 h1 h2
  have hl0 := and_lt64 m1 m2 (by omega)
  obtain ⟨t1, t2, t3⟩ := tz_spec m1 (by omega) (by omega)
  have T2 := Lib.hid t2
  have T3 := Lib.hid t3
  clear t2 t3
  go_enter Try.func4, Try.ntmps4
  go_wp2_with fail
  refine wp_region_grow (by kernel_rfl) (by kernel_rfl) ?_
  repeat (go_big_quiet_step (first | with_reducible exact calls_grow (viewErr_any n1 m1 h1 _) | with_reducible exact calls_grow (viewErr_any n2 m2 h2 _)))
  refine wpQuiet_nil ?_
  rintro _ ⟨g1, rfl⟩
  go_wp2_with fail
  refine (next_any n1 m1 g c h1 h3 h4 _).mono ?_
  rintro e w' ⟨rfl, hx⟩
  obtain ⟨g2, rfl⟩ := hx.gr
  clear hx
  go_wp2_with fail
  refine (nextView_any n1 m1 g c h1 h3 h4 _).mono ?_
  rintro e w' ⟨rfl, hx⟩
  obtain ⟨g3, rfl⟩ := hx.gr
  clear hx
  have s2 := g2.size
  have s3 := g3.size
  simp at s2 s3
  go_wp2_with fail
  refine (follows_any n1 m1 n2 m2 h1 h2 _).mono ?_
  rintro e w' ⟨rfl, hx⟩
  obtain ⟨g4, rfl⟩ := hx.gr
  clear hx
  go_wp2_with fail
  refine (first_any n1 m1 h1 _).mono ?_
  rintro e w' ⟨rfl, hx⟩
  obtain ⟨g5, rfl⟩ := hx.gr
  clear hx
  go_wp2_with fail
  refine (vcheck_any n1 m1 h1 _).mono ?_
  rintro e w' ⟨rfl, hx⟩
  obtain ⟨g6, rfl⟩ := hx.gr
  clear hx
  go_wp2_with fail
  go_loop [19] (fun a => ∃ k : Nat, k ≤ tz m1 ∧ a = .int .i64 k) (fun a => 6 - (intOf a).toNat)
  case atStart => exact ⟨0, by omega, rfl⟩
  case round =>
    obtain ⟨k, hk, rfl⟩ := hrel
    by_cases hlt : k < tz m1
    · have hb : (((m1 : Int) / 2 ^ k).tmod 2 == 0) = true := by rw [shr_bit, T3.out k hlt]; rfl
      go_wp2_with fail
      go_round
      case rel => exact ⟨k + 1, by omega, by go_num⟩
      case measure => simp [intOf]; omega
    · obtain rfl : k = tz m1 := by omega
      have hb : (((m1 : Int) / 2 ^ tz m1).tmod 2 == 0) = false := by rw [shr_bit, T2.out]; rfl
      go_wp2_with fail
      go_loop [20, 21, 108] (fun x y i => ∃ k : Nat, k ≤ 6 ∧ i = .int .i64 k ∧ x = .int .i64 (bsum (m1 &&& m2) k) ∧ y = .int .i64 (bsum m1 k)) (fun _ _ i => 6 - (intOf i).toNat)
      case atStart => exact ⟨0, by omega, rfl, by simp [bsum], by simp [bsum]⟩
      case round =>
        obtain ⟨k, hk, rfl, rfl, rfl⟩ := hrel
        have e1 := shr_bit m1 k
        have e2 := shr_bit (m1 &&& m2) k
        have l1 := bsum_le m1 k
        have l2 := bsum_le (m1 &&& m2) k
        have q1 : m1 / 2 ^ k % 2 < 2 := Nat.mod_lt _ (by omega)
        have q2 : (m1 &&& m2) / 2 ^ k % 2 < 2 := Nat.mod_lt _ (by omega)
        by_cases hlt : k < 6
        · go_wp2_with fail
          go_round
          case rel => exact ⟨k + 1, by omega, by go_num, by rw [bsum_succ]; go_num, by rw [bsum_succ]; go_num⟩
          case measure => simp [intOf]; omega
        · obtain rfl : k = 6 := by omega
          clear e1 e2 q1 q2
          have hF : follows n1 m1 n2 m2 = ((n2 == n1 + 1) && decide (((bsum m1 6 : Nat) : Int) < 2 * ((bsum (m1 &&& m2) 6 : Nat) : Int))) := by
            rw [F2.out, bsum_six m1 (by omega), bsum_six (m1 &&& m2) hl0, Nat.and_comm m2 m1]
            congr 1
            rw [Bool.eq_iff_iff]
            simp
            omega
          by_cases hn : n2 = n1 + 1
          · subst hn
            simp only [beq_self_eq_true, Bool.true_and] at hF
            go_wp2_with fail
            go_ret
            exact ⟨rfl, by repeat (first | exact Ext.refl _ | apply Ext.alloc | apply Ext.drew | (refine Ext.setCell ?_ (by simp) _) | (refine Ext.trans ?_ (Grow.ext _)))⟩
          · have hb : (n2 == n1 + 1) = false := by simpa using hn
            rw [hb, Bool.false_and] at hF
            go_wp2_with fail
            go_ret
            exact ⟨rfl, by repeat (first | exact Ext.refl _ | apply Ext.alloc | apply Ext.drew | (refine Ext.setCell ?_ (by simp) _) | (refine Ext.trans ?_ (Grow.ext _)))⟩

theorem viewSays_any (n1 : Int) (m1 : Nat) (n2 : Int) (m2 g c : Nat) (h1 : m1 < 256) (h2 : m2 < 256) (h3 : g < 256) (h4 : c < 256) (w : World) :
    Calls Try.prog 4 #[.agg #[.int .i64 n1, .int .u8 m1], .agg #[.int .i64 n2, .int .u8 m2], .int .u8 g, .int .u8 c] w fun e w' =>
      e = .returned (.bool true) ∧ Ext w w' := by
  rcases viewErr_01 n1 m1 with hv | hv
  · rcases viewErr_01 n2 m2 with hw | hw
    · exact viewSays_d n1 m1 n2 m2 g c h1 h2 h3 h4 hv hw w
    · exact viewSays_c n1 m1 n2 m2 g c h1 h2 h3 h4 hv hw w
  · exact viewSays_b n1 m1 n2 m2 g c h1 h2 h3 h4 hv w
end Go.Proofs.Ytilflhdhcleneaa
