/-
  The stable sort of the events: blocks that change places, the turn of a range, the merge.
-/
import Derived.Test.YtclmlddmgccfjaaStSort
import Derived.Test.YtclmlddmgccfjaaStAhead
namespace Go.Proofs.Ytclmlddmgccfjaa
open Enc

/-! ### Blocks -/
def Swp {α : Type} (l : List α) (a b n k : Nat) : Option α := if a ≤ k ∧ k < a + n then l[b + (k - a)]? else if b ≤ k ∧ k < b + n then l[a + (k - b)]? else l[k]?
def Rot {α : Type} (l : List α) (a m b k : Nat) : Option α := if a ≤ k ∧ k < a + (b - m) then l[k + (m - a)]? else if a + (b - m) ≤ k ∧ k < b then l[k - (b - m)]? else l[k]?
theorem swapRange_law {a b n fu : Nat} {l : List Int} {c0 : List Int} {c1 : List Event} (hab : a + n ≤ b) (hb : b + n ≤ l.length) (hn : l.length ≤ 2 ^ 40) (hfu : n < fu) :
    Tot (slices_swapRangeCmpFunc_int_Total_1 fu l a b n c0 c1) fun r => r.length = l.length ∧ ∀ k, r[k]? = Swp l a b n k := by
  unfold slices_swapRangeCmpFunc_int_Total_1
  rw [Tot.andThen_iff]
  refine (Tot.whileM (fun z : Int × List Int => ∃ i : Nat, z.1 = (i : Int) ∧ i ≤ n ∧ z.2.length = l.length ∧ ∀ k, z.2[k]? = Swp l a b i k) (fun z => ((n : Int) - z.1).toNat) (Q := fun o => ∃ j r, o = .inl (j, r) ∧ r.length = l.length ∧ ∀ k, r[k]? = Swp l a b n k) ⟨0, rfl, by omega, rfl, fun k => by unfold Swp; rw [if_neg (by omega), if_neg (by omega)]⟩ (by simp only; omega) ?_).mono ?_
  · rintro ⟨z, m⟩ ⟨i, rfl, h1, h2, h3⟩
    simp only at h2 h3
    unfold slices_swapRangeCmpFunc_int_Total_1_B0
    simp only
    rw [Tot.ite_iff]
    refine ⟨fun q => ?_, fun q => ?_⟩
    · have q : i < n := by simpa using q
      have e1 : w64 ((b : Int) + (i : Int)) = ((b + i : Nat) : Int) := by rw [w64_id (by omega) (by omega)]; push_cast; rfl
      have e2 : w64 ((a : Int) + (i : Int)) = ((a + i : Nat) : Int) := by rw [w64_id (by omega) (by omega)]; push_cast; rfl
      have hi : a + i < m.length := by omega
      have hj : b + i < m.length := by omega
      rw [e1, e2]
      refine swap_step (a := 0) (b := m.length) (i := a + i) (j := b + i) (by omega) (by omega) (by omega) fun x y hx hy _ => ?_
      rw [Tot.some_iff, w64_id (by omega) (by omega)]
      refine ⟨⟨i + 1, by push_cast; rfl, by omega, by simpa using h2, fun k => ?_⟩, by simp only; omega⟩
      simp only
      rw [swap_at hx hy]
      rw [h3] at hx hy
      unfold Swp at hx hy ⊢
      rw [if_neg (by omega), if_neg (by omega)] at hx hy
      by_cases k1 : k = b + i
      · subst k1
        rw [if_pos rfl, if_neg (by omega), if_pos (by omega), ← hx]
        congr 1; omega
      · rw [if_neg k1]
        by_cases k2 : k = a + i
        · subst k2
          rw [if_pos rfl, if_pos (by omega), ← hy]
          congr 1; omega
        · rw [if_neg k2, h3]
          unfold Swp
          by_cases p1 : a ≤ k ∧ k < a + i
          · rw [if_pos p1, if_pos (by omega)]
          · rw [if_neg p1]
            by_cases p2 : b ≤ k ∧ k < b + i
            · rw [if_pos p2, if_neg (by omega), if_pos (by omega)]
            · rw [if_neg p2, if_neg (by omega), if_neg (by omega)]
    · have q : i = n := by simp at q; omega
      subst q
      exact Tot.some_iff.2 ⟨_, _, rfl, h2, h3⟩
  · rintro o ⟨j, r, rfl, h1, h2⟩
    exact Tot.some_iff.2 ⟨h1, h2⟩
theorem rot_left {l r : List Int} {m i j : Nat} (hi : i ≤ m) (hij : j < i) (hr : ∀ k, r[k]? = Swp l (m - i) m j k) (k : Nat) : Rot r (m - (i - j)) m (m + j) k = Rot l (m - i) m (m + j) k := by
  simp only [Rot, hr, Swp]
  repeat' split
  all_goals first | omega | (refine congrArg (fun n => l[n]?) ?_; omega)
theorem rot_right {l r : List Int} {m i j : Nat} (hi : i ≤ m) (hij : i < j) (hr : ∀ k, r[k]? = Swp l (m - i) (m + j - i) i k) (k : Nat) : Rot r (m - i) m (m + (j - i)) k = Rot l (m - i) m (m + j) k := by
  simp only [Rot, hr, Swp]
  repeat' split
  all_goals first | omega | (refine congrArg (fun n => l[n]?) ?_; omega)
theorem rot_end {l r : List Int} {m i : Nat} (hi : i ≤ m) (hr : ∀ k, r[k]? = Swp l (m - i) m i k) (k : Nat) : r[k]? = Rot l (m - i) m (m + i) k := by
  simp only [Rot, hr, Swp]
  repeat' split
  all_goals first | omega | (refine congrArg (fun n => l[n]?) ?_; omega)
theorem rotate_law {a m b fu : Nat} {l : List Int} {c0 : List Int} {c1 : List Event} (h1 : a < m) (h2 : m < b) (hb : b ≤ l.length) (hn : l.length ≤ 2 ^ 40) (hfu : 2 * l.length < fu) :
    Tot (slices_rotateCmpFunc_int_Total_1 fu l a m b c0 c1) fun r => r.length = l.length ∧ ∀ k, r[k]? = Rot l a m b k := by
  unfold slices_rotateCmpFunc_int_Total_1
  rw [Tot.andThen_iff, w64_id (x := (m : Int) - a) (by omega) (by omega), w64_id (x := (b : Int) - m) (by omega) (by omega)]
  refine (Tot.whileM (fun z : Int × Int × List Int => ∃ i j : Nat, z.1 = (i : Int) ∧ z.2.1 = (j : Int) ∧ 0 < i ∧ 0 < j ∧ i ≤ m - a ∧ j ≤ b - m ∧ z.2.2.length = l.length ∧ ∀ k, Rot z.2.2 (m - i) m (m + j) k = Rot l a m b k) (fun z => (z.1 + z.2.1).toNat)
    (Q := fun o => ∃ (i : Nat) (r : List Int), o = .inl ((i : Int), (i : Int), r) ∧ 0 < i ∧ i ≤ m - a ∧ i ≤ b - m ∧ r.length = l.length ∧ ∀ k, Rot r (m - i) m (m + i) k = Rot l a m b k) ⟨m - a, b - m, by simp only; omega, by simp only; omega, by omega, by omega, by omega, by omega, rfl, fun k => by simp only; rw [show m - (m - a) = a by omega, show m + (b - m) = b by omega]⟩ (by simp only; omega) ?_).mono ?_
  · rintro ⟨z1, z2, d⟩ ⟨i, j, rfl, rfl, g1, g2, g3, g4, g5, g6⟩
    simp only at g5 g6
    unfold slices_rotateCmpFunc_int_Total_1_B0
    simp only
    have ei : w64 ((m : Int) - (i : Int)) = ((m - i : Nat) : Int) := by rw [w64_id (by omega) (by omega)]; omega
    rw [Tot.ite_iff]
    refine ⟨fun q => ?_, fun q => ?_⟩
    · have q : i ≠ j := by simp at q; omega
      rw [Tot.ite_iff]
      refine ⟨fun c => ?_, fun c => ?_⟩
      · have c : j < i := by simpa using c
        rw [ei, Tot.bind_iff]
        refine (swapRange_law (a := m - i) (b := m) (n := j) (by omega) (by omega) (by omega) (by omega)).mono fun r hr => ?_
        rw [Tot.some_iff, w64_id (by omega) (by omega)]
        exact ⟨⟨i - j, j, by simp only; omega, rfl, by omega, g2, by omega, g4, hr.1.trans g5, fun k => (rot_left (by omega) c hr.2 k).trans (g6 k)⟩, by simp only; omega⟩
      · have c : i < j := by simp at c; omega
        have ej : w64 (w64 ((m : Int) + (j : Int)) - (i : Int)) = ((m + j - i : Nat) : Int) := by rw [w64_id (x := (m : Int) + j) (by omega) (by omega), w64_id (by omega) (by omega)]; omega
        rw [ei, ej, Tot.bind_iff]
        refine (swapRange_law (a := m - i) (b := m + j - i) (n := i) (by omega) (by omega) (by omega) (by omega)).mono fun r hr => ?_
        rw [Tot.some_iff, w64_id (by omega) (by omega)]
        exact ⟨⟨i, j - i, rfl, by simp only; omega, g1, by omega, g3, by omega, hr.1.trans g5, fun k => (rot_right (by omega) c hr.2 k).trans (g6 k)⟩, by simp only; omega⟩
    · have q : i = j := by simp at q; omega
      subst q
      exact Tot.some_iff.2 ⟨i, d, rfl, g1, g3, g4, g5, g6⟩
  · rintro o ⟨i, r, rfl, g1, g3, g4, g5, g6⟩
    show Tot ((slices_swapRangeCmpFunc_int_Total_1 fu _ _ _ _ c0 c1).bind _) _
    have ei : w64 ((m : Int) - (i : Int)) = ((m - i : Nat) : Int) := by rw [w64_id (by omega) (by omega)]; omega
    rw [ei, Tot.bind_iff]
    refine (swapRange_law (a := m - i) (b := m) (n := i) (by omega) (by omega) (by omega) (by omega)).mono fun s hs => ?_
    exact Tot.some_iff.2 ⟨hs.1.trans g5, fun k => (rot_end (by omega) hs.2 k).trans (g6 k)⟩
end Go.Proofs.Ytclmlddmgccfjaa
