/-
  MatchSays: the plain law.
-/
import Derived.Test.YticifbmaapnfbaaPpMatchRounds
namespace Go.Proofs.Yticifbmaapnfbaa
open Enc

theorem min_eq (a b c : Int) : match_in a b c = some (decide (a ≥ b) && decide (a ≤ c)) := by
  unfold match_in
  rw [and_some, Option.bind_some]
def pbad (m n : Int) (p : Pair) : Bool := ((decide (p.A < 0) || decide (p.B < 0)) || decide (p.A ≥ m)) || decide (p.B ≥ n)
theorem codes_law (m n : Int) (l : List Pair) : ∃ c, match_Check m n l = some c ∧ partref_PairsErr m n l = some c ∧ (c = 0 → ∃ i j : Nat, m = (i : Int) ∧ n = (j : Int) ∧ POk i j l) := by
  unfold match_Check partref_PairsErr
  simp only [min_eq, Option.bind_some, or_some]
  have e1 : (decide (min m n < 0) || decide (max m n > 40)) = (!(decide (m ≥ 0) && decide (m ≤ 40)) || !(decide (n ≥ 0) && decide (n ≤ 40))) := by
    rw [Bool.eq_iff_iff]; simp <;> omega
  rw [e1]
  cases hb : (!(decide (m ≥ 0) && decide (m ≤ 40)) || !(decide (n ≥ 0) && decide (n ≤ 40)))
  · have hmn : (0 ≤ m ∧ m ≤ 40) ∧ (0 ≤ n ∧ n ≤ 40) := by simp at hb; omega
    cases hl : decide ((l.length : Int) > 600)
    · rw [eq_slices_ContainsFunc_api_Pair_api_Pair_Check_1 l m n (pbad m n) (fun x _ => by
        unfold match_Check_1
        simp only [min_eq, Option.bind_some, or_some, w64_id (show -9223372036854775808 ≤ m - 1 by omega) (show m - 1 ≤ 9223372036854775807 by omega), w64_id (show -9223372036854775808 ≤ n - 1 by omega) (show n - 1 ≤ 9223372036854775807 by omega)]
        congr 1
        unfold pbad
        rw [Bool.eq_iff_iff]; simp <;> omega)]
      have hloop : rangeM (partref_PairsErr_B0 m n l) l.length 0 () = some (bif l.any (pbad m n) then .inr 4 else .inl ()) := by
        refine Tot.eq ?_
        refine all_loop (e := fun _ x => bif pbad m n x then some 4 else none) (fun j x hx => ?_) (fun h => ?_) (fun j x t hx h _ => ?_)
        · unfold partref_PairsErr_B0
          rw [lat_nat, hx, Option.bind_some, or_some, Option.bind_some, or_some, Option.bind_some, or_some, Option.bind_some]
          show (bif pbad m n x then _ else _) = _
          cases pbad m n x <;> rfl
        · have : l.any (pbad m n) = false := by
            rw [List.any_eq_false]
            intro x hx
            obtain ⟨j, hj⟩ := List.getElem?_of_mem hx
            have := h j x hj
            cases q : pbad m n x
            · simp
            · simp [q] at this
          rw [this]; rfl
        · cases q : pbad m n x
          · simp [q] at h
          · simp [q] at h
            have : l.any (pbad m n) = true := List.any_eq_true.2 ⟨x, List.mem_of_getElem? hx, q⟩
            rw [this, ← h]; rfl
      rw [hloop]
      cases ha : l.any (pbad m n)
      · refine ⟨0, rfl, rfl, fun _ => ?_⟩
        obtain ⟨i, rfl⟩ := int_nat hmn.1.1
        obtain ⟨j, rfl⟩ := int_nat hmn.2.1
        refine ⟨i, j, rfl, rfl, by omega, by omega, by have := of_decide_eq_false hl; omega, fun x hx => ?_⟩
        have := List.any_eq_false.1 ha x hx
        unfold pbad at this
        simp at this
        omega
      · exact ⟨4, rfl, rfl, fun h => by cases h⟩
    · exact ⟨2, rfl, rfl, fun h => by cases h⟩
  · exact ⟨1, rfl, rfl, fun h => by cases h⟩
theorem cover_law {n m fu : Nat} {l : List Pair} {g : Graph} {L M : Nat → Int} (hm : m ≤ 40) (hfu : 100 < fu) (hl : LIs g.left n L) (hc : Coh n m L M (-1)) (hmay : MayIs m n l g.may) :
    ∃ ys xs X Y, rangeF (match_Cover_B0 fu g) m 0 (List.replicate n false, List.replicate m false) = some (ys, xs) ∧ LIs xs m X ∧ LIs ys n Y ∧ (∀ a, a < m → (X a = true ↔ RA n m l M a)) ∧ ∀ b, b < n → (Y b = true ↔ RB n m l M b) := by
  have hcl := reach_closed n m l M
  have key : Tot (rangeF (match_Cover_B0 fu g) m 0 (List.replicate n false, List.replicate m false)) fun z => ∃ X Y, LIs z.2 m X ∧ LIs z.1 n Y ∧ Adds n m l L M (fun _ => false) (fun _ => false) X Y ∧ (∀ a, a < m → M a < 0 → X a = true) ∧ SoundAt n m (RA n m l M) (RB n m l M) X Y := by
    refine Tot.rangeF (fun i z => ∃ X Y, LIs z.2 m X ∧ LIs z.1 n Y ∧ Adds n m l L M (fun _ => false) (fun _ => false) X Y ∧ (∀ a, a < i → M a < 0 → X a = true) ∧ SoundAt n m (RA n m l M) (RB n m l M) X Y) ⟨_, _, LIs.rep, LIs.rep, ⟨fun _ h => h, fun _ h => h, fun _ _ h => .inl h, fun _ _ h => .inl h⟩, fun a ha => by omega, ⟨fun _ _ h => (by cases h), fun _ _ h => (by cases h)⟩⟩ ?_ ?_
    · rintro i ⟨ys, xs⟩ _ hi ⟨X, Y, h1, h2, h3, h4, h5⟩
      simp only at h1 h2
      have hi : i < m := by omega
      unfold match_Cover_B0
      rw [eq_slices_Contains_int_int, Option.bind_some, in_left hl hc hi, Tot.ite_iff]
      refine ⟨fun q => ?_, fun q => ?_⟩
      · have hM : M i < 0 := by simp at q; omega
        obtain ⟨xs', ys', X', Y', p1, p2, p3, p4, p5, p6⟩ := dfs_law hl hc hmay fu i xs ys X Y hi h1 h2 (by have := uns_le X m; omega)
        simp only [p1, Option.bind_some]
        rw [Tot.some_iff]
        refine ⟨X', Y', p2, p3, h3.trans p4, fun a ha q => ?_, p6 _ _ hcl (hcl.root i hi hM) h5⟩
        by_cases e : a = i
        · subst e; exact p5
        · exact p4.mx a (h4 a (by omega) q)
      · have hM : ¬ M i < 0 := by simp at q; omega
        rw [Tot.some_iff]
        refine ⟨X, Y, h1, h2, h3, fun a ha q' => ?_, h5⟩
        by_cases e : a = i
        · subst e; exact absurd q' hM
        · exact h4 a (by omega) q'
    · rintro z ⟨X, Y, h1, h2, h3, h4, h5⟩
      exact ⟨X, Y, h1, h2, h3, fun a ha => h4 a (by omega), h5⟩
  obtain ⟨⟨ys, xs⟩, e, X, Y, h1, h2, h3, h4, h5⟩ := key
  have hC : Closed n m l M (fun a => X a = true) (fun b => Y b = true) := by
    refine ⟨h4, fun a b ha hb hlb hx => ?_, fun a b ha hb hab hy => ?_⟩
    · rcases h3.cx a ha hx with q | q
      · cases q
      · exact q b hb hlb
    · rcases h3.cy b hb hy with q | q
      · cases q
      · exact q a ha ((hc.iff b a hb ha (by omega)).2 hab)
  exact ⟨ys, xs, X, Y, e, h1, h2, fun a ha => ⟨h5.1 a ha, fun q => q _ _ hC⟩, fun b hb => ⟨h5.2 b hb, fun q => q _ _ hC⟩⟩
theorem marks_eq {k : Nat} {xs xs' : List Bool} {X X' : Nat → Bool} {R : Nat → Prop} (h : LIs xs k X) (h' : LIs xs' k X') (e : ∀ a, a < k → (X a = true ↔ R a)) (e' : ∀ a, a < k → (X' a = true ↔ R a)) : xs = xs' := by
  refine h.ext (h'.to fun a ha => ?_)
  rw [Bool.eq_iff_iff, e a ha, e' a ha]
theorem list_loop {k : Nat} {f g : Nat → List Int → Option (List Int)} (hk : k ≤ 100) (h : ∀ i z, i < k → z.length ≤ i → ∃ y, f i z = some y ∧ g i z = some y ∧ y.length ≤ i + 1) : ∃ r, rangeF f k 0 [] = some r ∧ rangeF g k 0 [] = some r := by
  obtain ⟨r, r', e1, e2, e3, _⟩ := rangeF_par (f := f) (g := g) (fun i s t => s = t ∧ s.length ≤ i) k 0 [] [] ⟨rfl, Nat.le_refl _⟩ (by
    rintro i s _ _ hi ⟨rfl, hs⟩
    obtain ⟨y, q1, q2, q3⟩ := h i s (by omega) hs
    exact ⟨y, y, q1, q2, rfl, q3⟩)
  subst e3
  exact ⟨r, e1, e2⟩
theorem lists_eq {k : Nat} (hk : k ≤ 100) {xs : List Bool} (hx : xs.length = k) : (∃ r, rangeF (match_Cover_B2 xs) xs.length 0 [] = some r ∧ rangeF (partref_Cover_B8 xs) k 0 [] = some r) ∧ ∃ r, rangeF (match_Cover_B4 xs) xs.length 0 [] = some r ∧ rangeF (partref_Cover_B10 xs) k 0 [] = some r := by
  rw [hx]
  have hr : ∀ (i : Nat) (z : List Int), i < k → z.length ≤ i → room z [(i : Int)] = some () := fun i z hi hz => by unfold room; rw [if_pos]; simp; omega
  constructor
  · refine list_loop hk fun i z hi hz => ?_
    unfold match_Cover_B2 partref_Cover_B8
    rw [lat_nat, show xs[i]? = some (xs[i]'(by omega)) by simp [hx, hi], Option.bind_some, hr i z hi hz]
    cases !(xs[i]'(by omega))
    · exact ⟨_, rfl, rfl, by omega⟩
    · exact ⟨_, rfl, rfl, by simp; omega⟩
  · refine list_loop hk fun i z hi hz => ?_
    unfold match_Cover_B4 partref_Cover_B10
    rw [lat_nat, show xs[i]? = some (xs[i]'(by omega)) by simp [hx, hi], Option.bind_some, hr i z hi hz]
    cases (xs[i]'(by omega))
    · exact ⟨_, rfl, rfl, by omega⟩
    · exact ⟨_, rfl, rfl, by simp; omega⟩
end Go.Proofs.Yticifbmaapnfbaa
