/-
  MatSays, in plain words: on all inputs the law's spec comes to true.
-/
import Derived.Test.YtilflhdhcleneaaMaSp
import Derived.Test.YtilflhdhcleneaaGoN
namespace Go.Proofs.Ytilflhdhcleneaa
open Enc
theorem mat_in_eq (a b c : Int) : mat_in a b c = some (decide (b ≤ a) && decide (a ≤ c)) := by
  unfold mat_in
  simp only [and_some, Option.bind_some]
theorem vat_me {m : Matrix} (h0 : 0 ≤ m.Me) (h6 : m.Me < 6) : vat m.Rows m.Me = some (m.Rows[m.Me.toNat]'(by omega)) := by
  exact vat_int _ h0 (by omega)
theorem ref_cell (m : Matrix) (i j : Nat) (hi : i < 6) (hj : j < 6) (h0 : 0 ≤ m.Me) (h6 : m.Me < 6) : partref_MatrixErr_L15 m i j () =
    some (if m.Rows[i][j] < 0 ∨ m.Rows[i][j] > 16777215 then .ret (.ret 1) else if (((i : Int) ≥ m.N ∨ (j : Int) ≥ m.N) ∧ m.Rows[i][j] ≠ 0) ∨ m.Rows[i][j] > (m.Rows[m.Me.toNat]'(by omega))[j] then .ret (.ret 4) else .go ()) := by
  unfold partref_MatrixErr_L15
  simp only [vat_lt _ hi, vat_lt _ hj, vat_me h0 h6, Option.bind_some, or_some]
  grind
theorem mat_cell (m : Matrix) (i j : Nat) (hi : i < 6) (hj : j < 6) (h0 : 0 ≤ m.Me) (h6 : m.Me < 6) : mat_Check_L20 m i m.Rows[i] j () =
    some (if m.Rows[i][j] < 0 ∨ m.Rows[i][j] > 16777215 then .ret (.ret 1) else if (((i : Int) ≥ m.N ∨ (j : Int) ≥ m.N) ∧ m.Rows[i][j] ≠ 0) ∨ m.Rows[i][j] > (m.Rows[m.Me.toNat]'(by omega))[j] then .ret (.ret 4) else .go ()) := by
  unfold mat_Check_L20
  simp only [vat_lt _ hj, vat_me h0 h6, mat_in_eq, Option.bind_some, or_some]
  grind
theorem mat_row (m : Matrix) (i : Nat) (hi : i < 6) (h0 : 0 ≤ m.Me) (h6 : m.Me < 6) : mat_Check_L14 m i () = partref_MatrixErr_L14 m i () := by
  unfold mat_Check_L14 partref_MatrixErr_L14
  rw [vat_lt _ hi, Option.bind_some]
  rw [rangeM_congr 6 0 () fun j _ _ h => (mat_cell m i j hi (by omega) h0 h6).trans (ref_cell m i j hi (by omega) h0 h6).symm]
theorem mat_check (m : Matrix) : mat_Check m = partref_MatrixErr m := by
  unfold mat_Check partref_MatrixErr
  simp only [mat_in_eq, Option.bind_some, or_some]
  by_cases h : 1 ≤ m.N ∧ m.N ≤ 6
  · rw [w64_id (by omega) (by omega)]
    by_cases h2 : 0 ≤ m.Me ∧ m.Me < m.N
    · rw [rangeM_congr 6 0 () fun j _ _ hj => mat_row m j (by omega) h2.1 (by omega)]
      generalize andThen _ _ = z
      grind
    · generalize andThen _ _ = z
      generalize andThen _ _ = z2
      grind
  · generalize andThen _ _ = z
    generalize andThen _ _ = z2
    grind
structure MatOk (m : Matrix) : Prop where
  n : 1 ≤ m.N ∧ m.N ≤ 6
  me : 0 ≤ m.Me ∧ m.Me < m.N
  max : ∀ (i j : Nat) (hi : i < 6) (hj : j < 6), 0 ≤ m.Rows[i][j] ∧ m.Rows[i][j] ≤ 16777215
theorem mat_err (m : Matrix) : (partref_MatrixErr m = some 0 ∧ MatOk m) ∨ (∃ e, partref_MatrixErr m = some e ∧ e ≠ 0) := by
  unfold partref_MatrixErr
  simp only [Option.bind_some, or_some]
  by_cases hb : (decide (m.N < 1) || (decide (m.N > 6) || (decide (m.Me < 0) || decide (m.Me ≥ m.N)))) = true
  · right; exact ⟨1, by rw [hb]; rfl, by omega⟩
  · have hb' : (decide (m.N < 1) || (decide (m.N > 6) || (decide (m.Me < 0) || decide (m.Me ≥ m.N)))) = false := by simpa using hb
    rw [hb']
    simp only [Bool.or_eq_false_iff, decide_eq_false_iff_not] at hb'
    have inner : ∀ i : Nat, i < 6 → partref_MatrixErr_L14 m i () = some (.go ()) ∧ (∀ (j : Nat) (hi : i < 6) (hj : j < 6), 0 ≤ m.Rows[i][j] ∧ m.Rows[i][j] ≤ 16777215) ∨ ∃ t : Int, partref_MatrixErr_L14 m i () = some (.ret t) ∧ t ≠ 0 := by
      intro i hi
      have hc := fun j (hj : j < 6) => ref_cell m i j hi hj (by omega) (by omega)
      unfold partref_MatrixErr_L14
      rcases rangeM_look (body := partref_MatrixErr_L15 m i) 6 0 (fun j _ h => by
        rw [hc j (by omega)]; split
        · exact .inr ⟨_, rfl⟩
        · split
          · exact .inr ⟨_, rfl⟩
          · exact .inl rfl) with ⟨h1, h2⟩ | ⟨k, e, h1, h2, h3, h4, h5⟩
      · left
        rw [h1]
        refine ⟨rfl, fun j _ hj => ?_⟩
        have := h2 j (by omega) (by omega)
        rw [hc j hj] at this
        split at this
        · cases this
        · omega
      · right
        rw [h5]
        rw [hc k (by omega)] at h4
        split at h4
        · cases h4; exact ⟨1, rfl, by omega⟩
        · split at h4
          · cases h4; exact ⟨4, rfl, by omega⟩
          · cases h4
    rcases rangeM_look (body := partref_MatrixErr_L14 m) 6 0 (fun j _ h => (inner j (by omega)).imp And.left fun ⟨e, h, _⟩ => ⟨e, h⟩) with ⟨h1, h2⟩ | ⟨k, e, h1, h2, h3, h4, h5⟩
    · left
      rw [h1]
      refine ⟨rfl, ⟨by omega, by omega⟩, ⟨by omega, by omega⟩, fun i j hi hj => ?_⟩
      rcases inner i hi with h | ⟨e, h, _⟩
      · exact h.2 j hi hj
      · rw [h2 i (by omega) (by omega)] at h; cases h
    · right
      rw [h5]
      rcases inner k (by omega) with h | ⟨e', h, h6⟩
      · rw [h.1] at h4; cases h4
      · rw [h] at h4; cases h4
        exact ⟨e, rfl, h6⟩
def freshM (n me : Int) : Matrix := ({ Matrix.zero with N := n, Me := me } : Matrix)
theorem bad_no {N Me : Int} (h : 1 ≤ N ∧ N ≤ 6 ∧ 0 ≤ Me ∧ Me < N) : (decide (N < 1) || (decide (N > 6) || (decide (Me < 0) || decide (Me ≥ N)))) = false := by grind
theorem bad_yes {N Me : Int} (h : ¬ (1 ≤ N ∧ N ≤ 6 ∧ 0 ≤ Me ∧ Me < N)) : (decide (N < 1) || (decide (N > 6) || (decide (Me < 0) || decide (Me ≥ N)))) = true := by grind
theorem fresh_m (n me : Int) : partref_MatrixErr (freshM n me) = some (if 1 ≤ n ∧ n ≤ 6 ∧ 0 ≤ me ∧ me < n then 0 else 1) := by
  unfold partref_MatrixErr
  simp only [Option.bind_some, or_some]
  by_cases h : 1 ≤ n ∧ n ≤ 6 ∧ 0 ≤ me ∧ me < n
  · rw [if_pos h]
    have hb : (decide ((freshM n me).N < 1) || (decide ((freshM n me).N > 6) || (decide ((freshM n me).Me < 0) || decide ((freshM n me).Me ≥ (freshM n me).N)))) = false := bad_no h
    rw [hb]
    rw [rangeM_all]
    · rfl
    · intro i _ hi
      unfold partref_MatrixErr_L14
      rw [rangeM_all]
      · rfl
      · intro j _ hj
        rw [ref_cell _ i j (by omega) (by omega) (by simp [freshM]; omega) (by simp [freshM]; omega)]
        simp [freshM, Matrix.zero]
  · rw [if_neg h]
    have hb : (decide ((freshM n me).N < 1) || (decide ((freshM n me).N > 6) || (decide ((freshM n me).Me < 0) || decide ((freshM n me).Me ≥ (freshM n me).N)))) = true := bad_yes h
    rw [hb]; rfl
theorem new_m (n me : Int) : mat_New n me = some (if 1 ≤ n ∧ n ≤ 6 ∧ 0 ≤ me ∧ me < n then (freshM n me, 0) else (Matrix.zero, 1)) := by
  unfold mat_New
  rw [show ({ Matrix.zero with N := n, Me := me } : Matrix) = freshM n me from rfl, mat_check, fresh_m]
  by_cases h : 1 ≤ n ∧ n ≤ 6 ∧ 0 ≤ me ∧ me < n
  · simp only [if_pos h]; rfl
  · simp only [if_neg h]; rfl
theorem vmin (a b : Vector Int 6) : vect_Min a b = some (Vector.zipWith min a b) := by
  unfold vect_Min
  obtain ⟨s, h1, h2⟩ := rangeF_inv (body := vect_Min_L7 b) (fun i z => ∀ (j : Nat) (hj : j < 6), z[j] = if j < i then min a[j] b[j] else a[j]) 6 0 a (fun j hj => by simp) (fun i z _ hi hI => by
    refine ⟨z.setIfInBounds i (min a[i] b[i]), ?_, fun j hj => ?_⟩
    · unfold vect_Min_L7
      have h0 : z[i] = a[i] := by have := hI i (by omega); simpa using this
      simp only [vat_lt _ (show i < 6 by omega), Option.bind_some, Let_eq, Int.toNat_natCast, h0]
    · rw [Vector.getElem_setIfInBounds, hI j hj]
      grind)
  rw [h1]
  show some s = _
  congr 1
  apply Vector.ext
  intro j hj
  rw [h2 j hj, if_pos (by omega), Vector.getElem_zipWith]
theorem vmax (a b : Vector Int 6) : vect_Max a b = some (Vector.zipWith max a b) := by
  unfold vect_Max
  obtain ⟨s, h1, h2⟩ := rangeF_inv (body := vect_Max_L7 b) (fun i z => ∀ (j : Nat) (hj : j < 6), z[j] = if j < i then max a[j] b[j] else a[j]) 6 0 a (fun j hj => by simp) (fun i z _ hi hI => by
    refine ⟨z.setIfInBounds i (max a[i] b[i]), ?_, fun j hj => ?_⟩
    · unfold vect_Max_L7
      have h0 : z[i] = a[i] := by have := hI i (by omega); simpa using this
      simp only [vat_lt _ (show i < 6 by omega), Option.bind_some, Let_eq, Int.toNat_natCast, h0]
    · rw [Vector.getElem_setIfInBounds, hI j hj]
      grind)
  rw [h1]
  show some s = _
  congr 1
  apply Vector.ext
  intro j hj
  rw [h2 j hj, if_pos (by omega), Vector.getElem_zipWith]
/-- The least of the first k rows. -/
def low (m : Matrix) : Nat → Vector Int 6
  | 0 => m.Rows[0]
  | k + 1 => Vector.zipWith min (low m k) (m.Rows[k]?.getD m.Rows[0])
theorem low_succ (m : Matrix) {k : Nat} (hk : k < 6) : low m (k + 1) = Vector.zipWith min (low m k) m.Rows[k] := by
  show Vector.zipWith min (low m k) (m.Rows[k]?.getD m.Rows[0]) = _
  rw [Vector.getElem?_eq_getElem hk]; rfl
theorem firm_loop (m : Matrix) (n : Nat) (hn : n ≤ 6) : rangeF (mat_Firm_L13 m) n 0 m.Rows[0] = some (low m n) := by
  obtain ⟨s, h1, h2⟩ := rangeF_inv (body := mat_Firm_L13 m) (fun i z => z = low m i) n 0 m.Rows[0] rfl (fun i z _ hi hI => by
    refine ⟨low m (i + 1), ?_, rfl⟩
    unfold mat_Firm_L13
    rw [vat_lt _ (show i < 6 by omega), Option.bind_some, vmin, hI, low_succ m (show i < 6 by omega)]; rfl)
  rw [h1, h2]; simp
theorem ref_low (m : Matrix) (n : Nat) (hn : n ≤ 6) (i : Nat) (hi : i < 6) : rangeF (partref_FirmRow_L15 m i) n 0 m.Rows[0][i] = some (low m n)[i] := by
  obtain ⟨s, h1, h2⟩ := rangeF_inv (body := partref_FirmRow_L15 m i) (fun k z => z = (low m k)[i]) n 0 m.Rows[0][i] rfl (fun k z _ hk hI => by
    refine ⟨(low m (k + 1))[i], ?_, rfl⟩
    unfold partref_FirmRow_L15
    simp only [vat_lt _ (show k < 6 by omega), vat_lt _ hi, Option.bind_some, hI]
    rw [low_succ m (show k < 6 by omega), Vector.getElem_zipWith])
  rw [h1, h2]; simp
theorem firm_row (m : Matrix) (ho : MatOk m) : partref_FirmRow m = some (low m m.N.toNat) := by
  have hn := ho.n
  unfold partref_FirmRow
  obtain ⟨s, h1, h2⟩ := rangeF_inv (body := partref_FirmRow_L7 m) (fun i z => ∀ (j : Nat) (hj : j < 6), j < i → z[j] = (low m m.N.toNat)[j]) 6 0 (Vector.replicate 6 (0 : Int)) (fun j hj h => by omega) (fun i z _ hi hI => by
    refine ⟨z.setIfInBounds i (low m m.N.toNat)[i], ?_, fun j hj hji => ?_⟩
    · unfold partref_FirmRow_L7
      have h00 : vat m.Rows (0 : Int) = some m.Rows[0] := vat_lt m.Rows (show 0 < 6 by omega)
      simp only [h00, vat_lt _ (show i < 6 by omega), Option.bind_some, upTo_ok (show m.N ≤ 2 ^ 62 by omega), ref_low m m.N.toNat (by omega) i (by omega), Let_eq, Int.toNat_natCast]
    · rw [Vector.getElem_setIfInBounds]
      split
      · subst_vars; rfl
      · exact hI j hj (by omega))
  rw [h1]
  show some s = _
  congr 1
  apply Vector.ext
  intro j hj
  exact h2 j hj (by omega)
theorem mat_firm (m : Matrix) (ho : MatOk m) (he : partref_MatrixErr m = some 0) : mat_Firm m = some (low m m.N.toNat, 0) := by
  have hn := ho.n
  unfold mat_Firm
  have h00 : vat m.Rows (0 : Int) = some m.Rows[0] := vat_lt m.Rows (show 0 < 6 by omega)
  rw [mat_check, he]
  simp only [Option.bind_some, h00, upTo_ok (show m.N ≤ 2 ^ 62 by omega), firm_loop m m.N.toNat (by omega)]
  rfl
theorem mat_ext {a b : Matrix} (h1 : a.N = b.N) (h2 : a.Me = b.Me) (h3 : ∀ (i j : Nat) (hi : i < 6) (hj : j < 6), a.Rows[i][j] = b.Rows[i][j]) : a = b := by
  cases a; cases b
  simp only [Matrix.mk.injEq] at *
  refine ⟨h1, h2, ?_⟩
  apply Vector.ext
  intro i hi
  apply Vector.ext
  intro j hj
  exact h3 i j hi hj
theorem get2 (v : Vector (Vector Int 6) 6) (k : Nat) (r : Vector Int 6) (a b : Nat) (ha : a < 6) (hb : b < 6) : (v.setIfInBounds k r)[a][b] = if k = a then r[b] else v[a][b] := by
  by_cases e : k = a
  · subst e; simp
  · simp [e]
theorem get1 (r : Vector Int 6) (c : Nat) (x : Int) (b : Nat) (hb : b < 6) : (r.setIfInBounds c x)[b] = if c = b then x else r[b] := by
  rw [Vector.getElem_setIfInBounds]
/-- All rows met. -/
def both (m o : Matrix) : Matrix := { m with Rows := Vector.zipWith (Vector.zipWith max) m.Rows o.Rows }
theorem both_get (m o : Matrix) {i j : Nat} (hi : i < 6) (hj : j < 6) : (both m o).Rows[i][j] = max m.Rows[i][j] o.Rows[i][j] := by simp [both]
theorem mat_loop (m o : Matrix) : rangeF (mat_Meet_L25 o) 6 0 m = some (both m o) := by
  obtain ⟨s, h1, h2, h3, h4⟩ := rangeF_inv (body := mat_Meet_L25 o) (fun k z => z.N = m.N ∧ z.Me = m.Me ∧ ∀ (i : Nat) (hi : i < 6), z.Rows[i] = if i < k then (both m o).Rows[i] else m.Rows[i]) 6 0 m ⟨rfl, rfl, fun i hi => by simp⟩ (fun k z _ hk ⟨hI1, hI2, hI⟩ => by
    refine ⟨{ z with Rows := z.Rows.setIfInBounds k (both m o).Rows[k] }, ?_, hI1, hI2, fun i hi => ?_⟩
    · unfold mat_Meet_L25
      have h0 : z.Rows[k] = m.Rows[k] := by have := hI k (by omega); simpa using this
      simp only [vat_lt _ (show k < 6 by omega), Option.bind_some, Let_eq, Int.toNat_natCast, h0, vmax]
      simp [both]
    · simp only [Vector.getElem_setIfInBounds]
      by_cases e : k = i
      · subst e; simp
      · rw [if_neg e, hI i hi]
        by_cases e2 : i < k
        · rw [if_pos e2, if_pos (by omega)]
        · rw [if_neg e2, if_neg (by omega)])
  rw [h1]
  congr 1
  refine mat_ext h2 h3 fun i j hi hj => ?_
  rw [h4 i hi, if_pos (by omega)]
theorem ref_loop (m o : Matrix) : rangeF (partref_Meet_L7 o) 6 0 m = some (both m o) := by
  obtain ⟨s, h1, h2, h3, h4⟩ := rangeF_inv (body := partref_Meet_L7 o) (fun k z => z.N = m.N ∧ z.Me = m.Me ∧ ∀ (a b : Nat) (ha : a < 6) (hb : b < 6), z.Rows[a][b] = if a < k then (both m o).Rows[a][b] else m.Rows[a][b]) 6 0 m ⟨rfl, rfl, fun i j hi hj => by simp⟩ (fun k z _ hk ⟨hI1, hI2, hI⟩ => by
    obtain ⟨t, g1, g2, g3, g4⟩ := rangeF_inv (body := partref_Meet_L9 o k) (fun c y => y.N = m.N ∧ y.Me = m.Me ∧ ∀ (a b : Nat) (ha : a < 6) (hb : b < 6), y.Rows[a][b] = if a < k ∨ (a = k ∧ b < c) then (both m o).Rows[a][b] else m.Rows[a][b]) 6 0 z
      ⟨hI1, hI2, fun a b ha hb => by rw [hI a b ha hb]; simp⟩ (fun c y _ hc ⟨hJ1, hJ2, hJ⟩ => by
        refine ⟨{ y with Rows := y.Rows.setIfInBounds k (y.Rows[k].setIfInBounds c (both m o).Rows[k][c]) }, ?_, hJ1, hJ2, fun a b ha hb => ?_⟩
        · unfold partref_Meet_L9
          have h0 : y.Rows[k][c] = m.Rows[k][c] := by have := hJ k c (by omega) (by omega); simpa using this
          simp only [vat_lt _ (show k < 6 by omega), vat_lt _ (show c < 6 by omega), Option.bind_some, Let_eq, Int.toNat_natCast, h0, both_get]
        · show (y.Rows.setIfInBounds k (y.Rows[k].setIfInBounds c (both m o).Rows[k][c]))[a][b] = _
          rw [get2, get1]
          by_cases e : k = a
          · subst e
            rw [if_pos rfl]
            by_cases e2 : c = b
            · subst e2; rw [if_pos rfl, if_pos (.inr ⟨rfl, by omega⟩)]
            · rw [if_neg e2, hJ k b ha hb]
              split <;> split <;> first | rfl | omega
          · rw [if_neg e, hJ a b ha hb]
            have : (a < k ∨ a = k ∧ b < c) ↔ (a < k ∨ a = k ∧ b < c + 1) := by omega
            simp only [this])
    refine ⟨t, by unfold partref_Meet_L7; rw [g1]; rfl, g2, g3, fun a b ha hb => ?_⟩
    rw [g4 a b ha hb]
    by_cases e : a < k + 1
    · rw [if_pos (by omega), if_pos e]
    · rw [if_neg (by omega), if_neg e])
  rw [h1]
  congr 1
  refine mat_ext h2 h3 fun i j hi hj => ?_
  rw [h4 i j hi hj, if_pos (by omega)]
def metRow (y o : Matrix) (a b : Nat) (ha : a < 6) (hb : b < 6) : Matrix := { y with Rows := y.Rows.setIfInBounds a (Vector.zipWith max y.Rows[a] o.Rows[b]) }
theorem ref_last (y o : Matrix) (hy : 0 ≤ y.Me ∧ y.Me < 6) (ho : 0 ≤ o.Me ∧ o.Me < 6) : rangeF (partref_Meet_L31 o) 6 0 y = some (metRow y o y.Me.toNat o.Me.toNat (by omega) (by omega)) := by
  have hv : ∀ z : Matrix, z.Me = y.Me → vat z.Rows z.Me = some (z.Rows[y.Me.toNat]'(by omega)) := fun z hz => by rw [hz]; exact vat_int _ hy.1 (by omega)
  have hw : vat o.Rows o.Me = some (o.Rows[o.Me.toNat]'(by omega)) := vat_int _ ho.1 (by omega)
  obtain ⟨s, h1, h2, h3, h4⟩ := rangeF_inv (body := partref_Meet_L31 o) (fun k z => z.N = y.N ∧ z.Me = y.Me ∧ ∀ (a b : Nat) (ha : a < 6) (hb : b < 6), z.Rows[a][b] = if a = y.Me.toNat ∧ b < k then max y.Rows[a][b] (o.Rows[o.Me.toNat]'(by omega))[b] else y.Rows[a][b]) 6 0 y ⟨rfl, rfl, fun i j hi hj => by simp⟩ (fun k z _ hk ⟨hI1, hI2, hI⟩ => by
    refine ⟨{ z with Rows := z.Rows.setIfInBounds y.Me.toNat ((z.Rows[y.Me.toNat]'(by omega)).setIfInBounds k (max ((y.Rows[y.Me.toNat]'(by omega))[k]'(by omega)) ((o.Rows[o.Me.toNat]'(by omega))[k]'(by omega)))) }, ?_, hI1, hI2, fun a b ha hb => ?_⟩
    · unfold partref_Meet_L31
      have h0 : (z.Rows[y.Me.toNat]'(by omega))[k]'(by omega) = (y.Rows[y.Me.toNat]'(by omega))[k]'(by omega) := by have := hI y.Me.toNat k (by omega) (by omega); simpa using this
      have hv' := hv z hI2
      rw [hI2] at hv'
      simp only [hI2, hv', hw, vat_lt _ (show k < 6 by omega), Option.bind_some, Let_eq, Int.toNat_natCast, h0]
    · show (z.Rows.setIfInBounds y.Me.toNat ((z.Rows[y.Me.toNat]'(by omega)).setIfInBounds k (max ((y.Rows[y.Me.toNat]'(by omega))[k]'(by omega)) ((o.Rows[o.Me.toNat]'(by omega))[k]'(by omega)))))[a][b] = _
      rw [get2, get1]
      by_cases e : y.Me.toNat = a
      · subst e
        rw [if_pos rfl]
        by_cases e2 : k = b
        · subst e2; rw [if_pos rfl, if_pos ⟨rfl, by omega⟩]
        · rw [if_neg e2, hI _ b ha hb]
          split <;> split <;> first | rfl | omega
      · rw [if_neg e, hI a b ha hb, if_neg (by omega), if_neg (by omega)])
  rw [h1]
  congr 1
  refine mat_ext h2 h3 fun i j hi hj => ?_
  rw [h4 i j hi hj]
  show _ = (y.Rows.setIfInBounds y.Me.toNat (Vector.zipWith max (y.Rows[y.Me.toNat]'(by omega)) (o.Rows[o.Me.toNat]'(by omega))))[i][j]
  rw [get2]
  by_cases e : y.Me.toNat = i
  · subst e; rw [if_pos ⟨rfl, by omega⟩, if_pos rfl, Vector.getElem_zipWith]
  · rw [if_neg (by omega), if_neg e]
theorem ref_meet (m o : Matrix) (hm : 0 ≤ m.Me ∧ m.Me < 6) (ho : 0 ≤ o.Me ∧ o.Me < 6) : partref_Meet m o = some (metRow (both m o) o m.Me.toNat o.Me.toNat (by omega) (by omega)) := by
  unfold partref_Meet
  rw [ref_loop, Option.bind_some, ref_last (both m o) o hm ho]
  rfl
theorem mat_meet (m o : Matrix) (h1 : partref_MatrixErr m = some 0) (h2 : partref_MatrixErr o = some 0) (hm : 0 ≤ m.Me ∧ m.Me < 6) (ho : 0 ≤ o.Me ∧ o.Me < 6) :
    mat_Meet m o = some (if m.N ≠ o.N ∨ m.Me = o.Me then (Matrix.zero, 1) else (metRow (both m o) o m.Me.toNat o.Me.toNat (by omega) (by omega), 0)) := by
  unfold mat_Meet
  have hloop : rangeM (mat_Meet_L9 m o) ([m, o] : List Matrix).length 0 () = some (.inl ()) := by
    simp [rangeM, mat_Meet_L9, lat, mat_check, h1, h2]
  rw [hloop, andThen_inl]
  have hv : vat (both m o).Rows (both m o).Me = some ((both m o).Rows[m.Me.toNat]'(by omega)) := vat_int _ hm.1 (by show m.Me.toNat < 6; omega)
  have hw : vat o.Rows o.Me = some (o.Rows[o.Me.toNat]'(by omega)) := vat_int _ ho.1 (by omega)
  by_cases h : m.N ≠ o.N ∨ m.Me = o.Me
  · rw [if_pos h, or_some, Option.bind_some]
    have : (m.N != o.N || m.Me == o.Me) = true := by simpa using h
    rw [this]; rfl
  · rw [if_neg h, or_some, Option.bind_some]
    have : (m.N != o.N || m.Me == o.Me) = false := by simp; omega
    rw [this, cond_false, mat_loop]
    simp only [Option.bind_some, hv, hw, vmax, Let_eq]
    rfl
theorem mat_law (m o : Matrix) (n me : Int) : partlaw_MatSays m o n me = some true := by
  unfold partlaw_MatSays
  have hf : ({ Matrix.zero with N := n, Me := me } : Matrix) = freshM n me := rfl
  rw [hf, new_m, fresh_m, mat_check]
  rcases mat_err m with ⟨he, hm⟩ | ⟨e, he, h0⟩
  · have hme := hm.me
    have hn := hm.n
    have hv : vat m.Rows m.Me = some (m.Rows[m.Me.toNat]'(by omega)) := vat_int _ hme.1 (by omega)
    obtain ⟨x, hx⟩ : ∃ x, vat (m.Rows[m.Me.toNat]'(by omega)) m.Me = some x := ⟨_, vat_int _ hme.1 (show m.Me.toNat < 6 by omega)⟩
    have hd : mat_Did m = some (bif x == 16777215 then (Matrix.zero, 8) else (({ m with Rows := m.Rows.setIfInBounds m.Me.toNat ((m.Rows[m.Me.toNat]'(by omega)).setIfInBounds m.Me.toNat (w64 (x + 1))) } : Matrix), 0)) := by
      unfold mat_Did
      rw [mat_check, he]
      simp only [Option.bind_some, hv, hx, Let_eq]
      cases x == 16777215 <;> rfl
    have hfi := mat_firm m hm he
    have hfr := firm_row m hm
    rcases mat_err o with ⟨he2, ho⟩ | ⟨e2, he2, h2⟩
    · have hoe := ho.me
      have hon := ho.n
      have hmt := mat_meet m o he he2 ⟨hme.1, by omega⟩ ⟨hoe.1, by omega⟩
      have hrm := ref_meet m o ⟨hme.1, by omega⟩ ⟨hoe.1, by omega⟩
      rw [he, hd, hmt, hfi, he2]
      by_cases hq : m.N ≠ o.N ∨ m.Me = o.Me
      · have hq2 : (m.N != o.N || m.Me == o.Me) = true := by simpa using hq
        by_cases h : 1 ≤ n ∧ n ≤ 6 ∧ 0 ≤ me ∧ me < n
        · have h1 : decide (n > 0) = true := by simp; omega
          have h2 : decide (n < 7) = true := by simp; omega
          have h3 : decide (me ≥ 0) = true := by simp; omega
          have h4 : decide (me < n) = true := by simp; omega
          simp only [if_pos h, if_pos hq, Option.bind_some, hfr, hv, hx, h1, h2, h3, h4, Let_eq, or_some, hq2]
          cases x == 16777215 <;> simp [andThen]
        · simp only [if_neg h, if_pos hq, Option.bind_some, hfr, hv, hx, Let_eq, or_some, hq2]
          by_cases h1 : n > 0 <;> by_cases h2 : n < 7 <;> by_cases h3 : me ≥ 0 <;> by_cases h4 : me < n <;> first | (exfalso; omega) | (cases x == 16777215 <;> simp [h1, h2, h3, h4, andThen])
      · have hq2 : (m.N != o.N || m.Me == o.Me) = false := by simp; omega
        by_cases h : 1 ≤ n ∧ n ≤ 6 ∧ 0 ≤ me ∧ me < n
        · have h1 : decide (n > 0) = true := by simp; omega
          have h2 : decide (n < 7) = true := by simp; omega
          have h3 : decide (me ≥ 0) = true := by simp; omega
          have h4 : decide (me < n) = true := by simp; omega
          simp only [if_pos h, if_neg hq, Option.bind_some, hfr, hv, hx, h1, h2, h3, h4, Let_eq, or_some, hq2, hrm]
          cases x == 16777215 <;> simp [andThen]
        · simp only [if_neg h, if_neg hq, Option.bind_some, hfr, hv, hx, Let_eq, or_some, hq2, hrm]
          by_cases h1 : n > 0 <;> by_cases h2 : n < 7 <;> by_cases h3 : me ≥ 0 <;> by_cases h4 : me < n <;> first | (exfalso; omega) | (cases x == 16777215 <;> simp [h1, h2, h3, h4, andThen])
    · have hne : (e2 != 0) = true := by simpa using h2
      have hmt : mat_Meet m o = some (Matrix.zero, e2) := by
        unfold mat_Meet
        simp [rangeM, mat_Meet_L9, lat, mat_check, he, he2, hne, andThen]
      rw [he, hd, hmt, hfi, he2]
      by_cases h : 1 ≤ n ∧ n ≤ 6 ∧ 0 ≤ me ∧ me < n
      · have h1 : decide (n > 0) = true := by simp; omega
        have h2 : decide (n < 7) = true := by simp; omega
        have h3 : decide (me ≥ 0) = true := by simp; omega
        have h4 : decide (me < n) = true := by simp; omega
        simp only [if_pos h, Option.bind_some, hfr, hv, hx, h1, h2, h3, h4, Let_eq, hne]
        cases x == 16777215 <;> simp [andThen]
      · simp only [if_neg h, Option.bind_some, hfr, hv, hx, Let_eq, hne]
        by_cases h1 : n > 0 <;> by_cases h2 : n < 7 <;> by_cases h3 : me ≥ 0 <;> by_cases h4 : me < n <;> first | (exfalso; omega) | (cases x == 16777215 <;> simp [h1, h2, h3, h4, andThen])
  · have hne : (e != 0) = true := by simpa using h0
    have hd : mat_Did m = some (Matrix.zero, e) := by unfold mat_Did; rw [mat_check, he]; simp [hne]
    have hmt : mat_Meet m o = some (Matrix.zero, e) := by
      unfold mat_Meet
      simp [rangeM, mat_Meet_L9, lat, mat_check, he, hne, andThen]
    have hfi : mat_Firm m = some (Vector.replicate 6 0, e) := by unfold mat_Firm; rw [mat_check, he]; simp [hne]
    obtain ⟨e2, he2⟩ : ∃ e2, partref_MatrixErr o = some e2 := by
      rcases mat_err o with ⟨h, _⟩ | ⟨e, h, _⟩ <;> exact ⟨_, h⟩
    rw [he, hd, hmt, hfi, he2]
    by_cases h : 1 ≤ n ∧ n ≤ 6 ∧ 0 ≤ me ∧ me < n
    · simp only [if_pos h, Option.bind_some]
      have h1 : decide (n > 0) = true := by simp; omega
      have h2 : decide (n < 7) = true := by simp; omega
      have h3 : decide (me ≥ 0) = true := by simp; omega
      have h4 : decide (me < n) = true := by simp; omega
      simp [h1, h2, h3, h4, hne]
    · simp only [if_neg h, Option.bind_some]
      by_cases h1 : n > 0 <;> by_cases h2 : n < 7 <;> by_cases h3 : me ≥ 0 <;> by_cases h4 : me < n <;> first | (exfalso; omega) | simp [h1, h2, h3, h4, hne]
end Go.Proofs.Ytilflhdhcleneaa
