/-
  The error codes of posets.
-/
import Derived.Test.YticifbmaapnfbaaPpWarshall
namespace Go.Proofs.Yticifbmaapnfbaa
open Enc

theorem look_any {α τ : Type} {l : List α} {bad : α → Bool} {t : Nat → τ} {body : Nat → Unit → Option (Ctl Unit τ)} (h : ∀ (j : Nat) (hj : j < l.length), body j () = bif bad l[j] then some (.ret (t j)) else some (.go ())) :
    (rangeM body l.length 0 () = some (.inl ()) ∧ ∀ p ∈ l, bad p = false) ∨ ∃ m, rangeM body l.length 0 () = some (.inr (t m)) ∧ ∃ p ∈ l, bad p = true := by
  have hl : ∀ j, 0 ≤ j → j < 0 + l.length → body j () = some (.go ()) ∨ ∃ t, body j () = some (.ret t) := fun j _ hj => by
    rw [h j (by omega)]
    cases bad (l[j]'(by omega))
    · exact .inl rfl
    · exact .inr ⟨_, rfl⟩
  rcases rangeM_look l.length 0 hl with ⟨h1, h2⟩ | ⟨m, t', _, hm, _, h4, h5⟩
  · refine .inl ⟨h1, fun p hp => ?_⟩
    obtain ⟨j, hj, rfl⟩ := List.getElem_of_mem hp
    have := h2 j (by omega) (by omega)
    rw [h j hj] at this
    cases hb : bad l[j]
    · rfl
    · rw [hb] at this; simp at this
  · have hm' : m < l.length := by omega
    rw [h m hm'] at h4
    cases hb : bad l[m]
    · rw [hb] at h4; simp at h4
    · rw [hb] at h4
      simp at h4
      subst h4
      exact .inr ⟨m, h5, l[m], List.getElem_mem hm', hb⟩
def badPair (n : Int) (p : Pair) : Bool := decide (p.A < 0) || decide (p.B < 0) || decide (p.A ≥ n) || decide (p.B ≥ n)
theorem badPair_iff {n : Nat} {l : List Pair} : (∀ p ∈ l, badPair n p = false) ↔ InR n l := by
  unfold badPair InR
  constructor
  · intro h p hp
    have := h p hp
    simp at this
    omega
  · intro h p hp
    have := h p hp
    simp
    omega
/-- The code of a list of pairs. -/
def pairsCode (n : Nat) (l : List Pair) (c : Int) : Prop := (c = 2 ∧ 600 < l.length) ∨ (c = 4 ∧ l.length ≤ 600 ∧ ¬ InR n l) ∨ (c = 0 ∧ l.length ≤ 600 ∧ InR n l)
theorem pairsErr_law {n : Nat} {l : List Pair} (hn : n ≤ 40) : ∃ c, partref_PairsErr n n l = some c ∧ pairsCode n l c := by
  unfold partref_PairsErr
  have e1 : decide (min (n : Int) (n : Int) < 0) = false := by simp
  have e2 : decide (max (n : Int) (n : Int) > 40) = false := by simp; omega
  simp only [e1, e2, cond_false, Option.bind_some]
  by_cases h6 : 600 < l.length
  · have e3 : decide ((l.length : Int) > 600) = true := by simp; omega
    rw [e3]
    exact ⟨2, rfl, .inl ⟨rfl, h6⟩⟩
  · have e3 : decide ((l.length : Int) > 600) = false := by simp; omega
    rw [e3, cond_false]
    rcases look_any (l := l) (bad := badPair n) (t := fun _ => (4 : Int)) (body := partref_PairsErr_B0 n n l) (fun j hj => by
      unfold partref_PairsErr_B0
      rw [lat_lt hj]
      simp only [Option.bind_some, or_some]
      rfl) with ⟨h1, h2⟩ | ⟨m, h1, p, hp, hb⟩
    · exact ⟨0, by rw [h1]; rfl, .inr (.inr ⟨rfl, by omega, badPair_iff.1 h2⟩)⟩
    · refine ⟨4, by rw [h1]; rfl, .inr (.inl ⟨rfl, by omega, fun h => ?_⟩)⟩
      have := badPair_iff.2 h p hp
      rw [hb] at this; cases this
theorem pairsCode_one {n : Nat} {l : List Pair} {c d : Int} (h : pairsCode n l c) (k : pairsCode n l d) : c = d := by
  rcases h with ⟨rfl, h⟩ | ⟨rfl, h, h'⟩ | ⟨rfl, h, h'⟩ <;> rcases k with ⟨rfl, k⟩ | ⟨rfl, k, k'⟩ | ⟨rfl, k, k'⟩ <;> first | rfl | omega | exact absurd ‹InR n l› ‹_›
theorem check1_law {n : Nat} {p : Pair} (hn : n ≤ 40) : match_Check_1 p n n = some (badPair n p) := by
  unfold match_Check_1 match_in badPair
  have e : w64 ((n : Int) - 1) = (n : Int) - 1 := w64_id (by omega) (by omega)
  simp only [e, and_some, bind_id, Option.bind_some, or_some]
  congr 1
  rw [Bool.eq_iff_iff]
  simp
  omega
theorem mcheck_law {n : Nat} {l : List Pair} (hn : n ≤ 40) : ∃ c, match_Check n n l = some c ∧ pairsCode n l c := by
  unfold match_Check match_in
  have e1 : decide ((n : Int) ≥ 0) = true := by simp
  have e2 : decide ((n : Int) ≤ 40) = true := by simp; omega
  simp only [e1, e2, cond_true, Option.bind_some, Bool.not_true, cond_false]
  by_cases h6 : 600 < l.length
  · have e3 : decide ((l.length : Int) > 600) = true := by simp; omega
    rw [e3]
    exact ⟨2, rfl, .inl ⟨rfl, h6⟩⟩
  · have e3 : decide ((l.length : Int) > 600) = false := by simp; omega
    rw [e3, cond_false]
    unfold slices_ContainsFunc_api_Pair_api_Pair_Check_1 slices_IndexFunc_api_Pair_api_Pair_Check_1
    rcases look_any (l := l) (bad := badPair n) (t := fun j => (j : Int)) (body := slices_IndexFunc_api_Pair_api_Pair_Check_1_B0 l n n) (fun j hj => by
      unfold slices_IndexFunc_api_Pair_api_Pair_Check_1_B0
      rw [lat_lt hj]
      simp only [Option.bind_some, check1_law hn]) with ⟨h1, h2⟩ | ⟨m, h1, p, hp, hb⟩
    · exact ⟨0, by rw [h1]; rfl, .inr (.inr ⟨rfl, by omega, badPair_iff.1 h2⟩)⟩
    · refine ⟨4, by rw [h1]; simp [andThen_inr], .inr (.inl ⟨rfl, by omega, fun h => ?_⟩)⟩
      have := badPair_iff.2 h p hp
      rw [hb] at this; cases this
/-- The code of a poset. -/
def posetCode (p : Poset) (c : Int) : Prop :=
  ((p.N < 0 ∨ 20 < p.N) ∧ c = 1) ∨ ∃ n : Nat, n ≤ 20 ∧ p.N = (n : Int) ∧ ((c ≠ 0 ∧ pairsCode n p.Pairs c) ∨ (pairsCode n p.Pairs 0 ∧ (((∃ i, Reach p.Pairs i i) ∧ c = 9) ∨ ((¬ ∃ i, Reach p.Pairs i i) ∧ c = 0))))
theorem pairsCode_zero {n : Nat} {l : List Pair} (h : pairsCode n l 0) : l.length ≤ 600 ∧ InR n l := by
  rcases h with ⟨h, _⟩ | ⟨h, _⟩ | ⟨_, h⟩
  · cases h
  · cases h
  · exact h
theorem posetErr_law {p : Poset} {fu : Nat} (hfu : 30 ≤ fu) (hfu2 : fu ≤ 2 ^ 30) : ∃ c, partref_PosetErr fu p = some c ∧ posetCode p c := by
  unfold partref_PosetErr
  rw [or_some, Option.bind_some]
  cases hb : (decide (p.N < 0) || decide (p.N > 20)) with
  | true => exact ⟨1, rfl, .inl ⟨by simpa using hb, rfl⟩⟩
  | false =>
    simp at hb
    obtain ⟨n, hn⟩ := Int.eq_ofNat_of_zero_le hb.1
    have hn20 : n ≤ 20 := by omega
    rw [cond_false, hn]
    obtain ⟨c, e, hc⟩ := pairsErr_law (l := p.Pairs) (n := n) (by omega)
    rw [e, Option.bind_some]
    by_cases h0 : c = 0
    · subst h0
      obtain ⟨hl, hin⟩ := pairsCode_zero hc
      obtain ⟨M, eM, hM, hMr⟩ := closure_law (fu := fu) hin (by omega) (by omega) hfu2
      rw [show ((0 : Int) != 0) = false from rfl, cond_false, eM, Option.bind_some]
      have key : ∀ j, j < n → ∃ row v, M[j]? = some row ∧ row[j]? = some v ∧ (v = true ↔ Reach p.Pairs j j) := fun j hj => by
        have h1 : M[j]? = some (M[j]'(by omega)) := by simp
        obtain ⟨h2, h3⟩ := hMr j _ h1
        have h4 : (M[j]'(by omega))[j]? = some ((M[j]'(by omega))[j]'(by omega)) := by simp
        refine ⟨_, _, h1, h4, ?_⟩
        rw [← h3 j, h4]; simp
      rcases look_any (l := List.range M.length) (bad := fun j => (M[j]?.bind (·[j]?)) == some true) (t := fun _ => (9 : Int)) (body := partref_PosetErr_B0 M) (fun j hj => by
        simp at hj
        obtain ⟨row, v, h1, h2, _⟩ := key j (by omega)
        unfold partref_PosetErr_B0
        rw [lat_nat, h1, Option.bind_some, lat_nat, h2, Option.bind_some]
        simp only [List.getElem_range, h1, Option.bind_some, h2]
        cases v <;> rfl) with ⟨h1, h2⟩ | ⟨m, h1, j, hj, hbj⟩
      · rw [List.length_range] at h1
        refine ⟨0, by rw [h1]; rfl, .inr ⟨n, hn20, hn, .inr ⟨hc, .inr ⟨?_, rfl⟩⟩⟩⟩
        rintro ⟨i, hi⟩
        have hil := (hi.lt hin).1
        obtain ⟨row, v, k1, k2, k3⟩ := key i hil
        have := h2 i (by simp; omega)
        simp only [k1, Option.bind_some, k2, k3.2 hi] at this
        exact absurd this (by simp)
      · rw [List.length_range] at h1
        refine ⟨9, by rw [h1]; rfl, .inr ⟨n, hn20, hn, .inr ⟨hc, .inl ⟨⟨j, ?_⟩, rfl⟩⟩⟩⟩
        simp at hj
        obtain ⟨row, v, k1, k2, k3⟩ := key j (by omega)
        simp only [k1, Option.bind_some, k2] at hbj
        exact k3.1 (by simpa using hbj)
    · rw [show (c != 0) = true from by simpa using h0, cond_true]
      exact ⟨c, rfl, .inr ⟨n, hn20, hn, .inl ⟨h0, hc⟩⟩⟩
theorem posetCheck_law {p : Poset} : ∃ V c, poset_check p = some (V, c) ∧ posetCode p c ∧ (c = 0 → ∀ x y, T V x y ↔ Reach p.Pairs x y) := by
  unfold poset_check
  rw [or_some, Option.bind_some]
  cases hb : (decide (p.N < 0) || decide (p.N > 20)) with
  | true => exact ⟨_, 1, rfl, .inl ⟨by simpa using hb, rfl⟩, fun h => by cases h⟩
  | false =>
    simp at hb
    obtain ⟨n, hn⟩ := Int.eq_ofNat_of_zero_le hb.1
    have hn20 : n ≤ 20 := by omega
    rw [cond_false, hn]
    obtain ⟨c, e, hc⟩ := mcheck_law (l := p.Pairs) (n := n) (by omega)
    rw [e, Option.bind_some]
    by_cases h0 : c = 0
    · subst h0
      obtain ⟨hl, hin⟩ := pairsCode_zero hc
      obtain ⟨V, eV, hV⟩ := closed_law hn hn20 hin
      have hup : upTo (n : Int) = some n := by unfold upTo; rw [if_pos (by omega)]; rfl
      rw [show ((0 : Int) != 0) = false from rfl, cond_false, eV, Option.bind_some, hup, Option.bind_some]
      rcases look_any (l := List.range n) (bad := fun j => decide (∃ h : j < 20, V[j][j] = true)) (t := fun _ => ((((Vector.replicate 20 (Vector.replicate 20 false)) : Vector (Vector Bool 20) 20), (9 : Int)))) (body := poset_check_B0 V) (fun j hj => by
        simp at hj
        have hj20 : j < 20 := by omega
        unfold poset_check_B0
        simp only [vat_lt _ hj20, Option.bind_some, List.getElem_range]
        have : decide (∃ h : j < 20, V[j][j] = true) = V[j][j] := by
          cases h : V[j][j] <;> simp [h, hj20]
        rw [this]) with ⟨h1, h2⟩ | ⟨m, h1, j, hj, hbj⟩
      · rw [List.length_range] at h1
        refine ⟨V, 0, by rw [h1]; rfl, .inr ⟨n, hn20, hn, .inr ⟨hc, .inr ⟨?_, rfl⟩⟩⟩, fun _ => hV⟩
        rintro ⟨i, hi⟩
        have hil := (hi.lt hin).1
        have := h2 i (by simp; omega)
        have hT := (hV i i).2 hi
        rw [T.iff (by omega) (by omega)] at hT
        simp at this
        have := this (by omega)
        rw [hT] at this; cases this
      · rw [List.length_range] at h1
        refine ⟨_, 9, by rw [h1]; rfl, .inr ⟨n, hn20, hn, .inr ⟨hc, .inl ⟨⟨j, ?_⟩, rfl⟩⟩⟩, fun h => by cases h⟩
        simp at hbj
        obtain ⟨hj20, hbj⟩ := hbj
        exact (hV j j).1 ((T.iff hj20 hj20).2 hbj)
    · rw [show (c != 0) = true from by simpa using h0, cond_true]
      exact ⟨_, c, rfl, .inr ⟨n, hn20, hn, .inl ⟨h0, hc⟩⟩, fun h => absurd h h0⟩
theorem posetCode_one {p : Poset} {c d : Int} (h : posetCode p c) (k : posetCode p d) : c = d := by
  rcases h with ⟨h1, rfl⟩ | ⟨n, hn, hN, h⟩ <;> rcases k with ⟨k1, rfl⟩ | ⟨m, hm, kN, k⟩
  · rfl
  · omega
  · omega
  · have : n = m := by omega
    subst this
    rcases h with ⟨h1, h2⟩ | ⟨h1, h2⟩ <;> rcases k with ⟨k1, k2⟩ | ⟨k1, k2⟩
    · exact pairsCode_one h2 k2
    · exact absurd (pairsCode_one h2 k1) h1
    · exact absurd (pairsCode_one k2 h1) k1
    · rcases h2 with ⟨h2, rfl⟩ | ⟨h2, rfl⟩ <;> rcases k2 with ⟨k2, rfl⟩ | ⟨k2, rfl⟩
      · rfl
      · exact absurd h2 k2
      · exact absurd k2 h2
      · rfl
structure PInv (V : Vector (Vector Bool 20) 20) (n a b : Nat) (z : List Pair) : Prop where
  len : z.length ≤ a * n + b
  sound : ∀ q ∈ z, ∃ x y : Nat, q = ⟨(x : Int), (y : Int)⟩ ∧ T V x y
  comp : ∀ x y : Nat, x < n → y < n → (x < a ∨ (x = a ∧ y < b)) → T V x y → (⟨(x : Int), (y : Int)⟩ : Pair) ∈ z
theorem orderPairs_law {V : Vector (Vector Bool 20) 20} {n : Nat} (hn : n ≤ 20) : ∃ z, poset_order_all V (n : Int) = some z ∧ (∀ q ∈ z, ∃ x y : Nat, q = ⟨(x : Int), (y : Int)⟩ ∧ T V x y) ∧ ∀ x y : Nat, x < n → y < n → T V x y → (⟨(x : Int), (y : Int)⟩ : Pair) ∈ z := by
  have hup : upTo (n : Int) = some n := by unfold upTo; rw [if_pos (by omega)]; rfl
  unfold poset_order_all poset_order_pairs_all_1
  simp only [hup, Option.bind_some]
  refine Exists.elim (rangeF_inv (body := poset_order_pairs_all_1_B0 V (n : Int)) (fun a z => PInv V n a 0 z) n 0 [] ⟨by simp, by simp, fun x y _ _ h => by omega⟩ ?_) ?_
  · intro a z _ ha hI
    unfold poset_order_pairs_all_1_B0
    simp only [hup, Option.bind_some]
    refine Exists.elim (rangeF_inv (body := poset_order_pairs_all_1_B2 V a) (fun b z => PInv V n a b z) n 0 z hI ?_) ?_
    · intro b z _ hb hI
      have ha20 : a < 20 := by omega
      have hb20 : b < 20 := by omega
      unfold poset_order_pairs_all_1_B2 poset_order_all_1
      simp only [vat_lt _ ha20, vat_lt _ hb20, Option.bind_some, and_some, Bool.and_true]
      have hlen : z.length ≤ 400 := by
        have h1 := hI.len
        have h2 : a * n ≤ 19 * 20 := Nat.mul_le_mul (by omega) (by omega)
        omega
      cases hv : V[a][b] with
      | false =>
        refine ⟨z, rfl, by have := hI.len; omega, hI.sound, fun x y hx hy h ht => ?_⟩
        by_cases e : x = a ∧ y = b
        · obtain ⟨rfl, rfl⟩ := e
          rw [T.iff ha20 hb20, hv] at ht; cases ht
        · exact hI.comp x y hx hy (by omega) ht
      | true =>
        rw [cond_true, room_ok (by simp; omega), Option.bind_some]
        refine ⟨_, rfl, by have := hI.len; simp; omega, fun q hq => ?_, fun x y hx hy h ht => ?_⟩
        · rcases List.mem_append.1 hq with hq | hq
          · exact hI.sound q hq
          · simp at hq
            exact ⟨a, b, hq, (T.iff ha20 hb20).2 hv⟩
        · by_cases e : x = a ∧ y = b
          · obtain ⟨rfl, rfl⟩ := e
            simp
          · exact List.mem_append_left _ (hI.comp x y hx hy (by omega) ht)
    · rintro z' ⟨e, hI'⟩
      rw [Nat.zero_add] at hI'
      refine ⟨z', by rw [e]; rfl, by have := hI'.len; rw [Nat.succ_mul]; omega, hI'.sound, fun x y hx hy h => hI'.comp x y hx hy (by omega)⟩
  · rintro z ⟨e, hI⟩
    rw [Nat.zero_add] at hI
    exact ⟨z, by rw [e]; rfl, hI.sound, fun x y hx hy => hI.comp x y hx hy (by omega)⟩
end Go.Proofs.Yticifbmaapnfbaa
