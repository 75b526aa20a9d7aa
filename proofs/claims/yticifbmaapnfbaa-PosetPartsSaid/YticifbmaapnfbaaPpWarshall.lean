/-
  poset.closed: what is reached, by going through all between.
-/
import Derived.Test.YticifbmaapnfbaaPpClosure
namespace Go.Proofs.Yticifbmaapnfbaa
open Enc

inductive Via (l : List Pair) (K : Nat) : Nat → Nat → Prop
  | edge {a b : Nat} : Adj l a b → Via l K a b
  | thru {a b c : Nat} : c < K → Via l K a c → Via l K c b → Via l K a b
theorem Via.step {l : List Pair} {K a b : Nat} (h : Via l (K + 1) a b) : Via l K a b ∨ (Via l K a K ∧ Via l K K b) := by
  induction h with
  | edge h => exact .inl (.edge h)
  | @thru a b c hc _ _ ih1 ih2 =>
    by_cases e : c = K
    · subst e
      refine .inr ⟨?_, ?_⟩
      · rcases ih1 with h | h
        · exact h
        · exact h.1
      · rcases ih2 with h | h
        · exact h
        · exact h.2
    · have hc' : c < K := by omega
      rcases ih1 with h1 | ⟨h1, h1'⟩ <;> rcases ih2 with h2 | ⟨h2, h2'⟩
      · exact .inl (.thru hc' h1 h2)
      · exact .inr ⟨.thru hc' h1 h2, h2'⟩
      · exact .inr ⟨h1, .thru hc' h1' h2⟩
      · exact .inr ⟨h1, h2'⟩
theorem Via.reach {l : List Pair} {K a b : Nat} (h : Via l K a b) : Reach l a b := by
  induction h with
  | edge h => exact .single h
  | thru _ _ _ ih1 ih2 => exact Relation.TransGen.trans ih1 ih2
theorem Reach.via {l : List Pair} {n a b : Nat} (hl : InR n l) (h : Reach l a b) : Via l n a b := by
  induction h with
  | single h => exact .edge h
  | tail _ h ih => exact .thru (by have := hl _ h; simp at this; omega) ih (.edge h)
theorem Reach.lt {l : List Pair} {n a b : Nat} (hl : InR n l) (h : Reach l a b) : a < n ∧ b < n := by
  induction h with
  | single h => have := hl _ h; simp at this; omega
  | tail _ h ih => have := hl _ h; simp at this; omega

/-- A truth of the matrix. -/
def T (V : Vector (Vector Bool 20) 20) (a b : Nat) : Prop := ∃ row, V[a]? = some row ∧ row[b]? = some true
theorem T.set {V : Vector (Vector Bool 20) 20} {a b : Nat} {row : Vector Bool 20} {v : Bool} (hr : V[a]? = some row) (hb : b < 20) (x y : Nat) : T (V.setIfInBounds a (row.setIfInBounds b v)) x y ↔ (x = a ∧ y = b ∧ v = true) ∨ (¬ (x = a ∧ y = b) ∧ T V x y) := by
  have ha : a < 20 := (Vector.getElem?_eq_some_iff.1 hr).1
  unfold T
  by_cases e : a = x
  · subst e
    rw [show (V.setIfInBounds a (row.setIfInBounds b v))[a]? = some (row.setIfInBounds b v) from by simp [ha]]
    constructor
    · rintro ⟨r, h1, h2⟩
      obtain rfl := Option.some.inj h1
      by_cases e2 : b = y
      · subst e2
        left
        refine ⟨rfl, rfl, ?_⟩
        simpa [hb] using h2
      · right
        refine ⟨fun h => e2 h.2.symm, row, hr, ?_⟩
        rwa [Vector.getElem?_setIfInBounds_ne e2] at h2
    · rintro (⟨_, rfl, rfl⟩ | ⟨h1, r, h2, h3⟩)
      · exact ⟨_, rfl, by simp [hb]⟩
      · rw [hr] at h2
        obtain rfl := Option.some.inj h2
        have e2 : b ≠ y := fun h => h1 ⟨rfl, h.symm⟩
        exact ⟨_, rfl, by rw [Vector.getElem?_setIfInBounds_ne e2]; exact h3⟩
  · rw [Vector.getElem?_setIfInBounds_ne e]
    constructor
    · rintro ⟨r, h1, h2⟩
      exact .inr ⟨fun h => e h.1.symm, r, h1, h2⟩
    · rintro (⟨h, _⟩ | ⟨_, h⟩)
      · exact absurd h.symm e
      · exact h
theorem T.iff {V : Vector (Vector Bool 20) 20} {a b : Nat} (ha : a < 20) (hb : b < 20) : T V a b ↔ V[a][b] = true := by
  unfold T
  constructor
  · rintro ⟨row, h1, h2⟩
    rw [Vector.getElem?_eq_getElem ha] at h1
    obtain rfl := Option.some.inj h1
    simpa [hb] using h2
  · intro h
    exact ⟨V[a], Vector.getElem?_eq_getElem ha, by simp [hb, h]⟩
theorem l34 {V : Vector (Vector Bool 20) 20} {k a b : Nat} (hk : k < 20) (ha : a < 20) (hb : b < 20) :
    ∃ row v, V[a]? = some row ∧ poset_closed_B6 k a b V = some (V.setIfInBounds a (row.setIfInBounds b v)) ∧ (v = true ↔ T V a b ∨ (T V a k ∧ T V k b)) := by
  refine ⟨V[a], V[a][b] || (V[a][k] && V[k][b]), Vector.getElem?_eq_getElem ha, ?_, ?_⟩
  · unfold poset_closed_B6
    simp only [vat_lt _ ha, vat_lt _ hk, vat_lt _ hb, Option.bind_some, Let_eq, Int.toNat_natCast]
    cases V[a][b] <;> cases V[a][k] <;> cases V[k][b] <;> rfl
  · rw [T.iff ha hb, T.iff ha hk, T.iff hk hb]
    simp
/-- What holds while the numbers below k have been gone through, and for k the pairs before (a, b). -/
structure WInv (l : List Pair) (n k a b : Nat) (V : Vector (Vector Bool 20) 20) : Prop where
  sound : ∀ x y, T V x y → Reach l x y
  comp : ∀ x y, x < n → y < n → Via l k x y → T V x y
  part : ∀ x y, x < n → y < n → (x < a ∨ (x = a ∧ y < b)) → Via l k x k → Via l k k y → T V x y
theorem warshall_row {l : List Pair} {n k a : Nat} {V : Vector (Vector Bool 20) 20} (hn : n ≤ 20) (hk : k < n) (ha : a < n) (h : WInv l n k a 0 V) : ∃ V', rangeF (poset_closed_B6 k a) n 0 V = some V' ∧ WInv l n k (a + 1) 0 V' := by
  refine Exists.elim (rangeF_inv (body := poset_closed_B6 k a) (fun b V => WInv l n k a b V) n 0 V h ?_) ?_
  · intro b V _ hb hI
    obtain ⟨row, v, hr, e, hv⟩ := l34 (V := V) (k := k) (a := a) (b := b) (by omega) (by omega) (by omega)
    have hs := T.set (v := v) hr (b := b) (by omega)
    have mono : ∀ x y, T V x y → T (V.setIfInBounds a (row.setIfInBounds b v)) x y := fun x y h => by
      rw [hs]
      by_cases e : x = a ∧ y = b
      · exact .inl ⟨e.1, e.2, hv.2 (.inl (by rw [← e.1, ← e.2]; exact h))⟩
      · exact .inr ⟨e, h⟩
    refine ⟨_, e, fun x y h => ?_, fun x y hx hy h => mono x y (hI.comp x y hx hy h), fun x y hx hy h h1 h2 => ?_⟩
    · rcases (hs x y).1 h with ⟨rfl, rfl, hvt⟩ | ⟨_, h⟩
      · rcases hv.1 hvt with h | ⟨h1, h2⟩
        · exact hI.sound _ _ h
        · exact Relation.TransGen.trans (hI.sound _ _ h1) (hI.sound _ _ h2)
      · exact hI.sound x y h
    · by_cases e : x = a ∧ y = b
      · obtain ⟨rfl, rfl⟩ := e
        exact (hs x y).2 (.inl ⟨rfl, rfl, hv.2 (.inr ⟨hI.comp x k hx hk h1, hI.comp k y hk hy h2⟩)⟩)
      · exact mono x y (hI.part x y hx hy (by omega) h1 h2)
  · rintro V' ⟨e, hI⟩
    rw [Nat.zero_add] at hI
    exact ⟨V', e, hI.sound, hI.comp, fun x y hx hy h => hI.part x y hx hy (by omega)⟩
theorem warshall_round {l : List Pair} {p : Poset} {n k : Nat} {V : Vector (Vector Bool 20) 20} (hp : p.N = (n : Int)) (hn : n ≤ 20) (hk : k < n) (h : WInv l n k 0 0 V) : ∃ V', poset_closed_B2 p k V = some V' ∧ WInv l n (k + 1) 0 0 V' := by
  have hup : upTo p.N = some n := by rw [hp]; unfold upTo; rw [if_pos (by omega)]; rfl
  unfold poset_closed_B2
  simp only [hup, Option.bind_some]
  refine Exists.elim (rangeF_inv (body := poset_closed_B4 p k) (fun a V => WInv l n k a 0 V) n 0 V h ?_) ?_
  · intro a V _ ha hI
    obtain ⟨V', e, hI'⟩ := warshall_row hn hk (by omega) hI
    refine ⟨V', ?_, hI'⟩
    unfold poset_closed_B4
    simp only [hup, Option.bind_some, e]
  · rintro V' ⟨e, hI⟩
    rw [Nat.zero_add] at hI
    refine ⟨V', by rw [e]; rfl, hI.sound, fun x y hx hy hv => ?_, fun x y hx hy h => by omega⟩
    rcases hv.step with h | ⟨h1, h2⟩
    · exact hI.comp x y hx hy h
    · exact hI.part x y hx hy (by omega) h1 h2
/-- poset.closed tells what is reached. -/
theorem closed_law {p : Poset} {n : Nat} (hp : p.N = (n : Int)) (hn : n ≤ 20) (hl : InR n p.Pairs) : ∃ V, poset_closed p = some V ∧ ∀ x y, T V x y ↔ Reach p.Pairs x y := by
  have hup : upTo p.N = some n := by rw [hp]; unfold upTo; rw [if_pos (by omega)]; rfl
  unfold poset_closed
  simp only [hup, Option.bind_some]
  obtain ⟨V1, e1, h1⟩ := rangeF_inv (body := poset_closed_B0 p) (fun j V => (∀ x y, T V x y → Adj p.Pairs x y) ∧ ∀ (i : Nat) (x y : Nat), i < j → p.Pairs[i]? = some ⟨(x : Int), (y : Int)⟩ → T V x y) p.Pairs.length 0 (Vector.replicate 20 (Vector.replicate 20 false))
    ⟨fun x y ⟨row, h1, h2⟩ => by
      have hx := (Vector.getElem?_eq_some_iff.1 h1).1
      rw [Vector.getElem?_eq_getElem hx] at h1
      simp at h1
      subst h1
      have hy := (Vector.getElem?_eq_some_iff.1 h2).2
      simp at hy, fun i x y h => by omega⟩ (fun j V _ hj ⟨hI1, hI2⟩ => by
      have hj' : j < p.Pairs.length := by omega
      obtain ⟨q1, q2, q3, q4⟩ := hl p.Pairs[j] (List.getElem_mem hj')
      obtain ⟨a, ha⟩ := Int.eq_ofNat_of_zero_le q1
      obtain ⟨b, hb⟩ := Int.eq_ofNat_of_zero_le q3
      have ha' : a < 20 := by omega
      have hb' : b < 20 := by omega
      have hpj : p.Pairs[j] = (⟨(a : Int), (b : Int)⟩ : Pair) := by
        cases hh : p.Pairs[j] with
        | mk A B => rw [hh] at ha hb; simp only at ha hb; subst ha hb; rfl
      have hs := T.set (V := V) (v := true) (Vector.getElem?_eq_getElem ha') hb'
      refine ⟨V.setIfInBounds a (V[a].setIfInBounds b true), ?_, fun x y h => ?_, fun i x y hi h => ?_⟩
      · unfold poset_closed_B0
        rw [lat_lt hj']
        simp only [Option.bind_some, ha, hb, vat_lt _ ha', vat_lt _ hb', Let_eq, Int.toNat_natCast]
      · rcases (hs x y).1 h with ⟨rfl, rfl, _⟩ | ⟨_, h⟩
        · unfold Adj; rw [← hpj]; exact List.getElem_mem hj'
        · exact hI1 x y h
      · rw [hs]
        by_cases e : x = a ∧ y = b
        · exact .inl ⟨e.1, e.2, rfl⟩
        · refine .inr ⟨e, hI2 i x y ?_ h⟩
          by_cases e2 : i = j
          · subst e2
            rw [List.getElem?_eq_getElem hj', hpj] at h
            simp only [Option.some.injEq, Pair.mk.injEq, Int.natCast_inj] at h
            exact absurd ⟨h.1.symm, h.2.symm⟩ e
          · omega)
  rw [e1]
  simp only [Option.bind_some]
  have h0 : WInv p.Pairs n 0 0 0 V1 := by
    refine ⟨fun x y h => .single (h1.1 x y h), fun x y hx hy h => ?_, fun x y hx hy h => by omega⟩
    cases h with
    | edge h =>
      obtain ⟨j, hj⟩ := List.getElem?_of_mem h
      exact h1.2 j x y (by have := (List.getElem?_eq_some_iff.1 hj).1; omega) hj
    | thru h => omega
  obtain ⟨V2, e2, h2⟩ := rangeF_inv (body := poset_closed_B2 p) (fun k V => WInv p.Pairs n k 0 0 V) n 0 V1 h0 fun k V _ hk hI => warshall_round hp hn (by omega) hI
  rw [Nat.zero_add] at h2
  refine ⟨V2, by rw [e2]; rfl, fun x y => ⟨h2.sound x y, fun h => ?_⟩⟩
  obtain ⟨hx, hy⟩ := h.lt hl
  exact h2.comp x y hx hy (h.via hl)
end Go.Proofs.Yticifbmaapnfbaa
