/-
  LatSays: the plain law.
-/
import Derived.Test.YticifbmaapnfbaaLsSets
namespace Go.Proofs.Yticifbmaapnfbaa
open Enc

def Sub (x y : BitVec 16) : Prop := x ||| y = y
theorem sub_bits {x y : BitVec 16} : Sub x y ↔ ∀ k, x.getLsbD k = true → y.getLsbD k = true := by
  unfold Sub
  constructor
  · intro h k hk
    rw [← h, BitVec.getLsbD_or, hk]; rfl
  · intro h
    apply BitVec.eq_of_getLsbD_eq
    intro k _
    rw [BitVec.getLsbD_or]
    have := h k
    cases hx : x.getLsbD k <;> cases hy : y.getLsbD k <;> simp_all
theorem sub_le {x y : BitVec 16} (h : Sub x y) : x.toNat ≤ y.toNat := by
  rw [← h, BitVec.toNat_or]; exact Nat.left_le_or
theorem sub_refl (x : BitVec 16) : Sub x x := sub_bits.2 fun _ h => h
theorem sub_trans {x y z : BitVec 16} (h : Sub x y) (k : Sub y z) : Sub x z := sub_bits.2 fun i hi => sub_bits.1 k i (sub_bits.1 h i hi)
theorem sub_anti {x y : BitVec 16} (h : Sub x y) (k : Sub y x) : x = y := by
  apply BitVec.eq_of_toNat_eq
  have := sub_le h; have := sub_le k; omega
theorem sub_and {x y z : BitVec 16} (h : Sub x y) (k : Sub x z) : Sub x (y &&& z) := sub_bits.2 fun i hi => by rw [BitVec.getLsbD_and, sub_bits.1 h i hi, sub_bits.1 k i hi]; rfl
theorem and_sub1 {x y : BitVec 16} : Sub (x &&& y) x := sub_bits.2 fun i hi => by rw [BitVec.getLsbD_and] at hi; exact (Bool.and_eq_true_iff.1 hi).1
theorem and_sub2 {x y : BitVec 16} : Sub (x &&& y) y := sub_bits.2 fun i hi => by rw [BitVec.getLsbD_and] at hi; exact (Bool.and_eq_true_iff.1 hi).2
theorem or_sub {x y z : BitVec 16} (h : Sub x z) (k : Sub y z) : Sub (x ||| y) z := sub_bits.2 fun i hi => by
  rw [BitVec.getLsbD_or] at hi
  rcases Bool.or_eq_true_iff.1 hi with hi | hi
  · exact sub_bits.1 h i hi
  · exact sub_bits.1 k i hi
theorem sub_or1 {x y : BitVec 16} : Sub x (x ||| y) := sub_bits.2 fun i hi => by rw [BitVec.getLsbD_or, hi]; rfl
theorem sub_or2 {x y : BitVec 16} : Sub y (x ||| y) := sub_bits.2 fun i hi => by rw [BitVec.getLsbD_or, hi]; simp
theorem sub_zero (x : BitVec 16) : Sub 0 x := sub_bits.2 fun i hi => by simp at hi
instance (x y : BitVec 16) : Decidable (Sub x y) := inferInstanceAs (Decidable (x ||| y = y))
theorem sub_beq {x y : BitVec 16} : ((x ||| y) == y) = decide (Sub x y) := by rw [Bool.eq_iff_iff, beq_iff_eq, decide_eq_true_eq]; rfl
theorem sub_beq' {x y : BitVec 16} : ((x ||| y) == x) = decide (Sub y x) := by
  rw [Bool.eq_iff_iff, beq_iff_eq, decide_eq_true_eq]; unfold Sub; rw [BitVec.or_comm]
theorem within_eq (x y : BitVec 16) : lat_within x y = some (decide (Sub x y)) := by
  unfold lat_within
  rw [u_beq]
  congr 1
  rw [Bool.eq_iff_iff, beq_iff_eq, decide_eq_true_eq, sub_bits]
  constructor
  · intro h k hk
    have : (x &&& ~~~y).getLsbD k = false := by rw [h]; simp
    rw [BitVec.getLsbD_and, hk, Bool.true_and, BitVec.getLsbD_not] at this
    have hk16 : k < 16 := BitVec.lt_of_getLsbD hk
    simpa [hk16] using this
  · intro h
    apply BitVec.eq_of_getLsbD_eq
    intro k hk
    rw [BitVec.getLsbD_and, BitVec.getLsbD_not]
    have := h k
    cases hx : x.getLsbD k <;> simp_all
theorem rangeF_sim {σ τ : Type} {f : Nat → σ → Option σ} {g : Nat → τ → Option τ} (R : Nat → σ → τ → Prop) : ∀ (k i : Nat) (s : σ) (t : τ), R i s t → (∀ j s t, i ≤ j → j < i + k → R j s t → ∃ s' t', f j s = some s' ∧ g j t = some t' ∧ R (j + 1) s' t') →
    ∃ s' t', rangeF f k i s = some s' ∧ rangeF g k i t = some t' ∧ R (i + k) s' t'
  | 0, i, s, t, h, _ => ⟨s, t, rfl, rfl, h⟩
  | k + 1, i, s, t, h, hb => by
    obtain ⟨s1, t1, h1, h2, h3⟩ := hb i s t (by omega) (by omega) h
    obtain ⟨s2, t2, h4, h5, h6⟩ := rangeF_sim R k (i + 1) s1 t1 h3 fun j s t a b => hb j s t (by omega) (by omega)
    refine ⟨s2, t2, ?_, ?_, by rwa [show i + (k + 1) = i + 1 + k by omega]⟩
    · unfold rangeF; rw [h1]; exact h4
    · unfold rangeF; rw [h2]; exact h5
def ult (x y : BitVec 16) : Prop := x.toNat < y.toNat
theorem ne_lt {x y : BitVec 16} (h : Sub x y) : (x != y) = decide ((x.toNat : Int) < (y.toNat : Int)) := by
  have h1 := sub_le h
  rw [Bool.eq_iff_iff, bne_iff_ne, decide_eq_true_eq, ne_eq, ← BitVec.toNat_inj]; omega
theorem firm_step {a : List (BitVec 16)} {x : BitVec 16} {i : Nat} (hi : i < a.length) (z : BitVec 16) : partref_Firm_B2 a x i z = lat_Firm_B2 a x i z ∧ ∃ z', lat_Firm_B2 a x i z = some z' ∧ (Sub z x → Sub z' x) := by
  unfold partref_Firm_B2 lat_Firm_B2
  rw [lat_xa hi, Option.bind_some, Option.bind_some, u_beq, u_bne, sub_beq, within_eq]
  simp only [cond_some, Option.bind_some, Bool.cond_false_right]
  by_cases hs : Sub (xa a i) x
  · rw [decide_eq_true hs, ← ne_lt hs, Bool.and_true, Bool.true_and]
    refine ⟨rfl, _, rfl, fun h => ?_⟩
    cases (xa a i != x) with
    | true => exact or_sub h hs
    | false => exact h
  · rw [decide_eq_false hs, Bool.and_false, Bool.false_and]
    exact ⟨rfl, z, rfl, id⟩
theorem firm_law {a : List (BitVec 16)} (h : SetsOk a) (hc : lat_Check a = some 0) : ∃ l, lat_Firm a = some (l, 0) ∧ partref_Firm a = some l ∧ l.length ≤ 300 ∧ l.Pairwise ult := by
  have h1 := h.n1
  have h2 := h.n2
  have key : rangeF (partref_Firm_B0 a) a.length 0 ([] : List (BitVec 16)) = rangeF (lat_Firm_B0 a) a.length 0 ([] : List (BitVec 16)) ∧ ∃ l, rangeF (lat_Firm_B0 a) a.length 0 ([] : List (BitVec 16)) = some l ∧ (l.length ≤ 0 + a.length ∧ l.Pairwise ult ∧ ∀ x ∈ l, ∀ j, 0 + a.length ≤ j → j < a.length → x.toNat < (xa a j).toNat) := by
    refine rangeF_two (fun i l => l.length ≤ i ∧ l.Pairwise ult ∧ ∀ x ∈ l, ∀ j, i ≤ j → j < a.length → x.toNat < (xa a j).toNat) a.length 0 [] ⟨Nat.le_refl _, List.Pairwise.nil, fun x hx => (by cases hx)⟩ ?_
    rintro i l _ hi ⟨q1, q2, q3⟩
    have hi' : i < a.length := by omega
    unfold partref_Firm_B0 lat_Firm_B0
    rw [lat_xa hi', Option.bind_some, Option.bind_some]
    obtain ⟨e, y, hy, hsub⟩ := rangeF_two (f := partref_Firm_B2 a (xa a i)) (g := lat_Firm_B2 a (xa a i)) (fun _ z => Sub z (xa a i)) a.length 0 (0 : BitVec 16) (sub_zero _) (fun j z _ hj hz => by
      obtain ⟨e1, z', e2, e3⟩ := firm_step (a := a) (x := xa a i) (i := j) (by omega) z
      exact ⟨e1, z', e2, e3 hz⟩)
    rw [e, hy, Option.bind_some, Option.bind_some, u_bne, ne_lt hsub]
    refine ⟨rfl, ?_⟩
    cases decide ((y.toNat : Int) < ((xa a i).toNat : Int)) with
    | true =>
      refine ⟨l ++ [xa a i], by rw [cond_true, room_ok (by simp; omega)]; rfl, by simp; omega, ?_, ?_⟩
      · rw [List.pairwise_append]
        exact ⟨q2, List.pairwise_singleton _ _, fun x hx y hy => by rw [List.mem_singleton] at hy; subst hy; exact q3 x hx i (Nat.le_refl _) hi'⟩
      · intro x hx j hj hj2
        rcases List.mem_append.1 hx with hx | hx
        · exact q3 x hx j (by omega) hj2
        · rw [List.mem_singleton] at hx; subst hx; exact h.up i j (by omega) hj2
    | false => exact ⟨l, rfl, by omega, q2, fun x hx j hj => q3 x hx j (by omega)⟩
  obtain ⟨e, l, hl, q1, q2, _⟩ := key
  refine ⟨l, ?_, ?_, by omega, q2⟩
  · unfold lat_Firm
    rw [hc, Option.bind_some, show ((0 : Int) != 0) = false from rfl, cond_false, hl]; rfl
  · unfold partref_Firm
    rw [e, hl]; rfl
def pr (i j : Nat) : Pair := { Pair.zero with A := (i : Int), B := (j : Int) }
theorem back_law {a l : List (BitVec 16)} (hf : lat_Firm a = some (l, 0)) (hlen : l.length ≤ 300) (hp : l.Pairwise ult) :
    ∃ ps, lat_Back a = some ((⟨(l.length : Int), ps⟩ : Poset), 0) ∧ rangeF (partlaw_LatSays_B0 l) l.length 0 ([] : List Pair) = some ps := by
  have hne : ∀ i j, i < l.length → j < l.length → i ≠ j → (xa l i != xa l j) = true := by
    intro i j hi hj hij
    have hpw := List.pairwise_iff_getElem.1 hp
    have e : ∀ k (hk : k < l.length), xa l k = l[k] := fun k hk => by unfold xa; simp [hk]
    rw [bne_iff_ne, ne_eq, ← BitVec.toNat_inj, e i hi, e j hj]
    rcases Nat.lt_or_gt_of_ne hij with h | h
    · have : l[i].toNat < l[j].toNat := hpw i j hi hj h
      omega
    · have : l[j].toNat < l[i].toNat := hpw j i hj hi h
      omega
  have hbody : ∀ i, i < l.length → ∀ j, j < l.length → ∀ (P : Poset) (ps : List Pair), ps.length ≤ 2 ^ 30 → ∃ ps', lat_Back_B2 (l, 0) i (xa l i) j (P, ps) = some (⟨P.N, ps'⟩, ps') ∧ partlaw_LatSays_B2 l i (xa l i) j ps = some ps' ∧ ps'.length ≤ ps.length + 1 := by
    intro i hi j hj P ps hps
    unfold lat_Back_B2 partlaw_LatSays_B2
    simp only
    rw [lat_xa hj, Option.bind_some, Option.bind_some, within_eq, u_beq, u_bne, sub_beq]
    simp only [cond_some, Option.bind_some, Bool.cond_false_right]
    have e : (((i : Int) != (j : Int)) && decide (Sub (xa l i) (xa l j))) = (decide (Sub (xa l i) (xa l j)) && (xa l i != xa l j)) := by
      by_cases k : i = j
      · subst k
        simp
      · rw [hne i j hi hj k]
        have : ((i : Int) != (j : Int)) = true := by simp; omega
        rw [this, Bool.true_and, Bool.and_true]
    rw [e]
    cases (decide (Sub (xa l i) (xa l j)) && (xa l i != xa l j)) with
    | true =>
      rw [cond_true, cond_true, room_ok (by simp; omega)]
      exact ⟨ps ++ [pr i j], rfl, rfl, by simp⟩
    | false => exact ⟨ps, rfl, rfl, by omega⟩
  have hinner : ∀ i, i < l.length → ∀ (P : Poset) (ps : List Pair), ps.length ≤ 1000000 → ∃ (P' : Poset) (ps' : List Pair), rangeF (lat_Back_B2 (l, 0) i (xa l i)) l.length 0 (P, ps) = some (P', ps') ∧ rangeF (partlaw_LatSays_B2 l i (xa l i)) l.length 0 ps = some ps' ∧ P'.N = P.N ∧ ps'.length ≤ ps.length + l.length := by
    intro i hi P ps hps
    obtain ⟨s', t', e1, e2, e3, e4, e5⟩ := rangeF_sim (f := lat_Back_B2 (l, 0) i (xa l i)) (g := partlaw_LatSays_B2 l i (xa l i)) (fun j s t => s.2 = t ∧ s.1.N = P.N ∧ t.length ≤ ps.length + j) l.length 0 (P, ps) ps ⟨rfl, rfl, by omega⟩ (by
      rintro j ⟨P1, p1⟩ t _ hj ⟨r1, r2, r3⟩
      simp only at r1 r2 r3
      subst r1
      obtain ⟨ps', b1, b2, b3⟩ := hbody i hi j (by omega) P1 p1 (by omega)
      exact ⟨_, _, b1, b2, rfl, r2, by omega⟩)
    obtain ⟨P', p'⟩ := s'
    simp only at e3 e4
    subst e3
    exact ⟨P', p', e1, e2, e4, by omega⟩
  obtain ⟨s', t', e1, e2, e3, e4⟩ := rangeF_sim (f := lat_Back_B0 (l, 0)) (g := partlaw_LatSays_B0 l) (fun i s t => s = (⟨(l.length : Int), t⟩ : Poset) ∧ t.length ≤ 300 * i) l.length 0 (⟨(l.length : Int), []⟩ : Poset) [] ⟨rfl, by simp⟩ (by
    rintro i _ t _ hi ⟨rfl, r2⟩
    have hi' : i < l.length := by omega
    unfold lat_Back_B0 partlaw_LatSays_B0
    obtain ⟨P', ps', b1, b2, b3, b4⟩ := hinner i hi' (⟨(l.length : Int), t⟩ : Poset) t (by omega)
    simp only
    rw [lat_xa hi', Option.bind_some, Option.bind_some, b1, b2]
    refine ⟨(⟨P'.N, ps'⟩ : Poset), ps', rfl, rfl, ?_, by omega⟩
    rw [b3])
  refine ⟨t', ?_, e2⟩
  unfold lat_Back
  rw [hf, Option.bind_some]
  simp only [show ((0 : Int) != 0) = false from rfl, cond_false]
  have : ({ Poset.zero with N := (l.length : Int), Pairs := ([] : List Pair) } : Poset) = (⟨(l.length : Int), []⟩ : Poset) := rfl
  rw [this, e1, e3]
  rfl
theorem latsays_law (a : List (BitVec 16)) (x y : Int) (_ : Rng.ok a) (_ : Rng.ok x) (_ : Rng.ok y) : ∃ fu, partlaw_LatSays fu a x y = some true := by
  refine ⟨400, ?_⟩
  obtain ⟨c, c1, c2, hc⟩ := check_law a (Nat.le_refl 400)
  unfold partlaw_LatSays
  rw [c2, Option.bind_some]
  by_cases h0 : c = 0
  · subst h0
    have h := hc rfl
    have h1 := h.n1
    have h2 := h.n2
    obtain ⟨l, f1, f2, f3, f4⟩ := firm_law h c1
    obtain ⟨ps, b1, b2⟩ := back_law f1 f3 f4
    rw [f1, Option.bind_some, b1, Option.bind_some]
    by_cases hr : x < 0 ∨ x ≥ (a.length : Int) ∨ y < 0 ∨ y ≥ (a.length : Int)
    · have hb : lat_Both a x y = some ((0 : BitVec 16), (0 : BitVec 16), 1) := by
        unfold lat_Both
        rw [c1, Option.bind_some]
        simp only [cond_some, Option.bind_some, Bool.cond_true_left, show ((0 : Int) != 0) = false from rfl, cond_false]
        have : (decide (x < 0) || decide (x ≥ (a.length : Int)) || decide (y < 0) || decide (y ≥ (a.length : Int))) = true := by simp; omega
        rw [this, cond_true]
      have hm : (decide (min x y < 0) || decide (max x y ≥ (a.length : Int))) = true := by simp <;> omega
      rw [hb, Option.bind_some, c1, Option.bind_some, f2]
      simp only [Option.bind_some, b2, eq_slices_Equal_uint16_uint16, eq_slices_Equal_api_Pair_api_Pair, cond_some, Bool.cond_true_left, hm]
      simp
    · have hb : ∃ u v, lat a x = some u ∧ lat a y = some v ∧ lat_Both a x y = some (u ||| v, u &&& v, 0) := by
        obtain ⟨i, rfl⟩ := int_nat (x := x) (by omega)
        obtain ⟨j, rfl⟩ := int_nat (x := y) (by omega)
        have hi : i < a.length := by omega
        have hj : j < a.length := by omega
        refine ⟨xa a i, xa a j, lat_xa hi, lat_xa hj, ?_⟩
        unfold lat_Both
        rw [c1, Option.bind_some]
        simp only [cond_some, Option.bind_some, Bool.cond_true_left, show ((0 : Int) != 0) = false from rfl, cond_false]
        have : (decide ((i : Int) < 0) || decide ((i : Int) ≥ (a.length : Int)) || decide ((j : Int) < 0) || decide ((j : Int) ≥ (a.length : Int))) = false := by simp; omega
        rw [this, cond_false, lat_xa hi, lat_xa hj]
        rfl
      obtain ⟨u, v, u1, v1, hb⟩ := hb
      have hm : (decide (min x y < 0) || decide (max x y ≥ (a.length : Int))) = false := by simp <;> omega
      rw [hb, Option.bind_some, c1, Option.bind_some, f2]
      simp only [Option.bind_some, b2, eq_slices_Equal_uint16_uint16, eq_slices_Equal_api_Pair_api_Pair, cond_some, Bool.cond_true_left, hm, u1, v1]
      simp
  · have h0' : (c != 0) = true := by simpa using h0
    have e1 : lat_Firm a = some (([] : List (BitVec 16)), c) := by unfold lat_Firm; rw [c1, Option.bind_some, h0', cond_true]
    have e2 : lat_Back a = some (({ Poset.zero with Pairs := ([] : List Pair) } : Poset), c) := by unfold lat_Back; rw [e1, Option.bind_some]; simp only [h0', cond_true]
    have e3 : lat_Both a x y = some ((0 : BitVec 16), (0 : BitVec 16), c) := by unfold lat_Both; rw [c1, Option.bind_some, h0', cond_true]
    rw [e1, e2, e3, c1]
    simp [h0', Poset.zero]
end Go.Proofs.Yticifbmaapnfbaa
