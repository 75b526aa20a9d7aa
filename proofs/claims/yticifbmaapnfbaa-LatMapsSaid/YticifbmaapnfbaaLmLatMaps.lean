/-
  LatMaps: the plain law.
-/
import Derived.Test.YticifbmaapnfbaaLmSets
namespace Go.Proofs.Yticifbmaapnfbaa
open Enc

def Sub (x y : BitVec 16) : Prop := x ||| y = y
theorem sub_bits {x y : BitVec 16} : Sub x y ↔ ∀ k, x.getLsbD k = true → y.getLsbD k = true := by
  unfold Sub
  constructor
  · intro h k hk
    rw [← h, BitVec.getLsbD_or, hk]; rfl
  · intro h
    apply BitVec.eq_of_getLsbD_eq
    intro k _
    rw [BitVec.getLsbD_or]
    have := h k
    cases hx : x.getLsbD k <;> cases hy : y.getLsbD k <;> simp_all
theorem sub_le {x y : BitVec 16} (h : Sub x y) : x.toNat ≤ y.toNat := by
  rw [← h, BitVec.toNat_or]; exact Nat.left_le_or
theorem sub_refl (x : BitVec 16) : Sub x x := sub_bits.2 fun _ h => h
theorem sub_trans {x y z : BitVec 16} (h : Sub x y) (k : Sub y z) : Sub x z := sub_bits.2 fun i hi => sub_bits.1 k i (sub_bits.1 h i hi)
theorem sub_anti {x y : BitVec 16} (h : Sub x y) (k : Sub y x) : x = y := by
  apply BitVec.eq_of_toNat_eq
  have := sub_le h; have := sub_le k; omega
theorem sub_and {x y z : BitVec 16} (h : Sub x y) (k : Sub x z) : Sub x (y &&& z) := sub_bits.2 fun i hi => by rw [BitVec.getLsbD_and, sub_bits.1 h i hi, sub_bits.1 k i hi]; rfl
theorem and_sub1 {x y : BitVec 16} : Sub (x &&& y) x := sub_bits.2 fun i hi => by rw [BitVec.getLsbD_and] at hi; exact (Bool.and_eq_true_iff.1 hi).1
theorem and_sub2 {x y : BitVec 16} : Sub (x &&& y) y := sub_bits.2 fun i hi => by rw [BitVec.getLsbD_and] at hi; exact (Bool.and_eq_true_iff.1 hi).2
theorem or_sub {x y z : BitVec 16} (h : Sub x z) (k : Sub y z) : Sub (x ||| y) z := sub_bits.2 fun i hi => by
  rw [BitVec.getLsbD_or] at hi
  rcases Bool.or_eq_true_iff.1 hi with hi | hi
  · exact sub_bits.1 h i hi
  · exact sub_bits.1 k i hi
theorem sub_or1 {x y : BitVec 16} : Sub x (x ||| y) := sub_bits.2 fun i hi => by rw [BitVec.getLsbD_or, hi]; rfl
theorem sub_or2 {x y : BitVec 16} : Sub y (x ||| y) := sub_bits.2 fun i hi => by rw [BitVec.getLsbD_or, hi]; simp
theorem sub_zero (x : BitVec 16) : Sub 0 x := sub_bits.2 fun i hi => by simp at hi
instance (x y : BitVec 16) : Decidable (Sub x y) := inferInstanceAs (Decidable (x ||| y = y))
theorem sub_beq {x y : BitVec 16} : ((x ||| y) == y) = decide (Sub x y) := by rw [Bool.eq_iff_iff, beq_iff_eq, decide_eq_true_eq]; rfl
theorem sub_beq' {x y : BitVec 16} : ((x ||| y) == x) = decide (Sub y x) := by
  rw [Bool.eq_iff_iff, beq_iff_eq, decide_eq_true_eq]; unfold Sub; rw [BitVec.or_comm]
theorem within_eq (x y : BitVec 16) : lat_within x y = some (decide (Sub x y)) := by
  unfold lat_within
  rw [u_beq]
  congr 1
  rw [Bool.eq_iff_iff, beq_iff_eq, decide_eq_true_eq, sub_bits]
  constructor
  · intro h k hk
    have : (x &&& ~~~y).getLsbD k = false := by rw [h]; simp
    rw [BitVec.getLsbD_and, hk, Bool.true_and, BitVec.getLsbD_not] at this
    have hk16 : k < 16 := BitVec.lt_of_getLsbD hk
    simpa [hk16] using this
  · intro h
    apply BitVec.eq_of_getLsbD_eq
    intro k hk
    rw [BitVec.getLsbD_and, BitVec.getLsbD_not]
    have := h k
    cases hx : x.getLsbD k <;> simp_all
structure MapOk (a : List (BitVec 16)) (f : List Int) (g : Nat → Nat) : Prop where
  sets : SetsOk a
  at_ : ∀ i, i < a.length → lat f (i : Int) = some (g i : Int)
  lt : ∀ i, i < a.length → g i < a.length
  mono : ∀ i j, i < a.length → j < a.length → Sub (xa a i) (xa a j) → Sub (xa a (g i)) (xa a (g j))
def badI (n : Nat) (x : Int) : Bool := decide (x < 0) || decide (x ≥ (n : Int))
theorem bad_eq (x : Int) (a : List (BitVec 16)) : lat_Rises_1 x a = some (badI a.length x) := by
  unfold lat_Rises_1 badI
  simp only [cond_some, Option.bind_some, Bool.cond_true_left]
theorem any_eq (f : List Int) (a : List (BitVec 16)) : slices_ContainsFunc_int_int_Rises_1 f a = some (f.any (badI a.length)) := by
  unfold slices_ContainsFunc_int_int_Rises_1
  have : slices_IndexFunc_int_int_Rises_1 f a = some (idxI (badI a.length) f) := by
    unfold slices_IndexFunc_int_int_Rises_1
    refine index_loop _ fun j x hx => ?_
    unfold slices_IndexFunc_int_int_Rises_1_B0
    rw [lat_nat, hx, Option.bind_some, bad_eq, Option.bind_some]
    cases badI a.length x <;> rfl
  rw [this, Option.bind_some]
  congr 1
  rw [Bool.eq_iff_iff, List.any_eq_true, decide_eq_true_eq]
  rcases idxI_cases (badI a.length) f with ⟨h, h1⟩ | ⟨i, y, h, h1, h2, _⟩
  · rw [h]
    exact ⟨fun k => by omega, fun ⟨x, hx, k⟩ => by have := h1 x hx; rw [this] at k; cases k⟩
  · rw [h]
    exact ⟨fun _ => ⟨y, List.mem_of_getElem? h1, h2⟩, fun _ => by omega⟩
theorem map_law (a : List (BitVec 16)) (f : List Int) {fu : Nat} (hf : 400 ≤ fu) : ∃ c, lat_Rises a f = some c ∧ partref_MapErr fu a f = some c ∧ (c = 0 → ∃ g, MapOk a f g) := by
  obtain ⟨c, c1, c2, hc⟩ := check_law a hf
  unfold lat_Rises partref_MapErr
  rw [c1, c2, Option.bind_some, Option.bind_some]
  cases h0 : (c != 0) with
  | true => exact ⟨c, rfl, rfl, fun h => by rw [h] at h0; cases h0⟩
  | false =>
  have hs := hc (by simpa using h0)
  rw [cond_false, cond_false]
  cases hl : ((f.length : Int) != (a.length : Int)) with
  | true => exact ⟨4, rfl, rfl, fun h => by cases h⟩
  | false =>
  have hl' : f.length = a.length := by simpa [Int.natCast_inj] using hl
  rw [cond_false, cond_false, any_eq, Option.bind_some]
  have hB0 : Tot (rangeM (partref_MapErr_B0 a f) f.length 0 ()) fun o => match o with | .inl _ => ∀ x ∈ f, badI a.length x = false | .inr t => t = 1 ∧ ∃ x ∈ f, badI a.length x = true := by
    refine all_loop (e := fun _ x => bif badI a.length x then some 1 else none) (fun j x hx => ?_) ?_ ?_
    · unfold partref_MapErr_B0
      rw [lat_nat, hx, Option.bind_some]
      simp only [cond_some, Option.bind_some, Bool.cond_true_left]
      unfold badI
      cases decide (x < 0) || decide (x ≥ (a.length : Int)) <;> rfl
    · intro h x hx
      obtain ⟨j, hj⟩ := List.getElem?_of_mem hx
      have := h j x hj
      cases hb : badI a.length x with
      | false => rfl
      | true => simp [hb] at this
    · intro j x t hj ht _
      cases hb : badI a.length x with
      | false => simp [hb] at ht
      | true =>
        simp [hb] at ht
        exact ⟨ht.symm, x, List.mem_of_getElem? hj, hb⟩
  obtain ⟨o, ho, hq⟩ := hB0
  rw [ho]
  cases o with
  | inr t =>
    obtain ⟨rfl, x, hx, hb⟩ := hq
    have : f.any (badI a.length) = true := List.any_eq_true.2 ⟨x, hx, hb⟩
    rw [this]
    exact ⟨1, rfl, rfl, fun h => by cases h⟩
  | inl u =>
  have hno : ∀ x ∈ f, badI a.length x = false := hq
  have hany : f.any (badI a.length) = false := by
    cases h : f.any (badI a.length) with
    | false => rfl
    | true =>
      obtain ⟨x, hx, hb⟩ := List.any_eq_true.1 h
      rw [hno x hx] at hb; cases hb
  rw [hany, cond_false]
  simp only [andThen, Option.bind_some, Sum.elim_inl]
  have hg : ∃ g : Nat → Nat, ∀ i, i < a.length → lat f (i : Int) = some (g i : Int) ∧ g i < a.length := by
    refine ⟨fun i => (f[i]?.getD 0).toNat, fun i hi => ?_⟩
    have hi' : i < f.length := by omega
    have hx := hno f[i] (List.getElem_mem hi')
    unfold badI at hx
    simp only [Bool.or_eq_false_iff, decide_eq_false_iff_not] at hx
    have e : f[i]?.getD 0 = f[i] := by simp [hi']
    show lat f (i : Int) = some (((f[i]?.getD 0).toNat : Nat) : Int) ∧ (f[i]?.getD 0).toNat < a.length
    rw [e, lat_nat, List.getElem?_eq_getElem hi']
    refine ⟨?_, by omega⟩
    congr 1; omega
  obtain ⟨g, hg⟩ := hg
  have hbody : ∀ i, i < a.length → ∀ j, j < a.length → lat_Rises_B3 a f i (xa a i) j () = some (bif decide (Sub (xa a i) (xa a j)) && !decide (Sub (xa a (g i)) (xa a (g j))) then .ret (.ret 11) else .go ()) := by
    intro i hi j hj
    unfold lat_Rises_B3
    have g1 := hg i hi
    have g2 := hg j hj
    rw [lat_xa hj, Option.bind_some, within_eq, Option.bind_some, g1.1, g2.1, Option.bind_some, lat_xa g1.2, Option.bind_some, Option.bind_some, lat_xa g2.2, Option.bind_some, within_eq, Option.bind_some]
    cases decide (Sub (xa a i) (xa a j)) <;> cases decide (Sub (xa a (g i)) (xa a (g j))) <;> rfl
  have hbody2 : ∀ i, i < a.length → ∀ j, j < a.length → partref_MapErr_B4 a f i (xa a i) j () = lat_Rises_B3 a f i (xa a i) j () := by
    intro i hi j hj
    rw [hbody i hi j hj]
    unfold partref_MapErr_B4
    have g1 := hg i hi
    have g2 := hg j hj
    simp only [lat_xa hj, g1.1, g2.1, lat_xa g1.2, lat_xa g2.2, Option.bind_some, u_beq, bne, sub_beq]
    cases decide (Sub (xa a i) (xa a j)) <;> cases decide (Sub (xa a (g i)) (xa a (g j))) <;> rfl
  have hB : ∀ i, i < a.length → partref_MapErr_B2 a f i () = lat_Rises_B1 a f i () := by
    intro i hi
    unfold partref_MapErr_B2 lat_Rises_B1
    rw [lat_xa hi, Option.bind_some, Option.bind_some, rangeM_congr a.length 0 () fun j _ _ hj => hbody2 i hi j (by omega)]
  have hr := rangeM_congr (f := partref_MapErr_B2 a f) (g := lat_Rises_B1 a f) a.length 0 () fun j _ _ hj => hB j (by omega)
  rw [hr]
  have hin : ∀ i, i < a.length → Tot (rangeM (lat_Rises_B3 a f i (xa a i)) a.length 0 ()) fun o => match o with | .inl _ => ∀ j, j < a.length → Sub (xa a i) (xa a j) → Sub (xa a (g i)) (xa a (g j)) | .inr t => t = .ret 11 := by
    intro i hi
    refine Tot.rangeM (fun k _ => ∀ j, j < k → Sub (xa a i) (xa a j) → Sub (xa a (g i)) (xa a (g j))) (fun j h => by omega) ?_ ?_
    · intro k _ _ hk hI
      rw [hbody i hi k (by omega)]
      cases hb : (decide (Sub (xa a i) (xa a k)) && !decide (Sub (xa a (g i)) (xa a (g k)))) with
      | true => exact Tot.some_iff.2 rfl
      | false =>
        refine Tot.some_iff.2 fun j hj hs' => ?_
        by_cases e : j = k
        · subst e
          simp [hs'] at hb
          exact hb
        · exact hI j (by omega) hs'
    · intro _ hI
      rw [Nat.zero_add] at hI
      exact hI
  have hout : Tot (rangeM (lat_Rises_B1 a f) a.length 0 ()) fun o => match o with | .inl _ => ∀ i, i < a.length → ∀ j, j < a.length → Sub (xa a i) (xa a j) → Sub (xa a (g i)) (xa a (g j)) | .inr t => t = 11 := by
    refine Tot.rangeM (fun k _ => ∀ i, i < k → ∀ j, j < a.length → Sub (xa a i) (xa a j) → Sub (xa a (g i)) (xa a (g j))) (fun j h => by omega) ?_ ?_
    · intro k _ _ hk hI
      unfold lat_Rises_B1
      obtain ⟨o, ho, hq⟩ := hin k (by omega)
      rw [lat_xa (by omega), Option.bind_some]
      cases o with
      | inl u =>
        rw [ho]
        refine Tot.some_iff.2 fun i hi => ?_
        by_cases e : i = k
        · subst e; exact hq
        · exact hI i (by omega)
      | inr t =>
        rw [ho]
        simp only at hq
        subst hq
        exact Tot.some_iff.2 rfl
    · intro _ hI
      rw [Nat.zero_add] at hI
      exact hI
  obtain ⟨o, ho, hq⟩ := hout
  rw [ho]
  cases o with
  | inr t =>
    simp only at hq; subst hq
    exact ⟨11, rfl, rfl, fun h => by cases h⟩
  | inl u => exact ⟨0, rfl, rfl, fun _ => ⟨g, hs, fun i hi => (hg i hi).1, fun i hi => (hg i hi).2, fun i j hi hj => hq i hi j hj⟩⟩

/- ## fixed points -/
theorem up_lt {a : List (BitVec 16)} (h : Up a) {i j : Nat} (hi : i < a.length) (hs : (xa a i).toNat ≤ (xa a j).toNat) : ¬ j < i := fun k => by
  have := h j i k hi; omega
theorem top_sub {a : List (BitVec 16)} (h : SetsOk a) {i : Nat} (hi : i < a.length) : Sub (xa a i) (xa a (a.length - 1)) := by
  have h1 := h.n1
  obtain ⟨k, hk, e⟩ := xa_mem.1 (h.join i (a.length - 1) hi (by omega))
  have h2 : (xa a (a.length - 1)).toNat ≤ (xa a k).toNat := by rw [e]; exact sub_le sub_or2
  have h3 := up_lt h.up (i := a.length - 1) (j := k) (by omega) h2
  have : k = a.length - 1 := by omega
  rw [this] at e
  exact e.symm
theorem low_law {a : List (BitVec 16)} {f : List Int} {g : Nat → Nat} (h : MapOk a f g) {fu : Nat} (hf : 400 ≤ fu) :
    ∃ p, p < a.length ∧ lat_Still_1 fu 0 f = some (p : Int) ∧ g p = p ∧ ∀ j, j < a.length → Sub (xa a (g j)) (xa a j) → Sub (xa a p) (xa a j) := by
  have h1 := h.sets.n1
  have h2 := h.sets.n2
  have : Tot (lat_Still_1 fu 0 f) fun r => ∃ p : Nat, p < a.length ∧ r = (p : Int) ∧ g p = p ∧ ∀ j, j < a.length → Sub (xa a (g j)) (xa a j) → Sub (xa a p) (xa a j) := by
    unfold lat_Still_1
    rw [Tot.andThen_iff]
    refine Tot.whileM (fun z => ∃ i : Nat, z = (i : Int) ∧ i < a.length ∧ Sub (xa a i) (xa a (g i)) ∧ ∀ j, j < a.length → Sub (xa a (g j)) (xa a j) → Sub (xa a i) (xa a j)) (fun z => a.length - z.toNat)
      ⟨0, rfl, by omega, by rw [h.sets.zero]; exact sub_zero _, fun j _ _ => by rw [h.sets.zero]; exact sub_zero _⟩ (by simp; omega) ?_
    rintro _ ⟨i, rfl, hi, q1, q2⟩
    unfold lat_Still_1_B0
    rw [h.at_ i hi, Option.bind_some, Option.bind_some, Tot.ite_iff]
    have hgi := h.lt i hi
    constructor
    · intro hc
      have hne : g i ≠ i := fun e => by rw [e] at hc; simp at hc
      have h3 := up_lt h.sets.up hi (sub_le q1)
      refine Tot.some_iff.2 (Tot.go_iff.2 ⟨⟨g i, rfl, hgi, h.mono _ _ hi hgi q1, fun j hj hp => ?_⟩, by simp; omega⟩)
      exact sub_trans (h.mono _ _ hi hj (q2 j hj hp)) hp
    · intro hc
      have he : g i = i := Int.natCast_inj.1 (by simpa using hc)
      exact Tot.some_iff.2 (Tot.brk_iff.2 (Tot.inl_iff.2 (Tot.some_iff.2 ⟨i, hi, rfl, he, q2⟩)))
  obtain ⟨r, e, p, hp, rfl, q⟩ := this
  exact ⟨p, hp, e, q⟩
theorem high_law {a : List (BitVec 16)} {f : List Int} {g : Nat → Nat} (h : MapOk a f g) {fu : Nat} (hf : 400 ≤ fu) :
    ∃ p, p < a.length ∧ lat_Still_1 fu (w64 ((a.length : Int) - 1)) f = some (p : Int) ∧ g p = p ∧ ∀ j, j < a.length → Sub (xa a j) (xa a (g j)) → Sub (xa a j) (xa a p) := by
  have h1 := h.sets.n1
  have h2 := h.sets.n2
  have e0 : w64 ((a.length : Int) - 1) = ((a.length - 1 : Nat) : Int) := by rw [w64_id (by omega) (by omega)]; omega
  rw [e0]
  have : Tot (lat_Still_1 fu ((a.length - 1 : Nat) : Int) f) fun r => ∃ p : Nat, p < a.length ∧ r = (p : Int) ∧ g p = p ∧ ∀ j, j < a.length → Sub (xa a j) (xa a (g j)) → Sub (xa a j) (xa a p) := by
    unfold lat_Still_1
    rw [Tot.andThen_iff]
    refine Tot.whileM (fun z => ∃ i : Nat, z = (i : Int) ∧ i < a.length ∧ Sub (xa a (g i)) (xa a i) ∧ ∀ j, j < a.length → Sub (xa a j) (xa a (g j)) → Sub (xa a j) (xa a i)) (fun z => z.toNat)
      ⟨a.length - 1, rfl, by omega, top_sub h.sets (h.lt _ (by omega)), fun j hj _ => top_sub h.sets hj⟩ (by simp; omega) ?_
    rintro _ ⟨i, rfl, hi, q1, q2⟩
    unfold lat_Still_1_B0
    rw [h.at_ i hi, Option.bind_some, Option.bind_some, Tot.ite_iff]
    have hgi := h.lt i hi
    constructor
    · intro hc
      have hne : g i ≠ i := fun e => by rw [e] at hc; simp at hc
      have h3 := up_lt h.sets.up hgi (sub_le q1)
      refine Tot.some_iff.2 (Tot.go_iff.2 ⟨⟨g i, rfl, hgi, h.mono _ _ hgi hi q1, fun j hj hp => ?_⟩, by simp; omega⟩)
      exact sub_trans hp (h.mono _ _ hj hi (q2 j hj hp))
    · intro hc
      have he : g i = i := Int.natCast_inj.1 (by simpa using hc)
      exact Tot.some_iff.2 (Tot.brk_iff.2 (Tot.inl_iff.2 (Tot.some_iff.2 ⟨i, hi, rfl, he, q2⟩)))
  obtain ⟨r, e, p, hp, rfl, q⟩ := this
  exact ⟨p, hp, e, q⟩
theorem xa_inj {a : List (BitVec 16)} (h : Up a) {i j : Nat} (hi : i < a.length) (hj : j < a.length) (e : xa a i = xa a j) : i = j := by
  have h1 := up_lt h (i := i) (j := j) hi (by rw [e]; exact Nat.le_refl _)
  have h2 := up_lt h (i := j) (j := i) hj (by rw [e]; exact Nat.le_refl _)
  omega
theorem index_at {a : List (BitVec 16)} (h : Up a) {i : Nat} (hi : i < a.length) : slices_Index_uint16_uint16 a (xa a i) = some (i : Int) := by
  rw [eq_slices_Index_uint16_uint16]
  congr 1
  rw [idxI_some]
  refine ⟨_, xa_get hi, by simp, fun j y hj hy => ?_⟩
  rw [xa_get (by omega)] at hy
  obtain rfl := Option.some.inj hy
  have := fun e => xa_inj h hi (by omega) e (j := j)
  simp
  intro e; have := this e; omega
theorem ref_still {a : List (BitVec 16)} {f : List Int} {g : Nat → Nat} (h : MapOk a f g) {p q : Nat} (hp : p < a.length) (gp : g p = p) (lp : ∀ j, j < a.length → Sub (xa a (g j)) (xa a j) → Sub (xa a p) (xa a j))
    (hq : q < a.length) (gq : g q = q) (lq : ∀ j, j < a.length → Sub (xa a j) (xa a (g j)) → Sub (xa a j) (xa a q)) : partref_Still a f = some ((p : Int), (q : Int)) := by
  refine Tot.eq ?_
  have h1 := h.sets.n1
  have h2 := h.sets.n2
  unfold partref_Still
  have e0 : w64 ((a.length : Int) - 1) = ((a.length - 1 : Nat) : Int) := by rw [w64_id (by omega) (by omega)]; omega
  rw [e0, lat_xa (by omega), Option.bind_some, show (0 : Int) = ((0 : Nat) : Int) from rfl, lat_xa (by omega), Option.bind_some, Tot.bind_iff]
  refine Tot.rangeF (fun i z => Sub (xa a p) z.1 ∧ (p < i → Sub z.1 (xa a p)) ∧ Sub z.2 (xa a q) ∧ (q < i → Sub (xa a q) z.2)) ⟨top_sub h.sets hp, fun k => by omega, by rw [h.sets.zero]; exact sub_zero _, fun k => by omega⟩ ?_ ?_
  · rintro i ⟨lo, hi⟩ _ hlt ⟨b1, b2, b3, b4⟩
    have hi' : i < a.length := by omega
    have hg := h.lt i hi'
    simp only at b1 b2 b3 b4
    unfold partref_Still_B0
    rw [lat_xa hi', Option.bind_some, h.at_ i hi', Option.bind_some, lat_xa hg, Option.bind_some, u_beq, sub_beq]
    simp only [cond_some, Option.bind_some]
    rw [lat_xa hg, Option.bind_some, Option.bind_some, u_beq, sub_beq']
    have m1 : Sub (xa a p) (bif decide (Sub (xa a (g i)) (xa a i)) then lo &&& xa a i else lo) ∧ (p < i + 1 → Sub (bif decide (Sub (xa a (g i)) (xa a i)) then lo &&& xa a i else lo) (xa a p)) := by
      by_cases hs : Sub (xa a (g i)) (xa a i)
      · rw [decide_eq_true hs, cond_true]
        refine ⟨sub_and b1 (lp i hi' hs), fun k => ?_⟩
        by_cases e : p = i
        · subst e; exact and_sub2
        · exact sub_trans and_sub1 (b2 (by omega))
      · rw [decide_eq_false hs, cond_false]
        refine ⟨b1, fun k => b2 ?_⟩
        have : p ≠ i := fun e => hs (by rw [← e, gp]; exact sub_refl _)
        omega
    have m2 : Sub (bif decide (Sub (xa a i) (xa a (g i))) then hi ||| xa a i else hi) (xa a q) ∧ (q < i + 1 → Sub (xa a q) (bif decide (Sub (xa a i) (xa a (g i))) then hi ||| xa a i else hi)) := by
      by_cases hs : Sub (xa a i) (xa a (g i))
      · rw [decide_eq_true hs, cond_true]
        refine ⟨or_sub b3 (lq i hi' hs), fun k => ?_⟩
        by_cases e : q = i
        · subst e; exact sub_or2
        · exact sub_trans (b4 (by omega)) sub_or1
      · rw [decide_eq_false hs, cond_false]
        refine ⟨b3, fun k => b4 ?_⟩
        have : q ≠ i := fun e => hs (by rw [← e, gq]; exact sub_refl _)
        omega
    by_cases hs : Sub (xa a i) (xa a (g i))
    · rw [decide_eq_true hs, cond_true] at m2
      rw [decide_eq_true hs]
      exact Tot.some_iff.2 ⟨m1.1, m1.2, m2.1, m2.2⟩
    · rw [decide_eq_false hs, cond_false] at m2
      rw [decide_eq_false hs]
      exact Tot.some_iff.2 ⟨m1.1, m1.2, m2.1, m2.2⟩
  · rintro ⟨lo, hi⟩ ⟨b1, b2, b3, b4⟩
    rw [Nat.zero_add] at b2 b4
    simp only at b1 b2 b3 b4
    have e1 : lo = xa a p := sub_anti (b2 hp) b1
    have e2 : hi = xa a q := sub_anti b3 (b4 hq)
    rw [e1, e2]
    show Tot ((slices_Index_uint16_uint16 a (xa a p)).bind fun r39 => (slices_Index_uint16_uint16 a (xa a q)).bind fun r43 => some (r39, r43)) _
    rw [index_at h.sets.up hp, Option.bind_some, index_at h.sets.up hq]
    exact Tot.some_iff.2 rfl
theorem latmaps_law (a : List (BitVec 16)) (f : List Int) (_ : Rng.ok a) (_ : Rng.ok f) : ∃ fu, partlaw_LatMaps fu a f = some true := by
  refine ⟨400, ?_⟩
  obtain ⟨c, c1, c2, hc⟩ := map_law a f (Nat.le_refl 400)
  unfold partlaw_LatMaps
  rw [c2, Option.bind_some]
  by_cases h0 : c = 0
  · subst h0
    obtain ⟨g, h⟩ := hc rfl
    obtain ⟨p, hp, p1, p2, p3⟩ := low_law h (Nat.le_refl 400)
    obtain ⟨q, hq, q1, q2, q3⟩ := high_law h (Nat.le_refl 400)
    have hst : lat_Still 400 a f = some ((p : Int), (q : Int), 0) := by
      unfold lat_Still
      rw [c1, Option.bind_some, show ((0 : Int) != 0) = false from rfl, cond_false, p1, Option.bind_some, q1]
      rfl
    rw [hst, Option.bind_some, c1, Option.bind_some, ref_still h hp p2 p3 hq q2 q3]
    simp
  · have h0' : (c != 0) = true := by simpa using h0
    have hst : lat_Still 400 a f = some ((0 : Int), (0 : Int), c) := by
      unfold lat_Still
      rw [c1, Option.bind_some, h0', cond_true]
    rw [hst, Option.bind_some, c1]
    simp [h0']
end Go.Proofs.Yticifbmaapnfbaa
