/-
  What a receiver takes: the code and the document.
-/
import Derived.Test.YtobikknjaomalaaLtLib
namespace Go.Proofs.Ytobikknjaomalaa
open Enc

theorem lane_two {σ σ' τ τ' : Type} {f : Nat → σ → Option (Ctl σ τ)} {g : Nat → σ' → Option (Ctl σ' τ')} (R : Nat → σ → σ' → Prop) (Q : τ → τ' → Prop) : ∀ (k i : Nat) (s : σ) (t : σ'), R i s t →
    (∀ j s t, i ≤ j → j < i + k → R j s t → (∃ s' t', f j s = some (.go s') ∧ g j t = some (.go t') ∧ R (j + 1) s' t') ∨ ∃ x y, f j s = some (.ret x) ∧ g j t = some (.ret y) ∧ Q x y) →
    (∃ s' t', rangeM f k i s = some (.inl s') ∧ rangeM g k i t = some (.inl t') ∧ R (i + k) s' t') ∨ ∃ x y, rangeM f k i s = some (.inr x) ∧ rangeM g k i t = some (.inr y) ∧ Q x y
  | 0, i, s, t, h, _ => .inl ⟨s, t, rfl, rfl, h⟩
  | k + 1, i, s, t, h, hb => by
    rcases hb i s t (Nat.le_refl _) (by omega) h with ⟨s', t', h1, h2, h3⟩ | ⟨x, y, h1, h2, h3⟩
    · have := lane_two R Q k (i + 1) s' t' h3 fun j s t a b c => hb j s t (by omega) (by omega) c
      rw [show i + 1 + k = i + (k + 1) by omega] at this
      unfold rangeM
      rw [h1, h2]
      exact this
    · refine .inr ⟨x, y, ?_, ?_, h3⟩
      · unfold rangeM; rw [h1]; rfl
      · unfold rangeM; rw [h2]; rfl
theorem lmid_eq {i j : Nat} (h : i + j ≤ 2 ^ 40) : w64 (((BitVec.ofInt 64 (w64 ((i : Int) + (j : Int)))) >>> 1).toNat : Int) = (((i + j) / 2 : Nat) : Int) := by
  rw [w64_id (x := (i : Int) + (j : Int)) (by omega) (by omega), BitVec.toNat_ushiftRight, BitVec.toNat_ofInt, Nat.shiftRight_eq_div_pow]
  have : (((i : Int) + (j : Int)) % ((2 ^ 64 : Nat) : Int)).toNat = i + j := by omega
  rw [this]
  exact w64_id (by omega) (by omega)
theorem lin_eq (a b c : Int) : lane_in a b c = some (decide (a ≥ b) && decide (a ≤ c)) := by
  unfold lane_in
  rw [and_some, Option.bind_some]
def SLt (x y : Parcel) : Prop := x.Seq < y.Seq
structure GoodT (r : To) : Prop where
  lo : 0 ≤ r.Next
  hi : r.Next ≤ 16777215
  len : r.Early.length ≤ 16
  inc : r.Early.Pairwise SLt
  rng : ∀ x ∈ r.Early, r.Next < x.Seq ∧ x.Seq ≤ r.Next + 15
  txt : ∀ x ∈ r.Early, x.Text.length ≤ 200
theorem inc_at {l : List Parcel} (h : l.Pairwise SLt) {i j : Nat} {x y : Parcel} (hij : i < j) (hx : l[i]? = some x) (hy : l[j]? = some y) : x.Seq < y.Seq := by
  obtain ⟨h1, rfl⟩ := List.getElem?_eq_some_iff.1 hx
  obtain ⟨h2, rfl⟩ := List.getElem?_eq_some_iff.1 hy
  exact List.pairwise_iff_getElem.1 h i j h1 h2 hij
theorem take_snoc {α : Type} {l : List α} {i : Nat} {x : α} (hx : l[i]? = some x) : l.take (i + 1) = l.take i ++ [x] := by
  rw [List.take_add_one, hx]; rfl
theorem codes_to (r : To) : ∃ c, lane_CheckTo r = some c ∧ partref_ToErr r = some c ∧ (c = 0 ↔ GoodT r) := by
  unfold lane_CheckTo partref_ToErr
  rw [lin_eq, Option.bind_some, or_some, Option.bind_some]
  have e1 : (decide (r.Next < 0) || decide (r.Next > 16777215)) = !(decide (r.Next ≥ 0) && decide (r.Next ≤ 16777215)) := by
    rw [Bool.eq_iff_iff]; simp <;> omega
  rw [e1]
  cases hb : !(decide (r.Next ≥ 0) && decide (r.Next ≤ 16777215)) with
  | true => exact ⟨1, rfl, rfl, ⟨fun h => (by cases h), fun h => by have := h.lo; have := h.hi; simp at hb; omega⟩⟩
  | false =>
    have hN : 0 ≤ r.Next ∧ r.Next ≤ 16777215 := by simp at hb; omega
    rw [cond_false, cond_false]
    cases hl : decide ((r.Early.length : Int) > 16) with
    | true => exact ⟨2, rfl, rfl, ⟨fun h => (by cases h), fun h => by have := h.len; have := of_decide_eq_true hl; omega⟩⟩
    | false =>
      have hlen : r.Early.length ≤ 16 := by have := of_decide_eq_false hl; omega
      rw [cond_false, cond_false]
      have w16 : w64 (r.Next + 16) = r.Next + 16 := w64_id (by omega) (by omega)
      have w15 : w64 (r.Next + 15) = r.Next + 15 := w64_id (by omega) (by omega)
      have key := lane_two (f := lane_CheckTo_B1 r) (g := partref_ToErr_B0 r) (fun i (s : Int) (_ : Unit) => r.Next ≤ s ∧ (i = 0 → s = r.Next) ∧ (∀ y, 0 < i → r.Early[i - 1]? = some y → s = y.Seq) ∧ (r.Early.take i).Pairwise SLt ∧ ∀ x ∈ r.Early.take i, (r.Next < x.Seq ∧ x.Seq ≤ r.Next + 15) ∧ x.Text.length ≤ 200 ∧ x.Seq ≤ s)
        (fun x y => x = 4 ∧ y = 4 ∧ ¬ GoodT r) r.Early.length 0 r.Next () ⟨Int.le_refl _, fun _ => rfl, fun y h => by omega, by simp, fun x hx => by simp at hx⟩ (by
          rintro i s _ _ hi ⟨h1, h2, h3, h4, h5⟩
          have hi : i < r.Early.length := by omega
          have hx : r.Early[i]? = some r.Early[i] := by simp [hi]
          generalize r.Early[i] = x at hx
          have hq : ((bif decide ((i : Int) > 0) then ((lat r.Early (w64 ((i : Int) - 1))).bind fun x27 => some (decide (x.Seq ≤ x27.Seq))) else some false) : Option Bool) = some (decide (0 < i) && decide (x.Seq ≤ s)) := by
            by_cases h0 : 0 < i
            · have e0 : w64 ((i : Int) - 1) = ((i - 1 : Nat) : Int) := by rw [w64_id (by omega) (by omega)]; omega
              have hp : r.Early[i - 1]? = some (r.Early[i - 1]'(by omega)) := by simp
              rw [decide_eq_true (show (i : Int) > 0 by omega), cond_true, e0, lat_nat, hp, Option.bind_some, ← h3 _ h0 hp, decide_eq_true h0]; rfl
            · rw [decide_eq_false (show ¬ (i : Int) > 0 by omega), cond_false, decide_eq_false h0]; rfl
          have hbad : (((decide (x.Seq ≤ r.Next) || decide (x.Seq > r.Next + 15)) || (decide (0 < i) && decide (x.Seq ≤ s))) || decide ((x.Text.length : Int) > 200)) = (((decide (x.Seq ≤ s) || decide (x.Seq ≥ r.Next + 16))) || decide ((x.Text.length : Int) > 200)) := by
            congr 1
            rw [Bool.eq_iff_iff]
            simp only [Bool.or_eq_true, Bool.and_eq_true, decide_eq_true_eq]
            by_cases h0 : 0 < i
            · omega
            · have := h2 (by omega); omega
          have ef : lane_CheckTo_B1 r i s = bif ((decide (x.Seq ≤ s) || decide (x.Seq ≥ r.Next + 16))) || decide ((x.Text.length : Int) > 200) then some (.ret 4) else some (.go x.Seq) := by
            unfold lane_CheckTo_B1 lane_long
            rw [lat_nat, hx, Option.bind_some, or_some, Option.bind_some, Option.bind_some, or_some, Option.bind_some, w16]
          have eg : partref_ToErr_B0 r i () = bif ((decide (x.Seq ≤ s) || decide (x.Seq ≥ r.Next + 16))) || decide ((x.Text.length : Int) > 200) then some (.ret 4) else some (.go ()) := by
            unfold partref_ToErr_B0
            rw [lat_nat, hx, Option.bind_some, or_some, Option.bind_some, hq, Option.bind_some, or_some, Option.bind_some, or_some, Option.bind_some, w15, hbad]
          rw [ef, eg]
          cases hc : (((decide (x.Seq ≤ s) || decide (x.Seq ≥ r.Next + 16))) || decide ((x.Text.length : Int) > 200)) with
          | true =>
            refine .inr ⟨4, 4, rfl, rfl, rfl, rfl, fun h => ?_⟩
            have hm := List.mem_of_getElem? hx
            have g1 := h.rng x hm
            have g2 := h.txt x hm
            have g3 : s < x.Seq := by
              by_cases h0 : 0 < i
              · have hp : r.Early[i - 1]? = some (r.Early[i - 1]'(by omega)) := by simp
                rw [h3 _ h0 hp]
                exact inc_at h.inc (by omega) hp hx
              · rw [h2 (by omega)]; exact g1.1
            simp at hc
            omega
          | false =>
            simp at hc
            refine .inl ⟨_, _, rfl, rfl, by omega, fun h => by omega, fun y _ hy => ?_, ?_, fun y hy => ?_⟩
            · rw [Nat.add_sub_cancel, hx] at hy; rw [← Option.some.inj hy]
            · rw [take_snoc hx, List.pairwise_append]
              refine ⟨h4, by simp, fun a ha b hb => ?_⟩
              rw [List.mem_singleton.1 hb]
              have := h5 a ha
              show a.Seq < x.Seq
              omega
            · rw [take_snoc hx] at hy
              rcases List.mem_append.1 hy with hy | hy
              · have := h5 y hy; omega
              · rw [List.mem_singleton.1 hy]; omega)
      rcases key with ⟨s, t, k1, k2, k3, _, _, k4, k5⟩ | ⟨x, y, k1, k2, rfl, rfl, k3⟩
      · rw [k1, k2]
        rw [Nat.zero_add, List.take_length] at k4 k5
        exact ⟨0, rfl, rfl, ⟨fun _ => ⟨hN.1, hN.2, hlen, k4, fun x hx => (k5 x hx).1, fun x hx => (k5 x hx).2.1⟩, fun _ => rfl⟩⟩
      · rw [k1, k2]
        exact ⟨4, rfl, rfl, ⟨fun h => (by cases h), fun h => absurd h k3⟩⟩
theorem to_ok {r : To} (h : GoodT r) : lane_CheckTo r = some 0 := by
  obtain ⟨c, h1, _, h3⟩ := codes_to r
  rw [h1, h3.2 h]

/-! ### What is there -/
def Rep (f : Int → Option Str) (a : Int) (l : List Parcel) : Prop := ∀ s t, (⟨s, t⟩ : Parcel) ∈ l ↔ a ≤ s ∧ f s = some t
theorem inc_ext : ∀ {l m : List Parcel}, l.Pairwise SLt → m.Pairwise SLt → (∀ s t, (⟨s, t⟩ : Parcel) ∈ l ↔ (⟨s, t⟩ : Parcel) ∈ m) → l = m
  | [], [], _, _, _ => rfl
  | [], y :: m, _, _, h => by have := (h y.Seq y.Text).2 (by simp); cases this
  | x :: l, [], _, _, h => by have := (h x.Seq x.Text).1 (by simp); cases this
  | x :: l, y :: m, h1, h2, h => by
    have h1' := List.pairwise_cons.1 h1
    have h2' := List.pairwise_cons.1 h2
    have hxy : x = y := by
      rcases List.mem_cons.1 ((h x.Seq x.Text).1 (by simp)) with e | e
      · exact e
      · rcases List.mem_cons.1 ((h y.Seq y.Text).2 (by simp)) with e' | e'
        · exact e'.symm
        · have a1 : y.Seq < x.Seq := h2'.1 _ e
          have a2 : x.Seq < y.Seq := h1'.1 _ e'
          omega
    subst hxy
    congr 1
    refine inc_ext h1'.2 h2'.2 fun s t => ?_
    constructor
    · intro hm
      rcases List.mem_cons.1 ((h s t).1 (List.mem_cons_of_mem _ hm)) with e | e
      · have a1 : x.Seq < s := h1'.1 _ hm
        rw [← e] at a1; simp at a1
      · exact e
    · intro hm
      rcases List.mem_cons.1 ((h s t).2 (List.mem_cons_of_mem _ hm)) with e | e
      · have a1 : x.Seq < s := h2'.1 _ hm
        rw [← e] at a1; simp at a1
      · exact e
theorem build_map {r : To} (h : r.Early.Pairwise SLt) : ∃ m, rangeF (partref_TakeParcel_B0 r) r.Early.length 0 [] = some m ∧ ∀ s t, mget m s = some t ↔ (⟨s, t⟩ : Parcel) ∈ r.Early := by
  have key : Tot (rangeF (partref_TakeParcel_B0 r) r.Early.length 0 []) fun z => ∀ s t, mget z s = some t ↔ (⟨s, t⟩ : Parcel) ∈ r.Early := by
    refine Tot.rangeF (fun i z => ∀ s t, mget z s = some t ↔ (⟨s, t⟩ : Parcel) ∈ r.Early.take i) (fun s t => by simp [mget_nil]) ?_ (fun z hz => by rwa [Nat.zero_add, List.take_length] at hz)
    intro i z _ hi hz
    have hi : i < r.Early.length := by omega
    have hx : r.Early[i]? = some r.Early[i] := by simp [hi]
    generalize r.Early[i] = x at hx
    unfold partref_TakeParcel_B0
    rw [lat_nat, hx, Option.bind_some, Tot.let_iff, Tot.some_iff]
    intro s t
    rw [mget_mset, take_snoc hx, List.mem_append, List.mem_singleton]
    by_cases e : s = x.Seq
    · rw [if_pos e]
      constructor
      · intro q
        refine .inr ?_
        cases x
        simp only at e q
        rw [e, Option.some.inj q]
      · rintro (q | q)
        · obtain ⟨j, hj⟩ := List.getElem?_of_mem q
          have hji : j < i := by have := (List.getElem?_eq_some_iff.1 hj).1; simp at this; omega
          rw [List.getElem?_take, if_pos hji] at hj
          have := inc_at h hji hj hx
          simp only at this
          omega
        · rw [← q]
    · rw [if_neg e, hz s t]
      constructor
      · exact .inl
      · rintro (q | q)
        · exact q
        · rw [← q] at e; exact absurd rfl e
  obtain ⟨m, e, h1⟩ := key
  exact ⟨m, e, h1⟩

/-! ### The place -/
theorem lbs_law {l : List Parcel} {t : Int} (hinc : l.Pairwise SLt) (hlen : l.length ≤ 100) (hr : ∀ x ∈ l, -1000000000 ≤ x.Seq ∧ x.Seq ≤ 1000000000) (ht : -1000000000 ≤ t ∧ t ≤ 1000000000) {fu : Nat} (hf : 110 < fu) :
    ∃ (k : Nat) (b : Bool), slices_BinarySearchFunc_api_Parcel_api_Parcel_int_Take_1 fu l t = some ((k : Int), b) ∧ k ≤ l.length ∧ (∀ (j : Nat) x, j < k → l[j]? = some x → x.Seq < t) ∧ (∀ (j : Nat) x, k ≤ j → l[j]? = some x → t ≤ x.Seq) ∧ (b = true ↔ ∃ x ∈ l, x.Seq = t) := by
  have key : Tot (whileM (slices_BinarySearchFunc_api_Parcel_api_Parcel_int_Take_1_B0 l t) fu ((0 : Int), (l.length : Int))) fun o => ∃ (k : Nat) (j : Int), o = .inl ((k : Int), j) ∧ k ≤ l.length ∧ (∀ (j : Nat) x, j < k → l[j]? = some x → x.Seq < t) ∧ (∀ (j : Nat) x, k ≤ j → l[j]? = some x → t ≤ x.Seq) := by
    refine Tot.whileM (fun z => ∃ i j : Nat, z = ((i : Int), (j : Int)) ∧ i ≤ j ∧ j ≤ l.length ∧ (∀ (k : Nat) x, k < i → l[k]? = some x → x.Seq < t) ∧ ∀ (k : Nat) x, j ≤ k → l[k]? = some x → t ≤ x.Seq) (fun z => (z.2 - z.1).toNat)
      ⟨0, l.length, rfl, by omega, Nat.le_refl _, fun k x h => by omega, fun k x h hx => by have := (List.getElem?_eq_some_iff.1 hx).1; omega⟩ (by simp only; omega) ?_
    rintro _ ⟨i, j, rfl, h1, h2, h3, h4⟩
    unfold slices_BinarySearchFunc_api_Parcel_api_Parcel_int_Take_1_B0
    simp only
    rw [Tot.ite_iff]
    refine ⟨fun q => ?_, fun q => ?_⟩
    · have q : i < j := by simpa using q
      have hh : (i + j) / 2 < l.length := by omega
      have hx : l[(i + j) / 2]? = some l[(i + j) / 2] := by simp [hh]
      generalize l[(i + j) / 2] = x at hx
      have hrx := hr x (List.mem_of_getElem? hx)
      rw [lmid_eq (by omega), lat_nat, hx, Option.bind_some]
      unfold lane_Take_1
      rw [Option.bind_some, w64_id (show -9223372036854775808 ≤ x.Seq - t by omega) (by omega), Tot.ite_iff]
      refine ⟨fun c => ?_, fun c => ?_⟩
      · have c : x.Seq - t < 0 := by simpa using c
        rw [Tot.some_iff]
        have e1 : w64 ((((i + j) / 2 : Nat) : Int) + 1) = (((i + j) / 2 + 1 : Nat) : Int) := by rw [w64_id (by omega) (by omega)]; rfl
        refine Tot.go_iff.2 ⟨⟨(i + j) / 2 + 1, j, by rw [e1], by omega, h2, fun k y hk hy => ?_, h4⟩, by rw [e1]; simp only; omega⟩
        by_cases e : k = (i + j) / 2
        · subst e; rw [hx] at hy; rw [← Option.some.inj hy]; omega
        · have := inc_at hinc (show k < (i + j) / 2 by omega) hy hx; omega
      · have c : ¬ x.Seq - t < 0 := by simpa using c
        rw [Tot.some_iff]
        refine Tot.go_iff.2 ⟨⟨i, (i + j) / 2, rfl, by omega, by omega, h3, fun k y hk hy => ?_⟩, by simp only; omega⟩
        by_cases e : k = (i + j) / 2
        · subst e; rw [hx] at hy; rw [← Option.some.inj hy]; omega
        · have := inc_at hinc (show (i + j) / 2 < k by omega) hx hy; omega
    · have q : ¬ i < j := by simpa using q
      have : i = j := by omega
      subst this
      rw [Tot.some_iff]
      exact Tot.brk_iff.2 ⟨i, _, rfl, h2, h3, h4⟩
  obtain ⟨o, e, k, j, rfl, h1, h2, h3⟩ := key
  unfold slices_BinarySearchFunc_api_Parcel_api_Parcel_int_Take_1
  rw [e, andThen_inl]
  simp only
  by_cases hk : k < l.length
  · have hx : l[k]? = some l[k] := by simp [hk]
    generalize l[k] = x at hx
    have hrx := hr x (List.mem_of_getElem? hx)
    rw [decide_eq_true (show (k : Int) < l.length by omega), cond_true, lat_nat, hx, Option.bind_some]
    unfold lane_Take_1
    rw [Option.bind_some, Option.bind_some, w64_id (show -9223372036854775808 ≤ x.Seq - t by omega) (by omega)]
    refine ⟨k, x.Seq - t == 0, rfl, h1, h2, h3, ?_⟩
    rw [beq_iff_eq]
    constructor
    · intro q; exact ⟨x, List.mem_of_getElem? hx, by omega⟩
    · rintro ⟨y, hy, q⟩
      obtain ⟨m, hm⟩ := List.getElem?_of_mem hy
      rcases Nat.lt_trichotomy m k with c | c | c
      · have := h2 m y c hm; omega
      · subst c; rw [hx] at hm; rw [Option.some.inj hm]; omega
      · have := inc_at hinc c hx hm
        have := h3 k x (Nat.le_refl _) hx
        omega
  · rw [decide_eq_false (show ¬ (k : Int) < l.length by omega), cond_false]
    refine ⟨k, false, rfl, h1, h2, h3, ?_⟩
    constructor
    · intro q; cases q
    · rintro ⟨y, hy, q⟩
      obtain ⟨m, hm⟩ := List.getElem?_of_mem hy
      have := (List.getElem?_eq_some_iff.1 hm).1
      have := h2 m y (by omega) hm
      omega

/-! ### What is told -/
def tl (f : Int → Option Str) (a : Int) (k : Nat) : List Str := (List.range k).map fun j : Nat => (f (a + j)).getD []
theorem tl_succ {f : Int → Option Str} {a : Int} {k : Nat} : tl f a (k + 1) = tl f a k ++ [(f (a + k)).getD []] := by
  unfold tl; rw [List.range_succ, List.map_append]; rfl
theorem tl_len {f : Int → Option Str} {a : Int} {k : Nat} : (tl f a k).length = k := by simp [tl]
theorem ref_told {f : List (Int × Str)} {N : Int} {fu : Nat} (hN : 0 ≤ N ∧ N ≤ 1000000000) (hs : ∀ s t, mget f s = some t → s < N + 16) (hf : 40 < fu) :
    ∃ k : Nat, k ≤ 16 ∧ whileM (partref_TakeParcel_B2 f) fu ((⟨N, []⟩ : To), []) = some (.inl ((⟨N + k, []⟩ : To), tl (mget f) N k)) ∧ (∀ j : Nat, j < k → (mget f (N + j)).isSome = true) ∧ mget f (N + k) = none := by
  have key : Tot (whileM (partref_TakeParcel_B2 f) fu ((⟨N, []⟩ : To), [])) fun o => ∃ k : Nat, k ≤ 16 ∧ o = .inl ((⟨N + k, []⟩ : To), tl (mget f) N k) ∧ (∀ j : Nat, j < k → (mget f (N + j)).isSome = true) ∧ mget f (N + k) = none := by
    refine Tot.whileM (fun z => ∃ k : Nat, k ≤ 16 ∧ z = ((⟨N + k, []⟩ : To), tl (mget f) N k) ∧ ∀ j : Nat, j < k → (mget f (N + j)).isSome = true) (fun z => 20 - z.2.length) ⟨0, by omega, by simp [tl], fun j h => by omega⟩ (by simp; omega) ?_
    rintro _ ⟨k, hk, rfl, h1⟩
    unfold partref_TakeParcel_B2
    simp only
    cases hq : mget f (N + k) with
    | none =>
      simp only [Option.isSome_none, Bool.not_false, cond_true]
      exact Tot.some_iff.2 (Tot.brk_iff.2 ⟨k, hk, rfl, h1, hq⟩)
    | some t =>
      have hk' := hs _ _ hq
      simp only [Option.isSome_some, Bool.not_true, cond_false, Option.getD_some]
      rw [room_ok (by rw [tl_len]; simp; omega), Option.bind_some, Tot.let_iff, Tot.some_iff, w64_id (show -9223372036854775808 ≤ N + (k : Int) + 1 by omega) (by omega)]
      refine Tot.go_iff.2 ⟨⟨k + 1, by omega, ?_, fun j hj => ?_⟩, ?_⟩
      · rw [tl_succ, hq]; simp; omega
      · by_cases e : j = k
        · subst e; rw [hq]; rfl
        · exact h1 j (by omega)
      · simp only [List.length_append, tl_len, List.length_singleton]; omega
  obtain ⟨o, e, k, h1, rfl, h2, h3⟩ := key
  exact ⟨k, h1, e, h2, h3⟩
theorem ref_early {r : To} {f : List (Int × Str)} {q : Int} {fu : Nat} (hN : 0 ≤ r.Next ∧ r.Next ≤ 1000000000) (hq : r.Next ≤ q ∧ q ≤ r.Next + 16) (hs : ∀ s t, mget f s = some t → s < r.Next + 16) (hf : 40 < fu) :
    ∃ k e, whileM (partref_TakeParcel_B4x r f) fu (q + 1, (⟨q, []⟩ : To)) = some (.inl (k, (⟨q, e⟩ : To))) ∧ e.Pairwise SLt ∧ Rep (mget f) (q + 1) e ∧ e.length ≤ 16 := by
  have w16 : w64 (r.Next + 16) = r.Next + 16 := w64_id (by omega) (by omega)
  have key : Tot (whileM (partref_TakeParcel_B4x r f) fu (q + 1, (⟨q, []⟩ : To))) fun o => ∃ k e, o = .inl (k, (⟨q, e⟩ : To)) ∧ e.Pairwise SLt ∧ Rep (mget f) (q + 1) e ∧ e.length ≤ 16 := by
    refine Tot.whileM (fun z => ∃ k e, z = (k, (⟨q, e⟩ : To)) ∧ q + 1 ≤ k ∧ k ≤ q + 17 ∧ e.Pairwise SLt ∧ (∀ s t, (⟨s, t⟩ : Parcel) ∈ e ↔ q + 1 ≤ s ∧ s < k ∧ mget f s = some t) ∧ (e.length : Int) ≤ k - (q + 1)) (fun z => (r.Next + 20 - z.1).toNat)
      ⟨q + 1, [], rfl, Int.le_refl _, by omega, .nil, fun s t => by simp; omega, by simp⟩ (by simp only; omega) ?_
    rintro _ ⟨k, e, rfl, h1, h2, h3, h4, h5⟩
    unfold partref_TakeParcel_B4x
    simp only [w16]
    rw [Tot.ite_iff]
    refine ⟨fun c => ?_, fun c => ?_⟩
    · have c : k < r.Next + 16 := by simpa using c
      have wk : w64 (k + 1) = k + 1 := w64_id (by omega) (by omega)
      cases hg : mget f k with
      | none =>
        simp only [Option.isSome_none, cond_false]
        rw [wk, Tot.some_iff]
        refine Tot.go_iff.2 ⟨⟨k + 1, e, rfl, by omega, by omega, h3, fun s t => ?_, by omega⟩, by simp only; omega⟩
        rw [h4 s t]
        constructor
        · rintro ⟨a, b, d⟩; exact ⟨a, by omega, d⟩
        · rintro ⟨a, b, d⟩
          have : s ≠ k := fun e => by subst e; rw [hg] at d; cases d
          exact ⟨a, by omega, d⟩
      | some t0 =>
        simp only [Option.isSome_some, cond_true, Option.getD_some]
        rw [room_ok (by simp; omega), Option.bind_some, wk, Tot.some_iff]
        refine Tot.go_iff.2 ⟨⟨k + 1, e ++ [⟨k, t0⟩], rfl, by omega, by omega, ?_, fun s t => ?_, by simp; omega⟩, by simp only; omega⟩
        · rw [List.pairwise_append]
          refine ⟨h3, by simp, fun a ha b hb => ?_⟩
          rw [List.mem_singleton.1 hb]
          have := ((h4 a.Seq a.Text).1 ha).2.1
          exact this
        · rw [List.mem_append, List.mem_singleton, h4 s t]
          constructor
          · rintro (⟨a, b, d⟩ | d)
            · exact ⟨a, by omega, d⟩
            · cases d; exact ⟨h1, by omega, hg⟩
          · rintro ⟨a, b, d⟩
            by_cases e : s = k
            · subst e; rw [hg] at d; right; rw [Option.some.inj d]
            · exact .inl ⟨a, by omega, d⟩
    · have c : ¬ k < r.Next + 16 := by simpa using c
      rw [Tot.some_iff]
      refine Tot.brk_iff.2 ⟨k, e, rfl, h3, fun s t => ?_, by omega⟩
      rw [h4 s t]
      constructor
      · rintro ⟨a, _, b⟩; exact ⟨a, b⟩
      · rintro ⟨a, b⟩; exact ⟨a, by have := hs s t b; omega, b⟩
  obtain ⟨o, e, k, l, rfl, h1, h2, h3⟩ := key
  exact ⟨k, l, e, h1, h2, h3⟩
theorem code_told {f : Int → Option Str} {N : Int} {E : List Parcel} {fu : Nat} (hN : 0 ≤ N ∧ N ≤ 1000000000) (hE : E.Pairwise SLt) (hR : Rep f (N + 1) E) (hlen : E.length ≤ 16) (h0 : (f N).isSome = true) (hf : 40 < fu) :
    ∃ (k : Nat) (E' : List Parcel), whileM lane_Take_B1 fu ((⟨N + 1, E⟩ : To), tl f N 1, E) = some (.inl ((⟨N + k, E'⟩ : To), tl f N k, E')) ∧ (∀ j : Nat, j < k → (f (N + j)).isSome = true) ∧ f (N + k) = none ∧ E'.Pairwise SLt ∧ Rep f (N + k) E' ∧ E'.length ≤ 16 ∧ k ≤ 17 ∧ ∀ x ∈ E', x ∈ E := by
  have key : Tot (whileM lane_Take_B1 fu ((⟨N + 1, E⟩ : To), tl f N 1, E)) fun o => ∃ (k : Nat) (E' : List Parcel), o = .inl ((⟨N + k, E'⟩ : To), tl f N k, E') ∧ (∀ j : Nat, j < k → (f (N + j)).isSome = true) ∧ f (N + k) = none ∧ E'.Pairwise SLt ∧ Rep f (N + k) E' ∧ E'.length ≤ 16 ∧ k ≤ 17 ∧ ∀ x ∈ E', x ∈ E := by
    refine Tot.whileM (fun z => ∃ (k : Nat) (E' : List Parcel) (y : List Parcel), z = ((⟨N + k, y⟩ : To), tl f N k, E') ∧ (∀ j : Nat, j < k → (f (N + j)).isSome = true) ∧ E'.Pairwise SLt ∧ Rep f (N + k) E' ∧ (E'.length + k ≤ E.length + 1 ∧ 1 ≤ k) ∧ ∀ x ∈ E', x ∈ E) (fun z => z.2.2.length)
      ⟨1, E, E, rfl, fun j hj => ?_, hE, hR, ⟨Nat.le_refl _, Nat.le_refl _⟩, fun x h => h⟩ (by simp only; omega) ?_
    · have : j = 0 := by omega
      subst this; simpa using h0
    · rintro _ ⟨k, E', y, rfl, h1, h2, h3, h4, h5⟩
      unfold lane_Take_B1
      simp only
      have stop : f (N + k) = none → Tot (some (Ctl.brk (({ (⟨N + k, y⟩ : To) with Early := E' } : To), tl f N k, E')) : Option (Ctl (To × List Str × List Parcel) (To × List Str × Int))) (Tot.CtlOk (fun s' => (∃ (k : Nat) (E' : List Parcel) (y : List Parcel), s' = ((⟨N + k, y⟩ : To), tl f N k, E') ∧ (∀ j : Nat, j < k → (f (N + j)).isSome = true) ∧ E'.Pairwise SLt ∧ Rep f (N + k) E' ∧ (E'.length + k ≤ E.length + 1 ∧ 1 ≤ k) ∧ ∀ x ∈ E', x ∈ E) ∧ s'.2.2.length < E'.length)
          (fun s => ∃ (k : Nat) (E' : List Parcel), (Sum.inl s : (To × List Str × List Parcel) ⊕ (To × List Str × Int)) = .inl ((⟨N + k, E'⟩ : To), tl f N k, E') ∧ (∀ j : Nat, j < k → (f (N + j)).isSome = true) ∧ f (N + k) = none ∧ E'.Pairwise SLt ∧ Rep f (N + k) E' ∧ E'.length ≤ 16 ∧ k ≤ 17 ∧ ∀ x ∈ E', x ∈ E)
          (fun t => ∃ (k : Nat) (E' : List Parcel), (Sum.inr t : (To × List Str × List Parcel) ⊕ (To × List Str × Int)) = .inl ((⟨N + k, E'⟩ : To), tl f N k, E') ∧ (∀ j : Nat, j < k → (f (N + j)).isSome = true) ∧ f (N + k) = none ∧ E'.Pairwise SLt ∧ Rep f (N + k) E' ∧ E'.length ≤ 16 ∧ k ≤ 17 ∧ ∀ x ∈ E', x ∈ E)) := fun hno => Tot.some_iff.2 (Tot.brk_iff.2 ⟨k, E', rfl, h1, hno, h2, h3, by omega, by omega, h5⟩)
      cases E' with
      | nil =>
        rw [show decide ((([] : List Parcel).length : Int) > 0) = false from rfl, cond_false, Option.bind_some, cond_false]
        refine stop ?_
        cases hg : f (N + k) with
        | none => rfl
        | some t => have := (h3 _ _).2 ⟨Int.le_refl _, hg⟩; cases this
      | cons x E2 =>
        have h2' := List.pairwise_cons.1 h2
        have hx : (x :: E2)[0]? = some x := rfl
        have el : lat (x :: E2) (0 : Int) = some x := lat_nat (x :: E2) 0
        rw [decide_eq_true (show ((x :: E2).length : Int) > 0 by simp only [List.length_cons]; omega), cond_true, el, Option.bind_some, Option.bind_some, Tot.ite_iff]
        have hxf := (h3 x.Seq x.Text).1 (by simp)
        refine ⟨fun c => ?_, fun c => ?_⟩
        · have c : x.Seq = N + k := by simpa using c
          have hg : f (N + k) = some x.Text := by rw [← c]; exact hxf.2
          have ec : cutL (x :: E2) 1 ((x :: E2).length : Int) = some E2 := by
            unfold cutL
            rw [if_pos (by simp; omega)]
            simp
          rw [Option.bind_some, room_ok (by have := h4.1; rw [tl_len]; simp at this ⊢; omega), Option.bind_some, ec, Option.bind_some, Tot.let_iff, Tot.some_iff, w64_id (show -9223372036854775808 ≤ N + (k : Int) + 1 by omega) (by have := h4.1; simp at this; omega)]
          refine Tot.go_iff.2 ⟨⟨k + 1, E2, E2, ?_, fun j hj => ?_, h2'.2, fun s t => ?_, ⟨by have := h4.1; simp at this; omega, by omega⟩, fun z hz => h5 z (List.mem_cons_of_mem _ hz)⟩, by simp⟩
          · rw [tl_succ, hg]; simp; omega
          · by_cases e : j = k
            · subst e; rw [hg]; rfl
            · exact h1 j (by omega)
          · constructor
            · intro hm
              have a1 : x.Seq < s := h2'.1 _ hm
              exact ⟨by push_cast; omega, ((h3 s t).1 (List.mem_cons_of_mem _ hm)).2⟩
            · rintro ⟨a, b⟩
              have hm := (h3 s t).2 ⟨by push_cast at a; omega, b⟩
              rcases List.mem_cons.1 hm with e | e
              · rw [← e] at c; simp only at c; push_cast at a; omega
              · exact e
        · have c : ¬ x.Seq = N + k := by simpa using c
          refine stop ?_
          cases hg : f (N + k) with
          | none => rfl
          | some t =>
            have hm := (h3 _ _).2 ⟨Int.le_refl _, hg⟩
            rcases List.mem_cons.1 hm with e | e
            · rw [← e] at c; exact absurd rfl c
            · have a1 : x.Seq < N + k := h2'.1 _ e
              have := hxf.1
              omega
  obtain ⟨o, e, k, E', rfl, h1⟩ := key
  exact ⟨k, E', e, h1⟩

/-! ### All together -/
theorem insert_inc {l : List Parcel} {p : Parcel} {k : Nat} (h : l.Pairwise SLt) (hk : k ≤ l.length) (h1 : ∀ (j : Nat) x, j < k → l[j]? = some x → x.Seq < p.Seq) (h2 : ∀ (j : Nat) x, k ≤ j → l[j]? = some x → p.Seq < x.Seq) :
    (l.take k ++ [p] ++ l.drop k).Pairwise SLt ∧ ∀ x, x ∈ l.take k ++ [p] ++ l.drop k ↔ x ∈ l ∨ x = p := by
  have hd : (l.take k ++ l.drop k).Pairwise SLt := by rw [List.take_append_drop]; exact h
  have hd := List.pairwise_append.1 hd
  refine ⟨?_, fun x => ?_⟩
  · rw [List.append_assoc, List.pairwise_append]
    refine ⟨hd.1, ?_, fun a ha b hb => ?_⟩
    · rw [List.singleton_append, List.pairwise_cons]
      refine ⟨fun b hb => ?_, hd.2.1⟩
      obtain ⟨j, hj⟩ := List.getElem?_of_mem hb
      rw [List.getElem?_drop] at hj
      exact h2 _ b (by omega) hj
    · rcases List.mem_append.1 hb with hb | hb
      · rw [List.mem_singleton.1 hb]
        obtain ⟨j, hj⟩ := List.getElem?_of_mem ha
        have hji : j < k := by have := (List.getElem?_eq_some_iff.1 hj).1; simp at this; omega
        rw [List.getElem?_take, if_pos hji] at hj
        exact h1 j a hji hj
      · exact hd.2.2 a ha b hb
  · have : x ∈ l ↔ x ∈ l.take k ∨ x ∈ l.drop k := by
      conv => lhs; rw [← List.take_append_drop k l]
      exact List.mem_append
    rw [this, List.mem_append, List.mem_append, List.mem_singleton]
    constructor
    · rintro ((a | a) | a)
      · exact .inl (.inl a)
      · exact .inr a
      · exact .inl (.inr a)
    · rintro ((a | a) | a)
      · exact .inl (.inl a)
      · exact .inr a
      · exact .inl (.inr a)
theorem first_none {f : Int → Option Str} {N : Int} {k k' : Nat} (h1 : ∀ j : Nat, j < k → (f (N + j)).isSome = true) (h2 : f (N + k) = none) (g1 : ∀ j : Nat, j < k' → (f (N + j)).isSome = true) (g2 : f (N + k') = none) : k = k' := by
  rcases Nat.lt_trichotomy k k' with c | c | c
  · have := g1 k c; rw [h2] at this; cases this
  · exact c
  · have := h1 k' c; rw [g2] at this; cases this
/-- The receiver after a parcel. -/
structure Took (r : To) (p : Parcel) (o : To) (ts : List Str) : Prop where
  next : o.Next = r.Next + ts.length
  inc : o.Early.Pairwise SLt
  rng : ∀ x ∈ o.Early, o.Next < x.Seq ∧ x.Seq ≤ r.Next + 15 ∧ (x ∈ r.Early ∨ x = p)
  txt : ∀ x ∈ o.Early, x.Text.length ≤ 200
  len : o.Early.length ≤ 16
  from_ : ∀ (i : Nat) t, ts[i]? = some t → (⟨r.Next + i, t⟩ : Parcel) ∈ r.Early ∨ (⟨r.Next + i, t⟩ : Parcel) = p
theorem tl_get {f : Int → Option Str} {a : Int} {k i : Nat} {t : Str} (h : (tl f a k)[i]? = some t) (hs : ∀ j : Nat, j < k → (f (a + j)).isSome = true) : f (a + i) = some t := by
  have hi : i < k := by have := (List.getElem?_eq_some_iff.1 h).1; rwa [tl_len] at this
  unfold tl at h
  rw [List.getElem?_map, List.getElem?_range hi] at h
  simp only [Option.map_some, Option.some.injEq] at h
  have := hs i hi
  cases e : f (a + i) with
  | none => rw [e] at this; cases this
  | some u => rw [e] at h; simp at h; rw [h]
theorem take_law {r : To} {p : Parcel} {fu : Nat} (hfu : 200 < fu) (h : GoodT r) (hp : 0 ≤ p.Seq ∧ p.Seq ≤ 16777214) (ht : p.Text.length ≤ 200) :
    ∃ o ts, lane_Take fu r p = some (o, ts, 0) ∧ partref_TakeParcel fu r p = some (o, ts) ∧ Took r p o ts := by
  have hN : 0 ≤ r.Next ∧ r.Next ≤ 1000000000 := by have := h.lo; have := h.hi; omega
  have hN2 := h.hi
  have w16 : w64 (r.Next + 16) = r.Next + 16 := w64_id (by omega) (by omega)
  have hlen := h.len
  obtain ⟨m, em, hm⟩ := build_map h.inc
  obtain ⟨k, b, eb, hk, hk1, hk2, hb⟩ := lbs_law (t := p.Seq) (fu := fu) h.inc (by omega) (fun x hx => by have := h.rng x hx; omega) (by omega) (by omega)
  have hsup : ∀ s t, mget m s = some t → r.Next < s ∧ s ≤ r.Next + 15 := fun s t q => h.rng _ ((hm s t).1 q)
  have hknown : (mget m p.Seq).isSome = b := by
    rw [Bool.eq_iff_iff, hb]
    constructor
    · intro q
      obtain ⟨t, e⟩ := Option.isSome_iff_exists.1 q
      exact ⟨_, (hm _ _).1 e, rfl⟩
    · rintro ⟨x, hx, q⟩
      have := (hm x.Seq x.Text).2 hx
      rw [q] at this; rw [this]; rfl
  -- what the document comes to, of any map
  have ref : ∀ f : List (Int × Str), (∀ s t, mget f s = some t → r.Next ≤ s ∧ s < r.Next + 16) → ∃ (q : Nat) (e : List Parcel), q ≤ 16 ∧ (andThen (whileM (partref_TakeParcel_B2 f) fu (({ To.zero with Next := r.Next } : To), ([] : List Str))) fun (y44, l46) =>
      andThen (whileM (partref_TakeParcel_B4x r f) fu (w64 (y44.Next + (1 : Int)), ({ y44 with Early := ([] : List Parcel) } : To))) fun (_, y75) => some (y75, l46)) = some ((⟨r.Next + q, e⟩ : To), tl (mget f) r.Next q) ∧
      (∀ j : Nat, j < q → (mget f (r.Next + j)).isSome = true) ∧ mget f (r.Next + q) = none ∧ e.Pairwise SLt ∧ Rep (mget f) (r.Next + q + 1) e ∧ e.length ≤ 16 := fun f hf => by
    obtain ⟨q, q1, q2, q3, q4⟩ := ref_told (f := f) (fu := fu) hN (fun s t x => (hf s t x).2) (by omega)
    obtain ⟨k', e, p1, p2, p3, p4⟩ := ref_early (r := r) (f := f) (q := r.Next + q) (fu := fu) hN (by omega) (fun s t x => (hf s t x).2) (by omega)
    refine ⟨q, e, q1, ?_, q3, q4, p2, p3, p4⟩
    have q2' : whileM (partref_TakeParcel_B2 f) fu (({ To.zero with Next := r.Next } : To), ([] : List Str)) = some (.inl ((⟨r.Next + q, []⟩ : To), tl (mget f) r.Next q)) := q2
    rw [q2', andThen_inl]
    simp only
    rw [w64_id (show -9223372036854775808 ≤ r.Next + (q : Int) + 1 by omega) (by omega), p1, andThen_inl]
  unfold lane_Take partref_TakeParcel
  rw [to_ok h, Option.bind_some]
  simp only [bne_self_eq_false, cond_false]
  rw [lin_eq, Option.bind_some, decide_eq_true (show p.Seq ≥ 0 by omega), decide_eq_true (show p.Seq ≤ 16777214 by omega)]
  unfold lane_long
  simp only [Bool.and_self, Bool.not_true, cond_false, Option.bind_some]
  rw [decide_eq_false (show ¬ (p.Text.length : Int) > 200 by omega), cond_false, eq_slices_Clone_api_Parcel_api_Parcel (by omega), Option.bind_some]
  simp only [Let]
  rw [eb, Option.bind_some, or_some, Option.bind_some, or_some, Option.bind_some, w16, em, Option.bind_some, and_some, Option.bind_some, and_some, Option.bind_some, hknown]
  by_cases hin : r.Next ≤ p.Seq ∧ p.Seq < r.Next + 16 ∧ b = false
  · obtain ⟨i1, i2, rfl⟩ := hin
    rw [decide_eq_false (show ¬ p.Seq < r.Next by omega), decide_eq_false (show ¬ p.Seq ≥ r.Next + 16 by omega), decide_eq_true (show p.Seq ≥ r.Next by omega), decide_eq_true (show p.Seq < r.Next + 16 by omega)]
    simp only [Bool.or_self, Bool.not_false, Bool.and_self, cond_true, cond_false, Option.bind_some]
    have hmm : ∀ s t, mget (mset m p.Seq p.Text) s = some t ↔ (⟨s, t⟩ : Parcel) ∈ r.Early ∨ (⟨s, t⟩ : Parcel) = p := fun s t => by
      have hno : ∀ t, (⟨p.Seq, t⟩ : Parcel) ∉ r.Early := fun t q => by
        have := (hm _ _).2 q
        rw [this] at hknown; cases hknown
      rw [mget_mset]
      by_cases e : s = p.Seq
      · subst e
        rw [if_pos rfl]
        constructor
        · intro q; right; rw [← Option.some.inj q]
        · rintro (q | q)
          · exact absurd q (hno t)
          · rw [← q]
      · rw [if_neg e, hm s t]
        constructor
        · exact .inl
        · rintro (q | q)
          · exact q
          · rw [← q] at e; exact absurd rfl e
    obtain ⟨q, e, hq, er, r1, r2, r3, r4, r5⟩ := ref (mset m p.Seq p.Text) (fun s t x => by
      rcases (hmm s t).1 x with x | x
      · have := h.rng _ x; simp only at this; omega
      · rw [← x] at i1 i2; exact ⟨i1, i2⟩)
    have took : ∀ o ts, o = (⟨r.Next + q, e⟩ : To) → ts = tl (mget (mset m p.Seq p.Text)) r.Next q → Took r p o ts := by
      rintro o ts rfl rfl
      refine ⟨by rw [tl_len], r3, fun x hx => ?_, fun x hx => ?_, r5, fun i t hi => ?_⟩
      · have hx' := (r4 x.Seq x.Text).1 hx
        have hxx := (hmm _ _).1 hx'.2
        refine ⟨by simp only; omega, ?_, hxx⟩
        rcases hxx with y | y
        · have := h.rng _ y; simp only at this; omega
        · rw [← y] at i2; simp only at i2; omega
      · rcases (hmm _ _).1 ((r4 x.Seq x.Text).1 hx).2 with y | y
        · exact h.txt _ y
        · rw [← y] at ht; exact ht
      · exact (hmm _ _).1 (tl_get hi r1)
    by_cases c : p.Seq > r.Next
    · rw [decide_eq_true c, cond_true]
      have ei : slices_Insert_api_Parcel_api_Parcel r.Early (k : Int) [p] = some (r.Early.take k ++ [p] ++ r.Early.drop k) := by
        unfold slices_Insert_api_Parcel_api_Parcel
        have ec : ∃ x, cutL r.Early (k : Int) (r.Early.length : Int) = some x := ⟨_, by unfold cutL; rw [if_pos (by omega)]⟩
        obtain ⟨x, ec⟩ := ec
        rw [ec, Option.bind_some, room_ok (by simp; omega), Option.bind_some, Int.toNat_natCast]
      obtain ⟨n1, n2⟩ := insert_inc (p := p) h.inc hk hk1 (fun j x hj hx => by
        have := hk2 j x hj hx
        have hne : x.Seq ≠ p.Seq := fun e => by
          have := hb.2 ⟨x, List.mem_of_getElem? hx, e⟩; cases this
        omega)
      have hq0 : q = 0 := by
        refine first_none r1 r2 (k' := 0) (fun j hj => by omega) ?_
        cases e : mget (mset m p.Seq p.Text) (r.Next + ((0 : Nat) : Int)) with
        | none => rfl
        | some t =>
          rcases (hmm _ _).1 e with y | y
          · have := h.rng _ y; simp only at this; omega
          · rw [← y] at c; simp at c
      subst hq0
      have ee : e = r.Early.take k ++ [p] ++ r.Early.drop k := inc_ext r3 n1 fun s t => by
        rw [r4 s t, n2, hmm s t]
        constructor
        · exact fun x => x.2
        · intro x
          refine ⟨?_, x⟩
          rcases x with y | y
          · have := h.rng _ y; simp only at this; push_cast; omega
          · rw [← y] at c; simp only at c; push_cast; omega
      rw [ei, Option.bind_some]
      refine ⟨⟨r.Next, e⟩, [], ?_, ?_, took _ _ (by simp) (by simp [tl])⟩
      · rw [ee]
      · refine er.trans ?_
        simp [tl]
    · have hpN : p.Seq = r.Next := by omega
      rw [decide_eq_false c, cond_false, w64_id (show -9223372036854775808 ≤ r.Next + 1 by omega) (by omega)]
      have hf0 : mget (mset m p.Seq p.Text) r.Next = some p.Text := by rw [mget_mset, if_pos hpN.symm]
      obtain ⟨q', E', c1, c2, c3, c4, c5, c6, c7, c8⟩ := code_told (f := mget (mset m p.Seq p.Text)) (N := r.Next) (E := r.Early) (fu := fu) hN h.inc (fun s t => by
        rw [hmm s t]
        constructor
        · intro x; have := h.rng _ x; simp only at this; exact ⟨by omega, .inl x⟩
        · rintro ⟨a, x | x⟩
          · exact x
          · rw [← x] at hpN; simp only at hpN; omega) hlen (by rw [hf0]; rfl) (by omega)
      have e1 : tl (mget (mset m p.Seq p.Text)) r.Next 1 = [p.Text] := by
        simp [tl, hf0]
      rw [e1] at c1
      obtain rfl : q' = q := first_none c2 c3 r1 r2
      have ee : E' = e := inc_ext c4 r3 fun s t => by
        rw [c5 s t, r4 s t]
        constructor
        · rintro ⟨a, x⟩
          have : s ≠ r.Next + q' := fun y => by rw [y, c3] at x; cases x
          exact ⟨by omega, x⟩
        · rintro ⟨a, x⟩; exact ⟨by omega, x⟩
      subst ee
      have c1' : whileM lane_Take_B1 fu (({ To.zero with Next := r.Next + 1, Early := r.Early } : To), ([p.Text] : List Str), r.Early) = some (.inl ((⟨r.Next + q', E'⟩ : To), tl (mget (mset m p.Seq p.Text)) r.Next q', E')) := c1
      rw [c1', andThen_inl]
      simp only
      rw [eq_slices_Clone_api_Parcel_api_Parcel (by omega), Option.bind_some]
      exact ⟨_, _, rfl, er, took _ _ rfl rfl⟩
  · have e1 : ((decide (p.Seq < r.Next) || decide (p.Seq ≥ r.Next + 16)) || b) = true := by
      cases b
      · simp only [Bool.or_false, Bool.or_eq_true, decide_eq_true_eq]
        have : ¬ (r.Next ≤ p.Seq ∧ p.Seq < r.Next + 16) := fun x => hin ⟨x.1, x.2, rfl⟩
        omega
      · simp
    have e2 : ((!b && decide (p.Seq ≥ r.Next)) && decide (p.Seq < r.Next + 16)) = false := by
      cases b
      · rw [Bool.eq_false_iff]
        simp only [Bool.not_false, Bool.true_and, ne_eq, Bool.and_eq_true, decide_eq_true_eq]
        exact fun x => hin ⟨by omega, by omega, rfl⟩
      · simp
    rw [e1, cond_true, e2, cond_false, Option.bind_some]
    obtain ⟨q, e, hq, er, r1, r2, r3, r4, r5⟩ := ref m (fun s t x => by have := hsup s t x; omega)
    have hq0 : q = 0 := by
      refine first_none r1 r2 (k' := 0) (fun j hj => by omega) ?_
      cases e : mget m (r.Next + ((0 : Nat) : Int)) with
      | none => rfl
      | some t => have := hsup _ _ e; omega
    subst hq0
    have ee : e = r.Early := inc_ext r3 h.inc fun s t => by
      rw [r4 s t, ← hm s t]
      constructor
      · exact fun x => x.2
      · intro x; have := hsup _ _ x; exact ⟨by push_cast; omega, x⟩
    subst ee
    refine ⟨⟨r.Next, r.Early⟩, [], rfl, er.trans (by simp [tl]), ⟨by simp, h.inc, fun x hx => ?_, h.txt, hlen, fun i t hi => by simp at hi⟩⟩
    have := h.rng x hx
    exact ⟨this.1, by omega, .inl hx⟩
end Go.Proofs.Ytobikknjaomalaa
