/-
  Orders: what the lists of pairs, the linear order and the levels of an order are.
-/
import Derived.Test.YticifbmaapnfbaaPpLib
import Derived.Test.YticifbmaapnfbaaPpPosets
namespace Go.Proofs.Yticifbmaapnfbaa
open Enc

noncomputable def rch (l : List Pair) (a b : Nat) : Bool := @decide (Reach l a b) (Classical.propDecidable _)
theorem rch_iff {l : List Pair} {a b : Nat} : rch l a b = true ↔ Reach l a b := by unfold rch; simp
theorem rch_false {l : List Pair} {a b : Nat} : rch l a b = false ↔ ¬ Reach l a b := by rw [← rch_iff]; simp
/-- A right order. -/
structure Ordr (l : List Pair) (n : Nat) : Prop where
  n20 : n ≤ 20
  inr : InR n l
  irr : ∀ i, ¬ Reach l i i
def IsV (l : List Pair) (V : Vector (Vector Bool 20) 20) : Prop := ∀ x y, T V x y ↔ Reach l x y
theorem IsV.at {l : List Pair} {V : Vector (Vector Bool 20) 20} (hV : IsV l V) {a b : Nat} (ha : a < 20) (hb : b < 20) : vat V[a] (b : Int) = some (rch l a b) := by
  rw [vat_lt _ hb]
  congr 1
  rw [Bool.eq_iff_iff, rch_iff, ← hV a b, T.iff ha hb]
def mr (M : List (List Bool)) (a : Nat) : List Bool := (M[a]?).getD []
theorem mm1 {l : List Pair} {n : Nat} {M : List (List Bool)} (hM : IsClosure l n M) {a : Nat} (ha : a < n) : lat M (a : Int) = some (mr M a) := by
  have h : a < M.length := by rw [hM.1]; exact ha
  rw [lat_lt h]; simp [mr, h]
theorem mm2 {l : List Pair} {n : Nat} {M : List (List Bool)} (hM : IsClosure l n M) {a b : Nat} (ha : a < n) (hb : b < n) : lat (mr M a) (b : Int) = some (rch l a b) := by
  have h : a < M.length := by rw [hM.1]; exact ha
  have e : M[a]? = some (mr M a) := by simp [mr, h]
  obtain ⟨h1, h2⟩ := hM.2 a _ e
  have hb' : b < (mr M a).length := by omega
  rw [lat_lt hb']
  congr 1
  have := h2 b
  rw [List.getElem?_eq_getElem hb', Option.some.injEq] at this
  rw [Bool.eq_iff_iff, rch_iff, this]

/-! ### Pairs -/
def pr (a b : Nat) : Pair := ⟨(a : Int), (b : Int)⟩
def rowp (f : Nat → Nat → Bool) (a k : Nat) : List Pair := ((List.range k).filter (f a)).map (pr a)
def prs (f : Nat → Nat → Bool) (n k : Nat) : List Pair := (List.range k).flatMap fun a => rowp f a n
theorem rowp_succ {f : Nat → Nat → Bool} {a k : Nat} : rowp f a (k + 1) = bif f a k then rowp f a k ++ [pr a k] else rowp f a k := by
  unfold rowp
  rw [List.range_succ, List.filter_append, List.map_append]
  cases h : f a k <;> simp [h]
theorem rowp_len {f : Nat → Nat → Bool} {a k : Nat} : (rowp f a k).length ≤ k := by
  unfold rowp
  rw [List.length_map]
  exact Nat.le_trans (List.length_filter_le _ _) (by simp)
theorem prs_succ {f : Nat → Nat → Bool} {n k : Nat} : prs f n (k + 1) = prs f n k ++ rowp f k n := by
  unfold prs
  rw [List.range_succ, List.flatMap_append]; simp
theorem prs_len {f : Nat → Nat → Bool} {n : Nat} : ∀ k, (prs f n k).length ≤ k * n
  | 0 => by simp [prs]
  | k + 1 => by
    have := prs_len (f := f) (n := n) k
    have := rowp_len (f := f) (a := k) (k := n)
    rw [prs_succ, List.length_append, Nat.succ_mul]; omega
theorem pairs_loop {n : Nat} {f : Nat → Nat → Bool} (hn : n ≤ 20) {B2 : Nat → Nat → List Pair → Option (List Pair)} (h2 : ∀ (a b : Nat) (z : List Pair), a < n → b < n → z.length ≤ 1000 → B2 a b z = some (bif f a b then z ++ [pr a b] else z))
    {B0 : Nat → List Pair → Option (List Pair)} (h0 : ∀ a z, B0 a z = (upTo (n : Int)).bind fun nn => (rangeF (B2 a) nn 0 z).bind fun l => some l) :
    ((upTo (n : Int)).bind fun nn => (rangeF B0 nn 0 []).bind fun l => some l) = some (prs f n n) := by
  have hsq : n * n ≤ 20 * 20 := Nat.mul_le_mul hn hn
  have eu : upTo (n : Int) = some n := by rw [upTo_ok (by omega)]; rfl
  refine Tot.eq ?_
  rw [eu, Option.bind_some, Tot.bind_iff]
  refine Tot.rangeF (fun k z => z = prs f n k) rfl ?_ (by rintro z rfl; rw [Nat.zero_add]; exact Tot.some_iff.2 rfl)
  rintro a z _ ha rfl
  have ha : a < n := by omega
  have hl := prs_len (f := f) (n := n) a
  have hl2 : a * n ≤ n * n := Nat.mul_le_mul_right _ (by omega)
  rw [h0, eu, Option.bind_some, Tot.bind_iff]
  refine Tot.rangeF (fun k z => z = prs f n a ++ rowp f a k) (by simp [rowp]) ?_ (by rintro z rfl; rw [Nat.zero_add]; exact Tot.some_iff.2 prs_succ.symm)
  rintro b z _ hb rfl
  have hb : b < n := by omega
  have hr := rowp_len (f := f) (a := a) (k := b)
  rw [h2 a b _ ha hb (by simp; omega), Tot.some_iff, rowp_succ]
  cases f a b <;> simp

/-! ### The linear order -/
noncomputable def rdy (l : List Pair) (n : Nat) (z : List Int) (i : Nat) : Bool := (List.range n).all fun k => !rch l k i || z.contains (k : Int)
noncomputable def nxt (l : List Pair) (n : Nat) (z : List Int) : Option Nat := (List.range n).find? fun i => !z.contains (i : Int) && rdy l n z i
noncomputable def ordF (l : List Pair) (n : Nat) : Nat → List Int
  | 0 => []
  | k + 1 => match nxt l n (ordF l n k) with
    | some i => ordF l n k ++ [(i : Int)]
    | none => ordF l n k
theorem rdy_iff {l : List Pair} {n : Nat} {z : List Int} {i : Nat} (hl : InR n l) : rdy l n z i = true ↔ ∀ a, Reach l a i → (a : Int) ∈ z := by
  unfold rdy
  simp only [List.all_eq_true, List.mem_range, Bool.or_eq_true, Bool.not_eq_true', List.contains_iff_mem]
  constructor
  · intro h a ha
    rcases h a (ha.lt hl).1 with k | k
    · rw [rch_false] at k; exact absurd ha k
    · exact k
  · intro h k _
    by_cases c : Reach l k i
    · exact .inr (h k c)
    · exact .inl (rch_false.2 c)
/-- How many come ahead of an element. -/
noncomputable def prd (l : List Pair) (n i : Nat) : Nat := ((List.range n).filter fun a => rch l a i).length
theorem prd_lt {l : List Pair} {n a i : Nat} (h : Ordr l n) (ha : Reach l a i) : prd l n a < prd l n i := by
  unfold prd
  have hnd : (a :: (List.range n).filter fun b => rch l b a).Nodup := by
    refine List.nodup_cons.2 ⟨fun hm => ?_, List.Pairwise.filter _ List.nodup_range⟩
    simp only [List.mem_filter, rch_iff] at hm
    exact h.irr a hm.2
  have := List.Nodup.length_le_of_subset hnd (l₂ := (List.range n).filter fun b => rch l b i) fun x hx => by
    rcases List.mem_cons.1 hx with rfl | hx
    · simp only [List.mem_filter, List.mem_range, rch_iff]
      exact ⟨(ha.lt h.inr).1, ha⟩
    · simp only [List.mem_filter, List.mem_range, rch_iff] at hx ⊢
      exact ⟨hx.1, hx.2.trans ha⟩
  rw [List.length_cons] at this
  omega
theorem has_ready {l : List Pair} {n : Nat} {z : List Int} (h : Ordr l n) : ∀ (c i : Nat), prd l n i ≤ c → i < n → (i : Int) ∉ z → ∃ j, j < n ∧ (j : Int) ∉ z ∧ rdy l n z j = true
  | c, i, hc, hi, hz => by
    by_cases hr : rdy l n z i = true
    · exact ⟨i, hi, hz, hr⟩
    · rw [rdy_iff h.inr] at hr
      have : ∃ a, Reach l a i ∧ (a : Int) ∉ z := by
        refine Classical.byContradiction fun hh => hr fun a ha => Classical.byContradiction fun k => hh ⟨a, ha, k⟩
      obtain ⟨a, ha, hza⟩ := this
      have hlt := prd_lt h ha
      match c, hc with
      | 0, hc => omega
      | c + 1, hc => exact has_ready h c a (by omega) (ha.lt h.inr).1 hza
structure OInv (l : List Pair) (n : Nat) (z : List Int) : Prop where
  nd : z.Nodup
  inn : ∀ x ∈ z, ∃ i : Nat, x = (i : Int) ∧ i < n
  pre : ∀ (j i : Nat), z[j]? = some (i : Int) → ∀ a, Reach l a i → (a : Int) ∈ z.take j
def idn (n : Nat) : List Int := (List.range n).map fun i : Nat => (i : Int)
theorem mem_idn {n : Nat} {x : Int} : x ∈ idn n ↔ ∃ i : Nat, x = (i : Int) ∧ i < n := by
  unfold idn
  simp only [List.mem_map, List.mem_range]
  exact ⟨fun ⟨i, h1, h2⟩ => ⟨i, h2.symm, h1⟩, fun ⟨i, h1, h2⟩ => ⟨i, h2, h1.symm⟩⟩
theorem idn_nodup (n : Nat) : (idn n).Nodup := by
  unfold idn List.Nodup
  rw [List.pairwise_map]
  exact List.Pairwise.imp (fun h => by omega) (List.pairwise_lt_range (n := n))
theorem idn_len (n : Nat) : (idn n).length = n := by simp [idn]
theorem OInv.len {l : List Pair} {n : Nat} {z : List Int} (h : OInv l n z) : z.length ≤ n := by
  have := List.Nodup.length_le_of_subset h.nd (l₂ := idn n) fun x hx => mem_idn.2 (h.inn x hx)
  rwa [idn_len] at this
theorem idn_room {n : Nat} {z : List Int} (hlt : z.length < n) : ∃ i : Nat, i < n ∧ (i : Int) ∉ z := by
  refine Classical.byContradiction fun hh => ?_
  have := List.Nodup.length_le_of_subset (idn_nodup n) (l₂ := z) fun x hx => by
    obtain ⟨i, rfl, hi⟩ := mem_idn.1 hx
    exact Classical.byContradiction fun k => hh ⟨i, hi, k⟩
  rw [idn_len] at this
  omega
theorem nxt_some {l : List Pair} {n : Nat} {z : List Int} (h : Ordr l n) (hlt : z.length < n) : ∃ i, nxt l n z = some i ∧ i < n ∧ (i : Int) ∉ z ∧ rdy l n z i = true := by
  obtain ⟨i, hi, hz⟩ := idn_room hlt
  obtain ⟨j, hj, hzj, hr⟩ := has_ready h _ i (Nat.le_refl _) hi hz
  cases e : nxt l n z with
  | none =>
    unfold nxt at e
    rw [List.find?_eq_none] at e
    have := e j (List.mem_range.2 hj)
    simp [hzj, hr] at this
  | some k =>
    unfold nxt at e
    have h1 := List.find?_some e
    have h2 := List.mem_of_find?_eq_some e
    simp only [Bool.and_eq_true, Bool.not_eq_true', List.mem_range] at h1 h2
    refine ⟨k, rfl, h2, fun hm => ?_, h1.2⟩
    rw [List.contains_iff_mem.2 hm] at h1; cases h1.1
theorem ordF_law {l : List Pair} {n : Nat} (h : Ordr l n) : ∀ k, k ≤ n → OInv l n (ordF l n k) ∧ (ordF l n k).length = k
  | 0, _ => ⟨⟨.nil, fun x hx => by simp [ordF] at hx, fun j i hj => by simp [ordF] at hj⟩, rfl⟩
  | k + 1, hk => by
    obtain ⟨h1, h2⟩ := ordF_law h k (by omega)
    obtain ⟨i, e, hi, hz, hr⟩ := nxt_some h (z := ordF l n k) (by omega)
    unfold ordF
    rw [e]
    refine ⟨⟨?_, fun x hx => ?_, fun j i' hj a ha => ?_⟩, by simp [h2]⟩
    · have := h1.nd
      unfold List.Nodup at this ⊢
      rw [List.pairwise_append]
      refine ⟨this, .cons (by simp) .nil, fun x hx y hy e => ?_⟩
      rw [List.mem_singleton.1 hy] at e
      exact hz (e ▸ hx)
    · rcases List.mem_append.1 hx with hx | hx
      · exact h1.inn x hx
      · exact ⟨i, List.mem_singleton.1 hx, hi⟩
    · rcases Nat.lt_trichotomy j (ordF l n k).length with q | q | q
      · rw [List.getElem?_append_left q] at hj
        rw [List.take_append_of_le_length (by omega)]
        exact h1.pre j i' hj a ha
      · subst q
        rw [List.getElem?_append_right (Nat.le_refl _)] at hj
        simp at hj
        have hj' : i' = i := by omega
        subst hj'
        rw [List.take_left' rfl]
        exact (rdy_iff h.inr).1 hr a ha
      · rw [List.getElem?_eq_none (by simp; omega)] at hj; cases hj
theorem ready_loop {l : List Pair} {n i : Nat} {z : List Int} {b0 : Bool} {B : Nat → Bool → Option Bool} (h : ∀ (k : Nat) (b : Bool), k < n → B k b = some (b && (!rch l k i || z.contains (k : Int)))) : rangeF B n 0 b0 = some (b0 && rdy l n z i) := by
  have key : ∀ (m k : Nat) (b : Bool), k + m = n → rangeF B m k b = some (b && ((List.range m).all fun q => !rch l (k + q) i || z.contains ((k + q : Nat) : Int))) := by
    intro m
    induction m with
    | zero => intro k b _; simp [rangeF]
    | succ m ih =>
      intro k b hk
      unfold rangeF
      rw [h k b (by omega), Option.bind_some, ih (k + 1) _ (by omega), List.range_succ_eq_map, List.all_cons, List.all_map]
      congr 1
      rw [← Bool.and_assoc]
      congr 1
      have e : ((fun q => !rch l (k + q) i || z.contains ((k + q : Nat) : Int)) ∘ Nat.succ) = fun q => !rch l (k + 1 + q) i || z.contains ((k + 1 + q : Nat) : Int) := by
        funext q
        simp only [Function.comp, Nat.succ_eq_add_one, show k + (q + 1) = k + 1 + q by omega]
      rw [e]
  rw [key n 0 b0 (by omega)]
  unfold rdy
  simp only [Nat.zero_add]
theorem order_loop {τ : Type} {l : List Pair} {n fu : Nat} (h : Ordr l n) (hfu : 30 ≤ fu) {B2 : Nat → List Int → Option (Ctl (List Int) (Ctl (List Int) τ))} (h2 : ∀ (i : Nat) (z : List Int), i < n → z.length ≤ 20 → B2 i z = some (bif (!z.contains (i : Int) && rdy l n z i) then .brk (z ++ [(i : Int)]) else .go z))
    {B0 : List Int → Option (Ctl (List Int) τ)} (h0 : ∀ z, B0 z = bif decide ((z.length : Int) < (n : Int)) then ((upTo (n : Int)).bind fun nn => andThen (rangeM B2 nn 0 z) fun l => some (.go l)) else some (.brk z)) :
    whileM B0 fu [] = some (.inl (ordF l n n)) := by
  have eu : upTo (n : Int) = some n := by have := h.n20; rw [upTo_ok (by omega)]; rfl
  have hn := h.n20
  refine Tot.eq ?_
  refine Tot.whileM (fun z => ∃ k, k ≤ n ∧ z = ordF l n k) (fun z => n - z.length) ⟨0, by omega, rfl⟩ (by simp; omega) ?_
  rintro _ ⟨k, hk, rfl⟩
  obtain ⟨hI, hl⟩ := ordF_law h k hk
  rw [h0, hl]
  by_cases hkn : k = n
  · subst hkn
    rw [decide_eq_false (by omega), cond_false]
    exact Tot.some_iff.2 rfl
  · rw [decide_eq_true (by omega), cond_true, eu, Option.bind_some, Tot.andThen_iff]
    obtain ⟨i, e, hi, hz, hr⟩ := nxt_some h (z := ordF l n k) (by omega)
    have hstep : ordF l n (k + 1) = ordF l n k ++ [(i : Int)] := by
      show (match nxt l n (ordF l n k) with | some i => ordF l n k ++ [(i : Int)] | none => ordF l n k) = _
      rw [e]
    refine Tot.rangeM (fun j z => z = ordF l n k ∧ ∀ q, q < j → (!(ordF l n k).contains (q : Int) && rdy l n (ordF l n k) q) = false) ⟨rfl, fun q hq => by omega⟩ ?_ ?_
    · rintro j z _ hj ⟨rfl, hno⟩
      have hj : j < n := by omega
      rw [h2 j _ hj (by omega), Tot.some_iff]
      cases hc : (!(ordF l n k).contains (j : Int) && rdy l n (ordF l n k) j) with
      | true =>
        rw [cond_true]
        refine Tot.brk_iff.2 (Tot.inl_iff.2 (Tot.some_iff.2 ?_))
        have hij : i = j := by
          unfold nxt at e
          rw [List.find?_range_eq_some] at e
          rcases Nat.lt_trichotomy i j with q | q | q
          · rw [hno i q] at e; exact absurd e.1 (by simp)
          · exact q
          · have := e.2.2 j q
            rw [hc] at this; cases this
        subst hij
        refine ⟨⟨k + 1, by omega, hstep.symm⟩, ?_⟩
        rw [List.length_append]; simp; omega
      | false =>
        rw [cond_false]
        refine Tot.go_iff.2 ⟨rfl, fun q hq => ?_⟩
        by_cases e' : q = j
        · subst e'; exact hc
        · exact hno q (by omega)
    · rintro z ⟨rfl, hno⟩
      have := hno i (by omega)
      rw [hr] at this
      have hc : (ordF l n k).contains (i : Int) = false := by rw [Bool.eq_false_iff]; intro q; exact hz (List.contains_iff_mem.1 q)
      rw [hc] at this; cases this
end Go.Proofs.Yticifbmaapnfbaa
