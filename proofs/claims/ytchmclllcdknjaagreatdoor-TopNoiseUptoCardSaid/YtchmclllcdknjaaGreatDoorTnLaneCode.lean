/-
  The lane, the code alone: what a receiver is after a parcel.
-/
import Derived.Test.YtchmclllcdknjaaGreatDoorTnLib
namespace Go.Proofs.YtchmclllcdknjaaGreatDoor
open Enc

theorem lmid_eq {i j : Nat} (h : i + j ≤ 2 ^ 40) : w64 (((BitVec.ofInt 64 (w64 ((i : Int) + (j : Int)))) >>> 1).toNat : Int) = (((i + j) / 2 : Nat) : Int) := by
  rw [w64_id (x := (i : Int) + (j : Int)) (by omega) (by omega), BitVec.toNat_ushiftRight, BitVec.toNat_ofInt, Nat.shiftRight_eq_div_pow]
  have : (((i : Int) + (j : Int)) % ((2 ^ 64 : Nat) : Int)).toNat = i + j := by omega
  rw [this]
  exact w64_id (by omega) (by omega)
theorem lin_eq (a b c : Int) : lane_in a b c = some (decide (a ≥ b) && decide (a ≤ c)) := by
  unfold lane_in
  rw [and_some, Option.bind_some]
def SLt (x y : Parcel) : Prop := x.Seq < y.Seq
structure GoodT (r : To) : Prop where
  lo : 0 ≤ r.Next
  hi : r.Next ≤ 16777215
  len : r.Early.length ≤ 16
  inc : r.Early.Pairwise SLt
  rng : ∀ x ∈ r.Early, r.Next < x.Seq ∧ x.Seq ≤ r.Next + 15
  txt : ∀ x ∈ r.Early, x.Text.length ≤ 200
theorem inc_at {l : List Parcel} (h : l.Pairwise SLt) {i j : Nat} {x y : Parcel} (hij : i < j) (hx : l[i]? = some x) (hy : l[j]? = some y) : x.Seq < y.Seq := by
  obtain ⟨h1, rfl⟩ := List.getElem?_eq_some_iff.1 hx
  obtain ⟨h2, rfl⟩ := List.getElem?_eq_some_iff.1 hy
  exact List.pairwise_iff_getElem.1 h i j h1 h2 hij
theorem take_snoc {α : Type} {l : List α} {i : Nat} {x : α} (hx : l[i]? = some x) : l.take (i + 1) = l.take i ++ [x] := by
  rw [List.take_add_one, hx]; rfl
theorem long_eq (t : Str) : lane_long t = some (decide ((t.length : Int) > 200)) := rfl
theorem to_loop {r : To} (h : GoodT r) : ∀ (k i : Nat) (z : Int), i + k = r.Early.length → r.Next ≤ z → (∀ x, r.Early[i]? = some x → z < x.Seq) → ∃ y, rangeM (lane_CheckTo_B1 r) k i z = some (.inl y)
  | 0, i, z, _, _, _ => ⟨z, rfl⟩
  | k + 1, i, z, hk, hz, hx => by
    have hi : i < r.Early.length := by omega
    have hx' : r.Early[i]? = some r.Early[i] := by simp [hi]
    generalize r.Early[i] = x at hx'
    have hlt := hx x hx'
    have hr := h.rng x (List.mem_of_getElem? hx')
    have ht := h.txt x (List.mem_of_getElem? hx')
    have hlo := h.lo
    have hhi := h.hi
    obtain ⟨y, hy⟩ := to_loop h k (i + 1) x.Seq (by omega) (by omega) fun x2 h2 => inc_at h.inc (Nat.lt_succ_self i) hx' h2
    refine ⟨y, ?_⟩
    have hb : lane_CheckTo_B1 r i z = some (.go x.Seq) := by
      unfold lane_CheckTo_B1
      rw [lat_nat, hx', Option.bind_some, w64_id (show -9223372036854775808 ≤ r.Next + 16 by omega) (by omega), long_eq, decide_eq_false (show ¬ x.Seq ≤ z by omega), decide_eq_false (show ¬ x.Seq ≥ r.Next + 16 by omega), decide_eq_false (show ¬ (x.Text.length : Int) > 200 by omega)]
      rfl
    unfold rangeM
    rw [hb, Option.bind_some]
    exact hy
theorem to_ok {r : To} (h : GoodT r) : lane_CheckTo r = some 0 := by
  have h1 := h.lo
  have h2 := h.hi
  have h3 := h.len
  obtain ⟨y, hy⟩ := to_loop h r.Early.length 0 r.Next (by omega) (Int.le_refl _) fun x hx => (h.rng x (List.mem_of_getElem? hx)).1
  unfold lane_CheckTo
  rw [lin_eq, Option.bind_some, decide_eq_true (show r.Next ≥ 0 by omega), decide_eq_true (show r.Next ≤ 16777215 by omega), decide_eq_false (show ¬ (r.Early.length : Int) > 16 by omega)]
  simp only [Bool.and_self, Bool.not_true, cond_false]
  rw [hy]
  rfl

/-! ### What is there -/
def Rep (f : Int → Option Str) (a : Int) (l : List Parcel) : Prop := ∀ s t, (⟨s, t⟩ : Parcel) ∈ l ↔ a ≤ s ∧ f s = some t
theorem inc_ext : ∀ {l m : List Parcel}, l.Pairwise SLt → m.Pairwise SLt → (∀ s t, (⟨s, t⟩ : Parcel) ∈ l ↔ (⟨s, t⟩ : Parcel) ∈ m) → l = m
  | [], [], _, _, _ => rfl
  | [], y :: m, _, _, h => by have := (h y.Seq y.Text).2 (by simp); cases this
  | x :: l, [], _, _, h => by have := (h x.Seq x.Text).1 (by simp); cases this
  | x :: l, y :: m, h1, h2, h => by
    have h1' := List.pairwise_cons.1 h1
    have h2' := List.pairwise_cons.1 h2
    have hxy : x = y := by
      rcases List.mem_cons.1 ((h x.Seq x.Text).1 (by simp)) with e | e
      · exact e
      · rcases List.mem_cons.1 ((h y.Seq y.Text).2 (by simp)) with e' | e'
        · exact e'.symm
        · have a1 : y.Seq < x.Seq := h2'.1 _ e
          have a2 : x.Seq < y.Seq := h1'.1 _ e'
          omega
    subst hxy
    congr 1
    refine inc_ext h1'.2 h2'.2 fun s t => ?_
    constructor
    · intro hm
      rcases List.mem_cons.1 ((h s t).1 (List.mem_cons_of_mem _ hm)) with e | e
      · have a1 : x.Seq < s := h1'.1 _ hm
        rw [← e] at a1; simp at a1
      · exact e
    · intro hm
      rcases List.mem_cons.1 ((h s t).2 (List.mem_cons_of_mem _ hm)) with e | e
      · have a1 : x.Seq < s := h2'.1 _ hm
        rw [← e] at a1; simp at a1
      · exact e
/-! ### The place -/
theorem lbs_law {l : List Parcel} {t : Int} (hinc : l.Pairwise SLt) (hlen : l.length ≤ 100) (hr : ∀ x ∈ l, -1000000000 ≤ x.Seq ∧ x.Seq ≤ 1000000000) (ht : -1000000000 ≤ t ∧ t ≤ 1000000000) {fu : Nat} (hf : 110 < fu) :
    ∃ (k : Nat) (b : Bool), slices_BinarySearchFunc_api_Parcel_api_Parcel_int_Take_1 fu l t = some ((k : Int), b) ∧ k ≤ l.length ∧ (∀ (j : Nat) x, j < k → l[j]? = some x → x.Seq < t) ∧ (∀ (j : Nat) x, k ≤ j → l[j]? = some x → t ≤ x.Seq) ∧ (b = true ↔ ∃ x ∈ l, x.Seq = t) := by
  have key : Tot (whileM (slices_BinarySearchFunc_api_Parcel_api_Parcel_int_Take_1_B0 l t) fu ((0 : Int), (l.length : Int))) fun o => ∃ (k : Nat) (j : Int), o = .inl ((k : Int), j) ∧ k ≤ l.length ∧ (∀ (j : Nat) x, j < k → l[j]? = some x → x.Seq < t) ∧ (∀ (j : Nat) x, k ≤ j → l[j]? = some x → t ≤ x.Seq) := by
    refine Tot.whileM (fun z => ∃ i j : Nat, z = ((i : Int), (j : Int)) ∧ i ≤ j ∧ j ≤ l.length ∧ (∀ (k : Nat) x, k < i → l[k]? = some x → x.Seq < t) ∧ ∀ (k : Nat) x, j ≤ k → l[k]? = some x → t ≤ x.Seq) (fun z => (z.2 - z.1).toNat)
      ⟨0, l.length, rfl, by omega, Nat.le_refl _, fun k x h => by omega, fun k x h hx => by have := (List.getElem?_eq_some_iff.1 hx).1; omega⟩ (by simp only; omega) ?_
    rintro _ ⟨i, j, rfl, h1, h2, h3, h4⟩
    unfold slices_BinarySearchFunc_api_Parcel_api_Parcel_int_Take_1_B0
    simp only
    rw [Tot.ite_iff]
    refine ⟨fun q => ?_, fun q => ?_⟩
    · have q : i < j := by simpa using q
      have hh : (i + j) / 2 < l.length := by omega
      have hx : l[(i + j) / 2]? = some l[(i + j) / 2] := by simp [hh]
      generalize l[(i + j) / 2] = x at hx
      have hrx := hr x (List.mem_of_getElem? hx)
      rw [lmid_eq (by omega), lat_nat, hx, Option.bind_some]
      unfold lane_Take_1
      rw [Option.bind_some, w64_id (show -9223372036854775808 ≤ x.Seq - t by omega) (by omega), Tot.ite_iff]
      refine ⟨fun c => ?_, fun c => ?_⟩
      · have c : x.Seq - t < 0 := by simpa using c
        rw [Tot.some_iff]
        have e1 : w64 ((((i + j) / 2 : Nat) : Int) + 1) = (((i + j) / 2 + 1 : Nat) : Int) := by rw [w64_id (by omega) (by omega)]; rfl
        refine Tot.go_iff.2 ⟨⟨(i + j) / 2 + 1, j, by rw [e1], by omega, h2, fun k y hk hy => ?_, h4⟩, by rw [e1]; simp only; omega⟩
        by_cases e : k = (i + j) / 2
        · subst e; rw [hx] at hy; rw [← Option.some.inj hy]; omega
        · have := inc_at hinc (show k < (i + j) / 2 by omega) hy hx; omega
      · have c : ¬ x.Seq - t < 0 := by simpa using c
        rw [Tot.some_iff]
        refine Tot.go_iff.2 ⟨⟨i, (i + j) / 2, rfl, by omega, by omega, h3, fun k y hk hy => ?_⟩, by simp only; omega⟩
        by_cases e : k = (i + j) / 2
        · subst e; rw [hx] at hy; rw [← Option.some.inj hy]; omega
        · have := inc_at hinc (show (i + j) / 2 < k by omega) hx hy; omega
    · have q : ¬ i < j := by simpa using q
      have : i = j := by omega
      subst this
      rw [Tot.some_iff]
      exact Tot.brk_iff.2 ⟨i, _, rfl, h2, h3, h4⟩
  obtain ⟨o, e, k, j, rfl, h1, h2, h3⟩ := key
  unfold slices_BinarySearchFunc_api_Parcel_api_Parcel_int_Take_1
  rw [e, andThen_inl]
  simp only
  by_cases hk : k < l.length
  · have hx : l[k]? = some l[k] := by simp [hk]
    generalize l[k] = x at hx
    have hrx := hr x (List.mem_of_getElem? hx)
    rw [decide_eq_true (show (k : Int) < l.length by omega), cond_true, lat_nat, hx, Option.bind_some]
    unfold lane_Take_1
    rw [Option.bind_some, Option.bind_some, w64_id (show -9223372036854775808 ≤ x.Seq - t by omega) (by omega)]
    refine ⟨k, x.Seq - t == 0, rfl, h1, h2, h3, ?_⟩
    rw [beq_iff_eq]
    constructor
    · intro q; exact ⟨x, List.mem_of_getElem? hx, by omega⟩
    · rintro ⟨y, hy, q⟩
      obtain ⟨m, hm⟩ := List.getElem?_of_mem hy
      rcases Nat.lt_trichotomy m k with c | c | c
      · have := h2 m y c hm; omega
      · subst c; rw [hx] at hm; rw [Option.some.inj hm]; omega
      · have := inc_at hinc c hx hm
        have := h3 k x (Nat.le_refl _) hx
        omega
  · rw [decide_eq_false (show ¬ (k : Int) < l.length by omega), cond_false]
    refine ⟨k, false, rfl, h1, h2, h3, ?_⟩
    constructor
    · intro q; cases q
    · rintro ⟨y, hy, q⟩
      obtain ⟨m, hm⟩ := List.getElem?_of_mem hy
      have := (List.getElem?_eq_some_iff.1 hm).1
      have := h2 m y (by omega) hm
      omega

/-! ### What is told -/
def tl (f : Int → Option Str) (a : Int) (k : Nat) : List Str := (List.range k).map fun j : Nat => (f (a + j)).getD []
theorem tl_succ {f : Int → Option Str} {a : Int} {k : Nat} : tl f a (k + 1) = tl f a k ++ [(f (a + k)).getD []] := by
  unfold tl; rw [List.range_succ, List.map_append]; rfl
theorem tl_len {f : Int → Option Str} {a : Int} {k : Nat} : (tl f a k).length = k := by simp [tl]
theorem code_told {f : Int → Option Str} {N : Int} {E : List Parcel} {fu : Nat} (hN : 0 ≤ N ∧ N ≤ 1000000000) (hE : E.Pairwise SLt) (hR : Rep f (N + 1) E) (hlen : E.length ≤ 16) (h0 : (f N).isSome = true) (hf : 40 < fu) :
    ∃ (k : Nat) (E' : List Parcel), whileM lane_Take_B1 fu ((⟨N + 1, E⟩ : To), tl f N 1, E) = some (.inl ((⟨N + k, E'⟩ : To), tl f N k, E')) ∧ (∀ j : Nat, j < k → (f (N + j)).isSome = true) ∧ f (N + k) = none ∧ E'.Pairwise SLt ∧ Rep f (N + k) E' ∧ E'.length ≤ 16 ∧ k ≤ 17 ∧ ∀ x ∈ E', x ∈ E := by
  have key : Tot (whileM lane_Take_B1 fu ((⟨N + 1, E⟩ : To), tl f N 1, E)) fun o => ∃ (k : Nat) (E' : List Parcel), o = .inl ((⟨N + k, E'⟩ : To), tl f N k, E') ∧ (∀ j : Nat, j < k → (f (N + j)).isSome = true) ∧ f (N + k) = none ∧ E'.Pairwise SLt ∧ Rep f (N + k) E' ∧ E'.length ≤ 16 ∧ k ≤ 17 ∧ ∀ x ∈ E', x ∈ E := by
    refine Tot.whileM (fun z => ∃ (k : Nat) (E' : List Parcel) (y : List Parcel), z = ((⟨N + k, y⟩ : To), tl f N k, E') ∧ (∀ j : Nat, j < k → (f (N + j)).isSome = true) ∧ E'.Pairwise SLt ∧ Rep f (N + k) E' ∧ (E'.length + k ≤ E.length + 1 ∧ 1 ≤ k) ∧ ∀ x ∈ E', x ∈ E) (fun z => z.2.2.length)
      ⟨1, E, E, rfl, fun j hj => ?_, hE, hR, ⟨Nat.le_refl _, Nat.le_refl _⟩, fun x h => h⟩ (by simp only; omega) ?_
    · have : j = 0 := by omega
      subst this; simpa using h0
    · rintro _ ⟨k, E', y, rfl, h1, h2, h3, h4, h5⟩
      unfold lane_Take_B1
      simp only
      have stop : f (N + k) = none → Tot (some (Ctl.brk (({ (⟨N + k, y⟩ : To) with Early := E' } : To), tl f N k, E')) : Option (Ctl (To × List Str × List Parcel) (To × List Str × Int))) (Tot.CtlOk (fun s' => (∃ (k : Nat) (E' : List Parcel) (y : List Parcel), s' = ((⟨N + k, y⟩ : To), tl f N k, E') ∧ (∀ j : Nat, j < k → (f (N + j)).isSome = true) ∧ E'.Pairwise SLt ∧ Rep f (N + k) E' ∧ (E'.length + k ≤ E.length + 1 ∧ 1 ≤ k) ∧ ∀ x ∈ E', x ∈ E) ∧ s'.2.2.length < E'.length)
          (fun s => ∃ (k : Nat) (E' : List Parcel), (Sum.inl s : (To × List Str × List Parcel) ⊕ (To × List Str × Int)) = .inl ((⟨N + k, E'⟩ : To), tl f N k, E') ∧ (∀ j : Nat, j < k → (f (N + j)).isSome = true) ∧ f (N + k) = none ∧ E'.Pairwise SLt ∧ Rep f (N + k) E' ∧ E'.length ≤ 16 ∧ k ≤ 17 ∧ ∀ x ∈ E', x ∈ E)
          (fun t => ∃ (k : Nat) (E' : List Parcel), (Sum.inr t : (To × List Str × List Parcel) ⊕ (To × List Str × Int)) = .inl ((⟨N + k, E'⟩ : To), tl f N k, E') ∧ (∀ j : Nat, j < k → (f (N + j)).isSome = true) ∧ f (N + k) = none ∧ E'.Pairwise SLt ∧ Rep f (N + k) E' ∧ E'.length ≤ 16 ∧ k ≤ 17 ∧ ∀ x ∈ E', x ∈ E)) := fun hno => Tot.some_iff.2 (Tot.brk_iff.2 ⟨k, E', rfl, h1, hno, h2, h3, by omega, by omega, h5⟩)
      cases E' with
      | nil =>
        rw [show decide ((([] : List Parcel).length : Int) > 0) = false from rfl, cond_false, Option.bind_some, cond_false]
        refine stop ?_
        cases hg : f (N + k) with
        | none => rfl
        | some t => have := (h3 _ _).2 ⟨Int.le_refl _, hg⟩; cases this
      | cons x E2 =>
        have h2' := List.pairwise_cons.1 h2
        have hx : (x :: E2)[0]? = some x := rfl
        have el : lat (x :: E2) (0 : Int) = some x := lat_nat (x :: E2) 0
        rw [decide_eq_true (show ((x :: E2).length : Int) > 0 by simp only [List.length_cons]; omega), cond_true, el, Option.bind_some, Option.bind_some, Tot.ite_iff]
        have hxf := (h3 x.Seq x.Text).1 (by simp)
        refine ⟨fun c => ?_, fun c => ?_⟩
        · have c : x.Seq = N + k := by simpa using c
          have hg : f (N + k) = some x.Text := by rw [← c]; exact hxf.2
          have ec : cutL (x :: E2) 1 ((x :: E2).length : Int) = some E2 := by
            unfold cutL
            rw [if_pos (by simp; omega)]
            simp
          rw [Option.bind_some, room_ok (by have := h4.1; rw [tl_len]; simp at this ⊢; omega), Option.bind_some, ec, Option.bind_some, Tot.let_iff, Tot.some_iff, w64_id (show -9223372036854775808 ≤ N + (k : Int) + 1 by omega) (by have := h4.1; simp at this; omega)]
          refine Tot.go_iff.2 ⟨⟨k + 1, E2, E2, ?_, fun j hj => ?_, h2'.2, fun s t => ?_, ⟨by have := h4.1; simp at this; omega, by omega⟩, fun z hz => h5 z (List.mem_cons_of_mem _ hz)⟩, by simp⟩
          · rw [tl_succ, hg]; simp; omega
          · by_cases e : j = k
            · subst e; rw [hg]; rfl
            · exact h1 j (by omega)
          · constructor
            · intro hm
              have a1 : x.Seq < s := h2'.1 _ hm
              exact ⟨by push_cast; omega, ((h3 s t).1 (List.mem_cons_of_mem _ hm)).2⟩
            · rintro ⟨a, b⟩
              have hm := (h3 s t).2 ⟨by push_cast at a; omega, b⟩
              rcases List.mem_cons.1 hm with e | e
              · rw [← e] at c; simp only at c; push_cast at a; omega
              · exact e
        · have c : ¬ x.Seq = N + k := by simpa using c
          refine stop ?_
          cases hg : f (N + k) with
          | none => rfl
          | some t =>
            have hm := (h3 _ _).2 ⟨Int.le_refl _, hg⟩
            rcases List.mem_cons.1 hm with e | e
            · rw [← e] at c; exact absurd rfl c
            · have a1 : x.Seq < N + k := h2'.1 _ e
              have := hxf.1
              omega
  obtain ⟨o, e, k, E', rfl, h1⟩ := key
  exact ⟨k, E', e, h1⟩

/-! ### All together -/
theorem insert_inc {l : List Parcel} {p : Parcel} {k : Nat} (h : l.Pairwise SLt) (hk : k ≤ l.length) (h1 : ∀ (j : Nat) x, j < k → l[j]? = some x → x.Seq < p.Seq) (h2 : ∀ (j : Nat) x, k ≤ j → l[j]? = some x → p.Seq < x.Seq) :
    (l.take k ++ [p] ++ l.drop k).Pairwise SLt ∧ ∀ x, x ∈ l.take k ++ [p] ++ l.drop k ↔ x ∈ l ∨ x = p := by
  have hd : (l.take k ++ l.drop k).Pairwise SLt := by rw [List.take_append_drop]; exact h
  have hd := List.pairwise_append.1 hd
  refine ⟨?_, fun x => ?_⟩
  · rw [List.append_assoc, List.pairwise_append]
    refine ⟨hd.1, ?_, fun a ha b hb => ?_⟩
    · rw [List.singleton_append, List.pairwise_cons]
      refine ⟨fun b hb => ?_, hd.2.1⟩
      obtain ⟨j, hj⟩ := List.getElem?_of_mem hb
      rw [List.getElem?_drop] at hj
      exact h2 _ b (by omega) hj
    · rcases List.mem_append.1 hb with hb | hb
      · rw [List.mem_singleton.1 hb]
        obtain ⟨j, hj⟩ := List.getElem?_of_mem ha
        have hji : j < k := by have := (List.getElem?_eq_some_iff.1 hj).1; simp at this; omega
        rw [List.getElem?_take, if_pos hji] at hj
        exact h1 j a hji hj
      · exact hd.2.2 a ha b hb
  · have : x ∈ l ↔ x ∈ l.take k ∨ x ∈ l.drop k := by
      conv => lhs; rw [← List.take_append_drop k l]
      exact List.mem_append
    rw [this, List.mem_append, List.mem_append, List.mem_singleton]
    constructor
    · rintro ((a | a) | a)
      · exact .inl (.inl a)
      · exact .inr a
      · exact .inl (.inr a)
    · rintro ((a | a) | a)
      · exact .inl (.inl a)
      · exact .inr a
      · exact .inl (.inr a)
theorem first_none {f : Int → Option Str} {N : Int} {k k' : Nat} (h1 : ∀ j : Nat, j < k → (f (N + j)).isSome = true) (h2 : f (N + k) = none) (g1 : ∀ j : Nat, j < k' → (f (N + j)).isSome = true) (g2 : f (N + k') = none) : k = k' := by
  rcases Nat.lt_trichotomy k k' with c | c | c
  · have := g1 k c; rw [h2] at this; cases this
  · exact c
  · have := h1 k' c; rw [g2] at this; cases this
/-- The receiver after a parcel. -/
structure Took (r : To) (p : Parcel) (o : To) (ts : List Str) : Prop where
  next : o.Next = r.Next + ts.length
  inc : o.Early.Pairwise SLt
  rng : ∀ x ∈ o.Early, o.Next < x.Seq ∧ x.Seq ≤ r.Next + 15 ∧ (x ∈ r.Early ∨ x = p)
  txt : ∀ x ∈ o.Early, x.Text.length ≤ 200
  len : o.Early.length ≤ 16
  from_ : ∀ (i : Nat) t, ts[i]? = some t → (⟨r.Next + i, t⟩ : Parcel) ∈ r.Early ∨ (⟨r.Next + i, t⟩ : Parcel) = p
theorem tl_get {f : Int → Option Str} {a : Int} {k i : Nat} {t : Str} (h : (tl f a k)[i]? = some t) (hs : ∀ j : Nat, j < k → (f (a + j)).isSome = true) : f (a + i) = some t := by
  have hi : i < k := by have := (List.getElem?_eq_some_iff.1 h).1; rwa [tl_len] at this
  unfold tl at h
  rw [List.getElem?_map, List.getElem?_range hi] at h
  simp only [Option.map_some, Option.some.injEq] at h
  have := hs i hi
  cases e : f (a + i) with
  | none => rw [e] at this; cases this
  | some u => rw [e] at h; simp at h; rw [h]
def fnd (l : List Parcel) (s : Int) : Option Str := (l.find? fun x => x.Seq == s).map (·.Text)
theorem fnd_iff {l : List Parcel} (h : l.Pairwise SLt) (s : Int) (t : Str) : fnd l s = some t ↔ (⟨s, t⟩ : Parcel) ∈ l := by
  unfold fnd
  constructor
  · intro q
    obtain ⟨y, hy, rfl⟩ := Option.map_eq_some_iff.1 q
    have := List.find?_some hy
    have e : y.Seq = s := by simpa using this
    subst e
    exact List.mem_of_find?_eq_some hy
  · intro hm
    cases hy : l.find? fun x => x.Seq == s with
    | none =>
      have := List.find?_eq_none.1 hy _ hm
      simp at this
    | some y =>
      have e : y.Seq = s := by simpa using List.find?_some hy
      have hym := List.mem_of_find?_eq_some hy
      obtain ⟨i, hi⟩ := List.getElem?_of_mem hm
      obtain ⟨j, hj⟩ := List.getElem?_of_mem hym
      rcases Nat.lt_trichotomy i j with c | c | c
      · have := inc_at h c hi hj; simp only at this; omega
      · subst c; rw [hi] at hj; rw [← Option.some.inj hj]; rfl
      · have := inc_at h c hj hi; simp only at this; omega
theorem inc_len {l : List Parcel} {a : Int} (h : l.Pairwise SLt) (hr : ∀ x ∈ l, a < x.Seq ∧ x.Seq ≤ a + 15) : l.length ≤ 15 := by
  have key : ∀ (i : Nat) x, l[i]? = some x → a + 1 + i ≤ x.Seq := by
    intro i
    induction i with
    | zero => intro x hx; have := hr x (List.mem_of_getElem? hx); push_cast; omega
    | succ i ih =>
      intro x hx
      have hi : i < l.length := by have := (List.getElem?_eq_some_iff.1 hx).1; omega
      have hy : l[i]? = some l[i] := by simp [hi]
      have := ih _ hy
      have := inc_at h (Nat.lt_succ_self i) hy hx
      push_cast; omega
  rcases Nat.lt_or_ge 15 l.length with c | c
  · have hy : l[15]? = some l[15] := by simp [c]
    have := key 15 _ hy
    have := hr _ (List.mem_of_getElem? hy)
    omega
  · exact c
theorem clone_parcels {l : List Parcel} (h : l.length ≤ 2 ^ 40) : slices_Clone_api_Parcel_api_Parcel l = some l := by
  unfold slices_Clone_api_Parcel_api_Parcel
  rw [room_ok (by simpa using h)]
  rfl
theorem take_code {r : To} {p : Parcel} {fu : Nat} (hfu : 200 < fu) (h : GoodT r) (hp : 0 ≤ p.Seq ∧ p.Seq ≤ 16777214) (ht : p.Text.length ≤ 200) :
    ∃ o ts, lane_Take fu r p = some (o, ts, 0) ∧ Took r p o ts ∧ (p.Seq = r.Next → 1 ≤ ts.length) ∧ ts.length ≤ 17 := by
  have hN : 0 ≤ r.Next ∧ r.Next ≤ 1000000000 := by have := h.lo; have := h.hi; omega
  have hN2 := h.hi
  have w16 : w64 (r.Next + 16) = r.Next + 16 := w64_id (by omega) (by omega)
  have hlen := h.len
  obtain ⟨k, b, eb, hk, hk1, hk2, hb⟩ := lbs_law (t := p.Seq) (fu := fu) h.inc (by omega) (fun x hx => by have := h.rng x hx; omega) (by omega) (by omega)
  unfold lane_Take
  rw [to_ok h, Option.bind_some]
  simp only [bne_self_eq_false, cond_false]
  rw [lin_eq, Option.bind_some, decide_eq_true (show p.Seq ≥ 0 by omega), decide_eq_true (show p.Seq ≤ 16777214 by omega)]
  unfold lane_long
  simp only [Bool.and_self, Bool.not_true, cond_false, Option.bind_some]
  rw [decide_eq_false (show ¬ (p.Text.length : Int) > 200 by omega), cond_false, clone_parcels (by omega), Option.bind_some]
  simp only [Let]
  rw [eb, Option.bind_some, or_some, Option.bind_some, or_some, Option.bind_some, w16]
  by_cases hin : r.Next ≤ p.Seq ∧ p.Seq < r.Next + 16 ∧ b = false
  · obtain ⟨i1, i2, rfl⟩ := hin
    rw [decide_eq_false (show ¬ p.Seq < r.Next by omega), decide_eq_false (show ¬ p.Seq ≥ r.Next + 16 by omega)]
    simp only [Bool.or_self, cond_false]
    have hno : ∀ t, (⟨p.Seq, t⟩ : Parcel) ∉ r.Early := fun t q => by
      have := hb.2 ⟨_, q, rfl⟩; cases this
    by_cases c : p.Seq > r.Next
    · rw [decide_eq_true c, cond_true]
      have ei : slices_Insert_api_Parcel_api_Parcel r.Early (k : Int) [p] = some (r.Early.take k ++ [p] ++ r.Early.drop k) := by
        unfold slices_Insert_api_Parcel_api_Parcel
        have ec : ∃ x, cutL r.Early (k : Int) (r.Early.length : Int) = some x := ⟨_, by unfold cutL; rw [if_pos (by omega)]⟩
        obtain ⟨x, ec⟩ := ec
        rw [ec, Option.bind_some, room_ok (by simp; omega), Option.bind_some, Int.toNat_natCast]
      obtain ⟨n1, n2⟩ := insert_inc (p := p) h.inc hk hk1 (fun j x hj hx => by
        have := hk2 j x hj hx
        have hne : x.Seq ≠ p.Seq := fun e => by
          have := hb.2 ⟨x, List.mem_of_getElem? hx, e⟩; cases this
        omega)
      rw [ei, Option.bind_some]
      have hrg : ∀ x ∈ r.Early.take k ++ [p] ++ r.Early.drop k, r.Next < x.Seq ∧ x.Seq ≤ r.Next + 15 := fun x hx => by
        rcases (n2 x).1 hx with y | y
        · exact h.rng x y
        · subst y; omega
      refine ⟨⟨r.Next, r.Early.take k ++ [p] ++ r.Early.drop k⟩, [], rfl, ⟨by simp, n1, fun x hx => ⟨(hrg x hx).1, (hrg x hx).2, (n2 x).1 hx⟩, fun x hx => ?_, ?_, fun i t hi => by simp at hi⟩, fun e => by omega, by simp⟩
      · rcases (n2 x).1 hx with y | y
        · exact h.txt x y
        · subst y; exact ht
      · have := inc_len n1 hrg; simp only; omega
    · have hpN : p.Seq = r.Next := by omega
      rw [decide_eq_false c, cond_false, w64_id (show -9223372036854775808 ≤ r.Next + 1 by omega) (by omega)]
      obtain ⟨f, hf⟩ : ∃ f : Int → Option Str, f = fun s => if s = p.Seq then some p.Text else fnd r.Early s := ⟨_, rfl⟩
      have hmm : ∀ s t, f s = some t ↔ (⟨s, t⟩ : Parcel) ∈ r.Early ∨ (⟨s, t⟩ : Parcel) = p := fun s t => by
        rw [hf]
        simp only
        by_cases e : s = p.Seq
        · subst e
          rw [if_pos rfl]
          constructor
          · intro q; right; rw [← Option.some.inj q]
          · rintro (q | q)
            · exact absurd q (hno t)
            · rw [← q]
        · rw [if_neg e, fnd_iff h.inc]
          constructor
          · exact .inl
          · rintro (q | q)
            · exact q
            · rw [← q] at e; exact absurd rfl e
      have hf0 : f r.Next = some p.Text := by rw [hf]; simp only; rw [if_pos hpN.symm]
      obtain ⟨q', E', c1, c2, c3, c4, c5, c6, c7, c8⟩ := code_told (f := f) (N := r.Next) (E := r.Early) (fu := fu) hN h.inc (fun s t => by
        rw [hmm s t]
        constructor
        · intro x; have := h.rng _ x; simp only at this; exact ⟨by omega, .inl x⟩
        · rintro ⟨a, x | x⟩
          · exact x
          · rw [← x] at hpN; simp only at hpN; omega) hlen (by rw [hf0]; rfl) (by omega)
      have e1 : tl f r.Next 1 = [p.Text] := by simp [tl, hf0]
      rw [e1] at c1
      have c1' : whileM lane_Take_B1 fu (({ To.zero with Next := r.Next + 1, Early := r.Early } : To), ([p.Text] : List Str), r.Early) = some (.inl ((⟨r.Next + q', E'⟩ : To), tl f r.Next q', E')) := c1
      rw [c1', andThen_inl]
      simp only
      rw [clone_parcels (by omega), Option.bind_some]
      have hq : 1 ≤ q' := by
        rcases Nat.eq_zero_or_pos q' with e | e
        · subst e; simp [hf0] at c3
        · exact e
      refine ⟨⟨r.Next + q', E'⟩, tl f r.Next q', rfl, ⟨by rw [tl_len], c4, fun x hx => ?_, fun x hx => h.txt x (c8 x hx), c6, fun i t hi => (hmm _ _).1 (tl_get hi c2)⟩, fun _ => by rw [tl_len]; exact hq, by rw [tl_len]; exact c7⟩
      have a1 := (c5 x.Seq x.Text).1 hx
      have a2 := h.rng x (c8 x hx)
      have a3 : x.Seq ≠ r.Next + q' := fun y => by have := a1.2; rw [y, c3] at this; cases this
      exact ⟨by simp only; omega, a2.2, .inl (c8 x hx)⟩
  · have e1 : ((decide (p.Seq < r.Next) || decide (p.Seq ≥ r.Next + 16)) || b) = true := by
      cases b
      · simp only [Bool.or_false, Bool.or_eq_true, decide_eq_true_eq]
        have : ¬ (r.Next ≤ p.Seq ∧ p.Seq < r.Next + 16) := fun x => hin ⟨x.1, x.2, rfl⟩
        omega
      · simp
    rw [e1, cond_true]
    refine ⟨⟨r.Next, r.Early⟩, [], rfl, ⟨by simp, h.inc, fun x hx => ?_, h.txt, hlen, fun i t hi => by simp at hi⟩, fun e => ?_, by simp⟩
    · have := h.rng x hx
      exact ⟨this.1, this.2, .inl hx⟩
    · cases b with
      | false => exact absurd ⟨by omega, by omega, rfl⟩ hin
      | true =>
        obtain ⟨x, hx, q⟩ := hb.1 rfl
        have := h.rng x hx
        omega
end Go.Proofs.YtchmclllcdknjaaGreatDoor
