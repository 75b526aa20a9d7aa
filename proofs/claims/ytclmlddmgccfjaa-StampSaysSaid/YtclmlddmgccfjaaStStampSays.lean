/-
  StampSays: the plain law.
-/
import Derived.Test.YtclmlddmgccfjaaStLib
import Derived.Test.YtclmlddmgccfjaaStStampTotal
import Derived.Test.YtclmlddmgccfjaaStStamps
namespace Go.Proofs.Ytclmlddmgccfjaa
open Enc

/-! ### The reference's numbers -/
theorem stamps_snoc {h : List Event} {j : Nat} {s : List Int} {t : Int} (hs : IsStamps h j s) (ht : 1 ≤ t ∧ t ≤ j + 1) (hup : ∀ (i : Nat) a, s[i]? = some a → Hb h i j → a < t) (hat : t = 1 ∨ ∃ (i : Nat) (a : Int), s[i]? = some a ∧ Hb h i j ∧ t = a + 1) : IsStamps h (j + 1) (s ++ [t]) := by
  obtain ⟨h1, h2, h3, h4⟩ := hs
  have get : ∀ (k : Nat) a, (s ++ [t])[k]? = some a → (k < j ∧ s[k]? = some a) ∨ (k = j ∧ a = t) := by
    intro k a hk
    rcases Nat.lt_trichotomy k j with e | e | e
    · rw [List.getElem?_append_left (by omega)] at hk; exact .inl ⟨e, hk⟩
    · subst e; rw [← h1] at hk; simp at hk; exact .inr ⟨rfl, hk.symm⟩
    · rw [List.getElem?_eq_none (by simp; omega)] at hk; cases hk
  have back : ∀ (k : Nat) a, s[k]? = some a → (s ++ [t])[k]? = some a := fun k a hk => by rw [List.getElem?_append_left (List.getElem?_eq_some_iff.1 hk).1]; exact hk
  refine ⟨by simp [h1], fun k a hk => ?_, fun i k a b hi hk hh => ?_, fun k a hk => ?_⟩
  · rcases get k a hk with ⟨e, q⟩ | ⟨rfl, rfl⟩
    · exact h2 k a q
    · exact ht
  · rcases get k b hk with ⟨e, q⟩ | ⟨rfl, rfl⟩
    · rcases get i a hi with ⟨e', q'⟩ | ⟨rfl, rfl⟩
      · exact h3 i k a b q' q hh
      · have := hh.lt; omega
    · rcases get i a hi with ⟨e', q'⟩ | ⟨rfl, rfl⟩
      · exact hup i a q' hh
      · have := hh.lt; omega
  · rcases get k a hk with ⟨e, q⟩ | ⟨rfl, rfl⟩
    · exact (h4 k a q).imp id fun ⟨i, b, q1, q2⟩ => ⟨i, b, back i b q1, q2⟩
    · exact hat.imp id fun ⟨i, b, q1, q2⟩ => ⟨i, b, back i b q1, q2⟩
theorem refstamps_law {h : List Event} {fu : Nat} (hr : Right h) (hfu : 100 ≤ fu) (hfu2 : fu ≤ 2 ^ 30) : Tot (partref_Stamps fu h) (IsStamps h h.length) := by
  have hlen := hr.1
  unfold partref_Stamps
  rw [Tot.bind_iff]
  refine (causes_law hr.1 hfu hfu2).mono fun M hM => ?_
  rw [Tot.bind_iff, Tot.mkLen_iff]
  refine ⟨by omega, ?_⟩
  rw [Int.toNat_natCast, Tot.bind_iff]
  refine Tot.rangeF (fun k (z : List Int) => z.length = h.length ∧ IsStamps h k (z.take k)) ⟨by simp, rfl, fun k t hk => by simp at hk, fun i k a t hi => by simp at hi, fun k t hk => by simp at hk⟩ ?_ ?_
  · rintro k z _ hk ⟨h1, h2⟩
    have hk : k < h.length := by omega
    unfold partref_Stamps_B0
    rw [lat_lt (by omega), Option.bind_some, Tot.let_iff, Int.toNat_natCast, Tot.bind_iff, Tot.upTo_iff]
    refine ⟨by omega, ?_⟩
    rw [Int.toNat_natCast, Tot.bind_iff]
    have hz : ∀ (i : Nat) a, i < k → (z[i]? = some a ↔ (z.take k)[i]? = some a) := fun i a hi => by rw [List.getElem?_take, if_pos hi]
    refine Tot.rangeF (fun i (y : List Int) => ∃ t : Int, y = z.set k t ∧ 1 ≤ t ∧ t ≤ k + 1 ∧ (∀ (l : Nat) a, l < i → z[l]? = some a → Hb h l k → a < t) ∧ (t = 1 ∨ ∃ (l : Nat) (a : Int), l < k ∧ z[l]? = some a ∧ Hb h l k ∧ t = a + 1)) ⟨1, rfl, by omega, by omega, fun l a hl => by omega, .inl rfl⟩ ?_ ?_
    · rintro i _ _ hi ⟨t, rfl, t1, t2, t3, t4⟩
      have hi : i < k := by omega
      obtain ⟨m1, m2⟩ := hM
      have hiM : i < M.length := by omega
      obtain ⟨m3, m4⟩ := m2 i M[i] (by simp [hiM])
      have hkM : k < M[i].length := by omega
      unfold partref_Stamps_B2
      rw [lat_i hiM, Option.bind_some, lat_i hkM, Option.bind_some]
      have m5 := m4 k
      rw [List.getElem?_eq_getElem hkM, Option.some.injEq] at m5
      have hiz : i < z.length := by omega
      have ez : z[i]? = some z[i] := by simp [hiz]
      rw [Tot.ite_iff]
      refine ⟨fun q => ?_, fun q => ?_⟩
      · have hh := m5.1 q
        have e1 : lat (z.set k t) (k : Int) = some t := by rw [lat_nat, List.getElem?_set_self (by omega)]
        have e2 : lat (z.set k t) (i : Int) = some z[i] := by rw [lat_nat, List.getElem?_set_ne (by omega), ez]
        have lo := h2.lo i z[i] ((hz i _ hi).1 ez)
        rw [e1, Option.bind_some, e2, Option.bind_some, Option.bind_some, Tot.let_iff, Tot.some_iff, w64_id (by omega) (by omega), Int.toNat_natCast, List.set_set]
        refine ⟨_, rfl, by omega, by omega, fun l a hl ha hb => ?_, ?_⟩
        · by_cases e : l = i
          · subst e
            rw [ez] at ha
            obtain rfl := Option.some.inj ha
            omega
          · have := t3 l a (by omega) ha hb; omega
        · rcases Int.le_total t (z[i] + 1) with e | e
          · rw [Int.max_eq_right e]; exact .inr ⟨i, _, hi, ez, hh, rfl⟩
          · rw [Int.max_eq_left e]; exact t4
      · rw [Tot.some_iff]
        refine ⟨t, rfl, t1, t2, fun l a hl ha hb => ?_, t4⟩
        by_cases e : l = i
        · subst e; rw [m5.2 hb] at q; cases q
        · exact t3 l a (by omega) ha hb
    · rintro _ ⟨t, rfl, t1, t2, t3, t4⟩
      rw [Tot.some_iff]
      rw [Nat.zero_add] at t3
      refine ⟨by simpa using h1, ?_⟩
      have e : (z.set k t).take (k + 1) = z.take k ++ [t] := by
        rw [List.take_add_one, List.take_set_of_le (Nat.le_refl _), List.getElem?_set_self (by omega)]; rfl
      rw [e]
      exact stamps_snoc h2 ⟨t1, t2⟩ (fun i a ha hb => t3 i a hb.lt ((hz i a hb.lt).2 ha) hb) (t4.imp id fun ⟨l, a, l1, l2, l3⟩ => ⟨l, a, (hz l a l1).1 l2, l3⟩)
  · rintro z ⟨h1, h2⟩
    rw [Tot.some_iff]
    rw [Nat.zero_add, List.take_of_length_le (by omega)] at h2
    exact h2

/-! ### Order, once -/
theorem pw_unique {α : Type} {R : α → α → Prop} (hR : ∀ x y, R x y → R y x → False) : ∀ {l m : List α}, l.Pairwise R → m.Pairwise R → (∀ x, x ∈ l ↔ x ∈ m) → l = m
  | [], [], _, _, _ => rfl
  | [], b :: m, _, _, h => by have := (h b).2 (by simp); simp at this
  | a :: l, [], _, _, h => by have := (h a).1 (by simp); simp at this
  | a :: l, b :: m, h1, h2, h => by
    rw [List.pairwise_cons] at h1 h2
    have e : a = b := by
      have k1 := (h a).1 (by simp)
      have k2 := (h b).2 (by simp)
      rw [List.mem_cons] at k1 k2
      rcases k1 with k1 | k1
      · exact k1
      · rcases k2 with k2 | k2
        · exact k2.symm
        · exact (hR a b (h1.1 b k2) (h2.1 a k1)).elim
    subst e
    congr 1
    refine pw_unique hR h1.2 h2.2 fun x => ?_
    constructor
    · intro hx
      have := (h x).1 (by simp [hx])
      rw [List.mem_cons] at this
      rcases this with rfl | q
      · exact (hR x x (h1.1 x hx) (h1.1 x hx)).elim
      · exact q
    · intro hx
      have := (h x).2 (by simp [hx])
      rw [List.mem_cons] at this
      rcases this with rfl | q
      · exact (hR x x (h2.1 x hx) (h2.1 x hx)).elim
      · exact q
section
variable {s : List Int} {h : List Event}
theorem elt_irr {x y : Int} (h1 : elt s h x y = true) (h2 : elt s h y x = true) : False := by
  rw [elt_asymm h1] at h2; cases h2
theorem elt_total (_ : Right h) (hs : IsStamps h h.length s) {x y : Int} (hx : InH s h x) (hy : InH s h y) (hn : x ≠ y) : elt s h x y = true ∨ elt s h y x = true := by
  obtain ⟨x0, x1, x2⟩ := hx
  obtain ⟨y0, y1, y2⟩ := hy
  obtain ⟨i, rfl⟩ := int_nat x0
  obtain ⟨j, rfl⟩ := int_nat y0
  simp only [Int.toNat_natCast] at x1 x2 y1 y2
  have e1 : kst s (i : Int) = s[i] := by simp [kst, x1]
  have e2 : kst s (j : Int) = s[j] := by simp [kst, y1]
  have e3 : kpr h (i : Int) = h[i].Proc := by simp [kpr, x2]
  have e4 : kpr h (j : Int) = h[j].Proc := by simp [kpr, y2]
  unfold elt
  rw [e1, e2, e3, e4]
  simp only [decide_eq_true_eq]
  have key : ¬ (s[i] = s[j] ∧ h[i].Proc = h[j].Proc) := by
    rintro ⟨k1, k2⟩
    rcases Nat.lt_or_gt_of_ne (show i ≠ j by omega) with k | k
    · have := hs.up i j s[i] s[j] (by simp [x1]) (by simp [y1]) (.single ⟨k, h[i], h[j], by simp [x2], by simp [y2], .inl k2⟩)
      omega
    · have := hs.up j i s[j] s[i] (by simp [y1]) (by simp [x1]) (.single ⟨k, h[j], h[i], by simp [y2], by simp [x2], .inl k2.symm⟩)
      omega
  omega
def idxs (n : Nat) : List Int := (List.range n).map fun i : Nat => (i : Int)
theorem mem_idxs {n : Nat} {x : Int} : x ∈ idxs n ↔ 0 ≤ x ∧ x.toNat < n := by
  unfold idxs
  simp only [List.mem_map, List.mem_range]
  constructor
  · rintro ⟨i, hi, rfl⟩; omega
  · rintro ⟨h1, h2⟩; exact ⟨x.toNat, h2, by omega⟩
theorem idxs_nodup (n : Nat) : (idxs n).Nodup := by
  unfold idxs List.Nodup
  rw [List.pairwise_map]
  exact List.Pairwise.imp (fun h => by omega) (List.pairwise_lt_range (n := n))
theorem idxs_len (n : Nat) : (idxs n).length = n := by simp [idxs]
theorem idxs_succ (n : Nat) : idxs (n + 1) = idxs n ++ [(n : Int)] := by simp [idxs, List.range_succ]
structure Ordd (s : List Int) (h : List Event) (z : List Int) : Prop where
  inn : ∀ x ∈ z, InH s h x
  pw : z.Pairwise fun x y => elt s h x y = true
  all : ∀ x, InH s h x → x ∈ z
theorem Ordd.one {z y : List Int} (h1 : Ordd s h z) (h2 : Ordd s h y) : z = y :=
  pw_unique (fun _ _ => elt_irr) h1.pw h2.pw fun x => ⟨fun q => h2.all x (h1.inn x q), fun q => h1.all x (h2.inn x q)⟩
theorem pw_nodup {z : List Int} (hz : z.Pairwise fun x y => elt s h x y = true) : z.Nodup := by
  unfold List.Nodup
  refine hz.imp fun {x y} k e => ?_
  subst e
  exact elt_irr k k
theorem total_law {fu : Nat} (hr : Right h) (hfu : 400 ≤ fu) : Tot (stamp_Total fu h) fun r => r.2 = 0 ∧ ∃ s, IsStamps h h.length s ∧ Ordd s h r.1 := by
  have hlen := hr.1
  unfold stamp_Total
  rw [Tot.bind_iff]
  refine (stamps_law hr).mono ?_
  rintro ⟨s, e⟩ ⟨rfl, hs⟩
  simp only at hs
  simp only [bne_self_eq_false, cond_false]
  rw [Tot.bind_iff]
  refine Tot.rangeF (fun i z => z = idxs i) rfl ?_ ?_
  · rintro i _ _ hi rfl
    unfold stamp_Total_B0
    rw [room_ok (by rw [idxs_len]; simp; omega), Option.bind_some, idxs_succ]
    exact Tot.some_iff.2 rfl
  · rintro _ rfl
    rw [Nat.zero_add, Tot.bind_iff]
    have hin : ∀ x, InH s h x ↔ x ∈ idxs h.length := fun x => by rw [mem_idxs, InH, hs.len]; omega
    unfold slices_SortStableFunc_int_int_Total_1
    rw [Tot.bind_iff, idxs_len]
    refine (stable_law (s := s) (h := h) (fu := fu) (n := h.length) (l := idxs h.length) (idxs_len _).symm hlen hfu (fun x hx => (hin x).2 hx)).mono fun r hr1 => ?_
    rw [Tot.some_iff, Tot.some_iff]
    refine ⟨rfl, s, hs, fun x hx => (hin x).2 (hr1.1.mem.1 hx), ?_, fun x hx => hr1.1.mem.2 ((hin x).1 hx)⟩
    have hnd := hr1.1.nodup (idxs_nodup _)
    have hl := hr1.1.len
    rw [idxs_len] at hl
    unfold List.Nodup at hnd
    simp only
    rw [List.pairwise_iff_getElem] at hnd ⊢
    intro i j hi hj hij
    have k1 := hr1.2 i j r[i] r[j] (by omega) hij (by omega) (by simp [hi]) (by simp [hj])
    rcases elt_total hr hs ((hin _).2 (hr1.1.mem.1 (List.getElem_mem hi))) ((hin _).2 (hr1.1.mem.1 (List.getElem_mem hj))) (hnd i j hi hj hij) with k2 | k2
    · exact k2
    · rw [k1] at k2; cases k2
theorem reftotal_law {fu : Nat} (hr : Right h) (hs : IsStamps h h.length s) (hfu : 100 ≤ fu) (hfu2 : fu ≤ 2 ^ 30) : Tot (partref_Total fu h) (Ordd s h) := by
  have hlen := hr.1
  unfold partref_Total
  rw [Tot.bind_iff]
  refine (refstamps_law hr hfu hfu2).mono fun s' hs' => ?_
  obtain rfl := hs'.one hs
  have hsl := hs.len
  have hin : ∀ x, InH s' h x ↔ x ∈ idxs h.length := fun x => by rw [mem_idxs, InH, hs.len]; omega
  rw [Tot.andThen_iff]
  refine (Tot.whileM (fun z : List Int => (∀ x ∈ z, InH s' h x) ∧ z.Pairwise (fun x y => elt s' h x y = true) ∧ ∀ x ∈ z, ∀ y, InH s' h y → y ∉ z → elt s' h x y = true) (fun z => h.length - z.length) (Q := fun o => ∃ z, o = .inl z ∧ Ordd s' h z) ⟨fun x hx => by simp at hx, .nil, fun x hx => by simp at hx⟩ (by simp; omega) ?_).mono ?_
  · rintro z ⟨h1, h2, h3⟩
    have hnd := pw_nodup h2
    have hsub : z.length ≤ h.length := by
      have := List.Nodup.length_le_of_subset hnd (l₂ := idxs h.length) fun x hx => (hin x).1 (h1 x hx)
      rwa [idxs_len] at this
    unfold partref_Total_B0
    rw [Tot.ite_iff]
    refine ⟨fun q => ?_, fun q => ?_⟩
    · have q : z.length < h.length := by simpa using q
      rw [Tot.bind_iff]
      refine Tot.rangeF (fun j (y : Int) => (y = -1 ∧ ∀ i : Nat, i < j → (i : Int) ∈ z) ∨ (∃ b : Nat, y = (b : Int) ∧ b < j ∧ (b : Int) ∉ z ∧ ∀ i : Nat, i < j → (i : Int) ∉ z → i = b ∨ elt s' h (b : Int) (i : Int) = true)) (.inl ⟨rfl, fun i hi => by omega⟩) ?_ ?_
      · rintro j y _ hj hI
        have hj : j < h.length := by omega
        unfold partref_Total_B2
        rw [eq_slices_Contains_int_int, Option.bind_some]
        by_cases c : (j : Int) ∈ z
        · rw [List.contains_iff_mem.2 c, Bool.not_true, cond_false, Option.bind_some, cond_false, Tot.some_iff]
          rcases hI with ⟨rfl, k⟩ | ⟨b, rfl, b1, b2, b3⟩
          · refine .inl ⟨rfl, fun i hi => ?_⟩
            by_cases e : i = j
            · subst e; exact c
            · exact k i (by omega)
          · refine .inr ⟨b, rfl, by omega, b2, fun i hi hiz => ?_⟩
            by_cases e : i = j
            · subst e; exact absurd c hiz
            · exact b3 i (by omega) hiz
        · have c' : z.contains (j : Int) = false := by rw [Bool.eq_false_iff]; intro k; exact c (List.contains_iff_mem.1 k)
          rw [c', Bool.not_false, cond_true]
          rcases hI with ⟨rfl, k⟩ | ⟨b, rfl, b1, b2, b3⟩
          · rw [show decide ((-1 : Int) < 0) = true from rfl, cond_true, Option.bind_some, cond_true, Option.bind_some, Option.bind_some, cond_true, Tot.some_iff]
            refine .inr ⟨j, rfl, by omega, c, fun i hi hiz => ?_⟩
            by_cases e : i = j
            · exact .inl e
            · exact absurd (k i (by omega)) hiz
          · have hjs : j < s'.length := by omega
            have hbs : b < s'.length := by omega
            have hbh : b < h.length := by omega
            rw [decide_eq_false (show ¬ (b : Int) < 0 by omega), cond_false, lat_i hjs, lat_i hbs, lat_i hj, lat_i hbh]
            simp only [Option.bind_some]
            have ee : elt s' h (j : Int) (b : Int) = (decide (s'[j] < s'[b]) || ((s'[j] == s'[b]) && decide (h[j].Proc < h[b].Proc))) := by
              unfold elt kst kpr
              simp only [Int.toNat_natCast, List.getElem?_eq_getElem hjs, List.getElem?_eq_getElem hbs, List.getElem?_eq_getElem hj, List.getElem?_eq_getElem hbh, Option.getD_some, Option.map_some]
              rw [Bool.eq_iff_iff]
              simp
            rw [and_some]
            simp only [Option.bind_some]
            rw [or_some, Option.bind_some, Option.bind_some, ← ee]
            have inj : InH s' h (j : Int) := ⟨by omega, by simpa using hjs, by simpa using hj⟩
            have inb : InH s' h (b : Int) := ⟨by omega, by simpa using hbs, by simpa using hbh⟩
            rw [Tot.ite_iff]
            refine ⟨fun k => Tot.some_iff.2 (.inr ⟨j, rfl, by omega, c, fun i hi hiz => ?_⟩), fun k => Tot.some_iff.2 (.inr ⟨b, rfl, by omega, b2, fun i hi hiz => ?_⟩)⟩
            · by_cases e : i = j
              · exact .inl e
              · rcases b3 i (by omega) hiz with rfl | b4
                · exact .inr k
                · refine .inr ?_
                  have ini : InH s' h (i : Int) := ⟨by omega, by simp; omega, by simp; omega⟩
                  rcases elt_total hr hs inj ini (by omega) with k2 | k2
                  · exact k2
                  · have k3 := elt_asymm b4
                    have k4 := elt_asymm k2
                    have := elt_trans (elt_asymm k) k3
                    rw [k2] at this; cases this
            · by_cases e : i = j
              · subst e
                rcases elt_total hr hs inj inb (by omega) with k2 | k2
                · rw [k] at k2; cases k2
                · exact .inr k2
              · exact b3 i (by omega) hiz
      · rintro y hI
        rw [Nat.zero_add] at hI
        rcases hI with ⟨rfl, k⟩ | ⟨b, rfl, b1, b2, b3⟩
        · exfalso
          have := List.Nodup.length_le_of_subset (idxs_nodup h.length) (l₂ := z) fun x hx => by
            obtain ⟨x0, x1⟩ := mem_idxs.1 hx
            have := k x.toNat x1
            rwa [Int.toNat_of_nonneg x0] at this
          rw [idxs_len] at this
          omega
        · have inb : InH s' h (b : Int) := ⟨by omega, by simp; omega, by simp; omega⟩
          rw [room_ok (by simp; omega), Option.bind_some, Tot.some_iff]
          refine ⟨⟨fun x hx => ?_, ?_, fun x hx y hy hyz => ?_⟩, by simp; omega⟩
          · rcases List.mem_append.1 hx with hx | hx
            · exact h1 x hx
            · rw [List.mem_singleton.1 hx]; exact inb
          · rw [List.pairwise_append]
            exact ⟨h2, .cons (by simp) .nil, fun x hx y hy => by rw [List.mem_singleton.1 hy]; exact h3 x hx b inb b2⟩
          · rw [List.mem_append, not_or] at hyz
            rcases List.mem_append.1 hx with hx | hx
            · exact h3 x hx y hy hyz.1
            · rw [List.mem_singleton.1 hx]
              obtain ⟨y0, y1, y2⟩ := hy
              have := b3 y.toNat (by omega) (by rw [Int.toNat_of_nonneg y0]; exact hyz.1)
              rw [Int.toNat_of_nonneg y0] at this
              rcases this with e | e
              · exact absurd (by simp; omega) hyz.2
              · exact e
    · have q : z.length = h.length := by simp at q; omega
      refine Tot.some_iff.2 ⟨z, rfl, h1, h2, fun x hx => ?_⟩
      by_cases c : x ∈ z
      · exact c
      · have := List.Nodup.length_le_of_subset (l₁ := x :: z) (l₂ := idxs h.length) (by
          unfold List.Nodup at hnd ⊢
          exact .cons (fun y hy e => c (e ▸ hy)) hnd) (fun y hy => by
          rcases List.mem_cons.1 hy with rfl | hy
          · exact (hin _).1 hx
          · exact (hin y).1 (h1 y hy))
        rw [idxs_len, List.length_cons] at this
        omega
  · rintro _ ⟨z, rfl, hz⟩
    exact Tot.some_iff.2 hz
end
theorem total_bad {h : List Event} {c : Int} {fu : Nat} (hc : HistCode h c) (h0 : c ≠ 0) : stamp_Total fu h = some ([], c) := by
  unfold stamp_Total
  rw [stamps_bad hc h0, Option.bind_some, show (c != 0) = true by simpa using h0, cond_true]
theorem ahead_bad {h : List Event} {c : Int} (hc : HistCode h c) (h0 : c ≠ 0) : stamp_Ahead h = some ([], c) := by
  refine Tot.eq ?_
  unfold stamp_Ahead
  rw [Tot.bind_iff]
  refine (check_law h).mono fun d hd => ?_
  obtain rfl := hc.one hd
  rw [show (c != 0) = true by simpa using h0]
  exact Tot.some_iff.2 rfl
theorem refpairs_law {h : List Event} {M : List (List Bool)} (hr : Right h) (hM : IsCauses h M) : rangeF (partlaw_StampSays_B0 M) M.length 0 [] = some (aheadPairs h h.length) := by
  have hlen := hr.1
  obtain ⟨m1, m2⟩ := hM
  have hsq : h.length * h.length ≤ 3600 := Nat.mul_le_mul hlen hlen
  refine Tot.eq ?_
  rw [m1]
  refine Tot.rangeF (fun a l => l = aheadPairs h a) rfl ?_ (by rintro l rfl; rw [Nat.zero_add])
  rintro a l _ ha rfl
  have ha : a < h.length := by omega
  have hal := aheadPairs_len (h := h) a
  have hal2 : a * h.length ≤ h.length * h.length := Nat.mul_le_mul_right _ (by omega)
  have haM : a < M.length := by omega
  obtain ⟨m3, m4⟩ := m2 a M[a] (by simp [haM])
  unfold partlaw_StampSays_B0
  rw [lat_i haM, Option.bind_some, Tot.bind_iff, m3]
  refine Tot.rangeF (fun k l => l = aheadPairs h a ++ rowPairs h a k) (by simp [rowPairs]) ?_ ?_
  · rintro k l _ hk rfl
    have hk : k < M[a].length := by omega
    have hs := rowPairs_succ (h := h) (a := a) (k := k)
    have hrl := rowPairs_len (h := h) (a := a) (k := k)
    have e4 := m4 k
    rw [List.getElem?_eq_getElem hk, Option.some.injEq] at e4
    unfold partlaw_StampSays_B2
    rw [lat_i hk, Option.bind_some, Tot.ite_iff]
    refine ⟨fun q => ?_, fun q => ?_⟩
    · rw [room_ok (by simp; omega), Option.bind_some, Tot.some_iff, hs.1 (e4.1 q), List.append_assoc]
    · rw [Tot.some_iff, hs.2 fun w => by rw [e4.2 w] at q; cases q]
  · rintro l rfl
    rw [Tot.some_iff, Nat.zero_add, aheadPairs_succ]
theorem stampsays_law (h : List Event) (_ : Rng.ok h) : ∃ fu, partlaw_StampSays fu h = some true := by
  refine ⟨1000, Tot.eq ?_⟩
  obtain ⟨c, ec, hc⟩ := ref_law h
  obtain ⟨c', ec', hc'⟩ := check_law h
  obtain rfl := hc.one hc'
  unfold partlaw_StampSays
  by_cases h0 : c = 0
  · subst h0
    have hR := hc.right
    rw [ec, Option.bind_some, Tot.bind_iff]
    refine (stamps_law hR).mono ?_
    rintro ⟨s, e⟩ ⟨rfl, hs⟩
    simp only at hs
    rw [Tot.bind_iff]
    refine (total_law hR (by omega)).mono ?_
    rintro ⟨t, e⟩ ⟨rfl, s', hs', ht⟩
    simp only at ht
    obtain rfl := hs.one hs'
    rw [ahead_law hR, Option.bind_some, ec', Option.bind_some]
    simp only [bne_self_eq_false, cond_false]
    rw [Tot.bind_iff]
    refine (causes_law hR.1 (by omega) (by omega)).mono fun M hM => ?_
    rw [refpairs_law hR hM, Option.bind_some, Tot.bind_iff]
    refine (refstamps_law hR (by omega) (by omega)).mono fun s' hs' => ?_
    obtain rfl := hs.one hs'
    rw [eq_slices_Equal_int_int, Option.bind_some]
    simp only [decide_true, cond_true, beq_self_eq_true, Option.bind_some]
    rw [Tot.bind_iff]
    refine (reftotal_law hR hs (by omega) (by omega)).mono fun t' ht' => ?_
    obtain rfl := ht.one ht'
    rw [eq_slices_Equal_int_int, eq_slices_Equal_api_Pair_api_Pair]
    simp [Tot.some_iff]
  · rw [ec, stamps_bad hc h0, total_bad hc h0, ahead_bad hc h0, ec']
    have hne : (c != 0) = true := by simpa using h0
    simp [hne, Tot.some_iff]
end Go.Proofs.Ytclmlddmgccfjaa
