/-
  The numbers of events.
-/
import Derived.Test.YtclmlddmgccfjaaStCauses
namespace Go.Proofs.Ytclmlddmgccfjaa
open Enc

structure IsStamps (h : List Event) (n : Nat) (s : List Int) : Prop where
  len : s.length = n
  lo : ∀ (k : Nat) t, s[k]? = some t → 1 ≤ t ∧ t ≤ k + 1
  up : ∀ (i k : Nat) a t, s[i]? = some a → s[k]? = some t → Hb h i k → a < t
  at' : ∀ (k : Nat) t, s[k]? = some t → t = 1 ∨ ∃ (i : Nat) (a : Int), s[i]? = some a ∧ Hb h i k ∧ t = a + 1
theorem IsStamps.one {h : List Event} {n : Nat} {s u : List Int} (h1 : IsStamps h n s) (h2 : IsStamps h n u) : s = u := by
  have key : ∀ k : Nat, k < n → s[k]? = u[k]? := by
    intro k
    induction k using Nat.strongRecOn with
    | _ k ih =>
      intro hk
      have e1 : s[k]? = some (s[k]'(by rw [h1.len]; exact hk)) := by simp
      have e2 : u[k]? = some (u[k]'(by rw [h2.len]; exact hk)) := by simp
      generalize s[k]'(by rw [h1.len]; exact hk) = a at e1
      generalize u[k]'(by rw [h2.len]; exact hk) = b at e2
      rw [e1, e2]
      have l1 := h1.lo k a e1
      have l2 := h2.lo k b e2
      congr 1
      rcases h1.at' k a e1 with ha | ⟨i, x, hx, hi, ha⟩ <;> rcases h2.at' k b e2 with hb | ⟨j, y, hy, hj, hb⟩
      · omega
      · have := h1.up j k y a (by rw [ih j hj.lt (by have := hj.lt; omega)]; exact hy) e1 hj
        omega
      · have := h2.up i k x b (by rw [← ih i hi.lt (by have := hi.lt; omega)]; exact hx) e2 hi
        omega
      · have := h1.up j k y a (by rw [ih j hj.lt (by have := hj.lt; omega)]; exact hy) e1 hj
        have := h2.up i k x b (by rw [← ih i hi.lt (by have := hi.lt; omega)]; exact hx) e2 hi
        omega
  apply List.ext_getElem?
  intro k
  by_cases hk : k < n
  · exact key k hk
  · rw [List.getElem?_eq_none (by rw [h1.len]; omega), List.getElem?_eq_none (by rw [h2.len]; omega)]
/-- m is the greatest number of the events of a set. -/
def Top (s : List Int) (S : Nat → Prop) (m : Int) : Prop := 0 ≤ m ∧ (∀ (l : Nat) a, s[l]? = some a → S l → a ≤ m) ∧ (m = 0 ∨ ∃ l, s[l]? = some m ∧ S l)
def EvP (h : List Event) (p : Int) (l : Nat) : Prop := ∃ x, h[l]? = some x ∧ x.Proc = p
def EvM (h : List Event) (m : Int) (l : Nat) : Prop := ∃ x, h[l]? = some x ∧ x.Kind = 2 ∧ x.Msg = m
theorem Top.same {s : List Int} {S : Nat → Prop} {m t : Int} (hm : Top s S m) (hn : ¬ S s.length) : Top (s ++ [t]) S m := by
  obtain ⟨a, b, c⟩ := hm
  refine ⟨a, fun l x hx hs => ?_, c.imp id fun ⟨l, h1, h2⟩ => ⟨l, by rw [List.getElem?_append_left (List.getElem?_eq_some_iff.1 h1).1]; exact h1, h2⟩⟩
  rcases Nat.lt_trichotomy l s.length with hl | hl | hl
  · rw [List.getElem?_append_left hl] at hx; exact b l x hx hs
  · subst hl; exact absurd hs hn
  · rw [List.getElem?_eq_none (by simp; omega)] at hx; cases hx
theorem Top.new {s : List Int} {S : Nat → Prop} {m t : Int} (hm : Top s S m) (hs : S s.length) (hmt : m ≤ t) : Top (s ++ [t]) S t := by
  obtain ⟨a, b, c⟩ := hm
  refine ⟨by omega, fun l x hx hS => ?_, .inr ⟨s.length, by simp, hs⟩⟩
  rcases Nat.lt_trichotomy l s.length with hl | hl | hl
  · rw [List.getElem?_append_left hl] at hx; have := b l x hx hS; omega
  · subst hl; simp at hx; omega
  · rw [List.getElem?_eq_none (by simp; omega)] at hx; cases hx
theorem hb_prec {h : List Event} {i k : Nat} (hh : Hb h i k) : Prec h i k ∨ ∃ l, Hb h i l ∧ Prec h l k := by
  cases hh with
  | single h1 => exact .inl h1
  | tail h0 h1 => exact .inr ⟨_, h0, h1⟩
theorem stamps_next {h : List Event} {j : Nat} {s : List Int} {x : Event} {m t : Int} (hs : IsStamps h j s) (hj : j ≤ 60) (_hx : h[j]? = some x)
    (hm : Top s (fun l => Prec h l j) m) (ht : t = m + 1) : IsStamps h (j + 1) (s ++ [t]) := by
  obtain ⟨h1, h2, h3, h4⟩ := hs
  obtain ⟨g1, g2, g3⟩ := hm
  have get : ∀ (k : Nat) a, (s ++ [t])[k]? = some a → (k < j ∧ s[k]? = some a) ∨ (k = j ∧ a = t) := by
    intro k a hk
    rcases Nat.lt_trichotomy k j with e | e | e
    · rw [List.getElem?_append_left (by omega)] at hk; exact .inl ⟨e, hk⟩
    · subst e; rw [← h1] at hk; simp at hk; exact .inr ⟨rfl, hk.symm⟩
    · rw [List.getElem?_eq_none (by simp; omega)] at hk; cases hk
  have back : ∀ (k : Nat) a, s[k]? = some a → (s ++ [t])[k]? = some a := fun k a hk => by rw [List.getElem?_append_left (List.getElem?_eq_some_iff.1 hk).1]; exact hk
  refine ⟨by simp [h1], fun k a hk => ?_, fun i k a b hi hk hh => ?_, fun k a hk => ?_⟩
  · rcases get k a hk with ⟨e, q⟩ | ⟨rfl, rfl⟩
    · exact h2 k a q
    · rcases g3 with rfl | ⟨l, q, hl⟩
      · omega
      · have := h2 l m q
        have := hl.1
        omega
  · rcases get k b hk with ⟨e, q⟩ | ⟨rfl, rfl⟩
    · rcases get i a hi with ⟨e', q'⟩ | ⟨rfl, rfl⟩
      · exact h3 i k a b q' q hh
      · have := hh.lt; omega
    · rcases get i a hi with ⟨e', q'⟩ | ⟨rfl, rfl⟩
      · rcases hb_prec hh with hp | ⟨l, hl, hp⟩
        · have := g2 i a q' hp; omega
        · have hlk := hp.1
          have el : s[l]? = some (s[l]'(by omega)) := by simp
          generalize s[l]'(by omega) = y at el
          have := h3 i l a y q' el hl
          have := g2 l y el hp
          omega
      · have := hh.lt; omega
  · rcases get k a hk with ⟨e, q⟩ | ⟨rfl, rfl⟩
    · exact (h4 k a q).imp id fun ⟨i, b, q1, q2⟩ => ⟨i, b, back i b q1, q2⟩
    · rcases g3 with rfl | ⟨l, q, hl⟩
      · exact .inl (by omega)
      · exact .inr ⟨l, m, back l m q, .single hl, ht⟩
structure SInv (h : List Event) (j : Nat) (z : (Vector Int 30) × (Vector Int 6) × (List Int)) : Prop where
  out : IsStamps h j z.2.2
  last : ∀ (p : Nat) (hp : p < 6), Top z.2.2 (EvP h p) z.2.1[p]
  sent : ∀ (m : Nat) (hm : m < 30), Top z.2.2 (EvM h m) z.1[m]
theorem Top.zero {S : Nat → Prop} : Top [] S 0 := ⟨by omega, fun l a hl => by simp at hl, .inl rfl⟩
theorem Top.le {s : List Int} {S : Nat → Prop} {m : Int} {h : List Event} {j : Nat} (hs : IsStamps h j s) (hm : Top s S m) : m ≤ j := by
  rcases hm.2.2 with rfl | ⟨l, q, _⟩
  · omega
  · have := hs.lo l m q
    have := (List.getElem?_eq_some_iff.1 q).1
    have := hs.len
    omega
theorem sinv_step {h : List Event} {j : Nat} {z : (Vector Int 30) × (Vector Int 6) × (List Int)} (hr : Right h) (hj : j < h.length) (hI : SInv h j z) : Tot (stamp_Stamps_B0 h j z) (SInv h (j + 1)) := by
  obtain ⟨sent, last, out⟩ := z
  obtain ⟨h1, h2, h3⟩ := hI
  simp only at h1 h2 h3
  have hlen := hr.1
  have hx : h[j]? = some h[j] := by simp [hj]
  unfold stamp_Stamps_B0
  rw [Tot.bind_iff, Tot.lat_iff]
  refine ⟨hj, ?_⟩
  obtain ⟨⟨r1, r2, r3, r4⟩, hk⟩ := evErr_at hx (hr.2 j hj)
  generalize h[j] = x at hx r1 r2 r3 r4 hk
  obtain ⟨P, K, M⟩ := x
  simp only at r1 r2 r3 r4
  obtain ⟨p, rfl⟩ := int_nat r1
  obtain ⟨m, rfl⟩ := int_nat r3
  have hp : p < 6 := by omega
  have hm : m < 30 := by omega
  simp only
  rw [vat_lt _ hp, Option.bind_some, Tot.bind_iff]
  have hl1 := h1.len
  have hv : Tot (bif K == 3 then (vat sent (m : Int)).bind fun x24 => some (max last[p] x24) else some last[p]) fun v => Top out (fun l => Prec h l j) v ∧ last[p] ≤ v ∧ (K = 3 → sent[m] ≤ v) := by
    obtain ⟨a1, a2, a3⟩ := h2 p hp
    obtain ⟨b1, b2, b3⟩ := h3 m hm
    have lt : ∀ (l : Nat) (a : Int), out[l]? = some a → l < j := fun l a ha => by have := (List.getElem?_eq_some_iff.1 ha).1; omega
    rw [Tot.ite_iff]
    refine ⟨fun k => ?_, fun k => ?_⟩
    · have k : K = 3 := by simpa using k
      subst k
      rw [vat_lt _ hm, Option.bind_some, Tot.some_iff]
      refine ⟨⟨by omega, fun l a ha hpr => ?_, ?_⟩, by omega, fun _ => by omega⟩
      · obtain ⟨_, u, w, hu, hw, hc⟩ := hpr
        rw [hx] at hw
        obtain rfl := Option.some.inj hw
        rcases hc with hc | ⟨c1, _, c2⟩
        · have := a2 l a ha ⟨u, hu, hc⟩; omega
        · have := b2 l a ha ⟨u, hu, c1, c2⟩; omega
      · rcases Int.le_total last[p] sent[m] with e | e
        · rw [Int.max_eq_right e]
          rcases b3 with b3 | ⟨l, q, w, hw, c1, c2⟩
          · exact .inl b3
          · exact .inr ⟨l, q, lt l _ q, w, _, hw, hx, .inr ⟨c1, rfl, c2⟩⟩
        · rw [Int.max_eq_left e]
          rcases a3 with a3 | ⟨l, q, w, hw, c1⟩
          · exact .inl a3
          · exact .inr ⟨l, q, lt l _ q, w, _, hw, hx, .inl c1⟩
    · have k : K ≠ 3 := by simpa using k
      rw [Tot.some_iff]
      refine ⟨⟨by omega, fun l a ha hpr => ?_, ?_⟩, by omega, fun e => absurd e k⟩
      · obtain ⟨_, u, w, hu, hw, hc⟩ := hpr
        rw [hx] at hw
        obtain rfl := Option.some.inj hw
        rcases hc with hc | ⟨_, c1, c2⟩
        · exact a2 l a ha ⟨u, hu, hc⟩
        · exact absurd c1 k
      · rcases a3 with a3 | ⟨l, q, w, hw, c1⟩
        · exact .inl a3
        · exact .inr ⟨l, q, lt l _ q, w, _, hw, hx, .inl c1⟩
  refine hv.mono fun v ⟨hv, hv2, hv3⟩ => ?_
  have hvj := hv.le h1
  have hv0 := hv.1
  have e64 : w64 (v + 1) = v + 1 := w64_id (by omega) (by omega)
  have hout := stamps_next h1 (by omega) hx hv rfl
  have hlast : ∀ (q : Nat) (hq : q < 6), Top (out ++ [v + 1]) (EvP h q) (last.setIfInBounds p (v + 1))[q] := by
    intro q hq
    by_cases e : p = q
    · subst e
      rw [Vector.getElem_setIfInBounds_self]
      exact (h2 p hp).new (by rw [hl1]; exact ⟨_, hx, rfl⟩) (by omega)
    · rw [Vector.getElem_setIfInBounds_ne hq e]
      refine (h2 q hq).same ?_
      rw [hl1]
      rintro ⟨y, hy, c⟩
      rw [hx] at hy
      obtain rfl := Option.some.inj hy
      simp only at c
      omega
  simp only [Option.bind_some, Tot.let_iff, Int.toNat_natCast, e64]
  rw [Tot.bind_iff]
  have hs : Tot (bif K == 2 then (vat sent (m : Int)).bind fun _ => Let (sent.setIfInBounds m (v + 1)) fun p43 => some p43 else some sent) fun s => ∀ (q : Nat) (hq : q < 30), Top (out ++ [v + 1]) (EvM h q) s[q] := by
    rw [Tot.ite_iff]
    refine ⟨fun k => ?_, fun k => ?_⟩
    · have k : K = 2 := by simpa using k
      subst k
      rw [vat_lt _ hm, Option.bind_some, Tot.let_iff, Tot.some_iff]
      intro q hq
      by_cases e : m = q
      · subst e
        rw [Vector.getElem_setIfInBounds_self]
        refine (h3 m hm).new (by rw [hl1]; exact ⟨_, hx, rfl, rfl⟩) ?_
        rcases (h3 m hm).2.2 with e0 | ⟨l, q0, w, hw, c1, c2⟩
        · omega
        · have hl := (List.getElem?_eq_some_iff.1 q0).1
          rcases hk with ⟨k, _⟩ | ⟨_, k⟩ | ⟨k, _⟩
          · simp only at k; omega
          · exact absurd c2 (k l w (by omega) hw c1)
          · simp only at k; omega
      · rw [Vector.getElem_setIfInBounds_ne hq e]
        refine (h3 q hq).same ?_
        rw [hl1]
        rintro ⟨y, hy, _, c⟩
        rw [hx] at hy
        obtain rfl := Option.some.inj hy
        simp only at c
        omega
    · have k : K ≠ 2 := by simpa using k
      rw [Tot.some_iff]
      intro q hq
      refine (h3 q hq).same ?_
      rw [hl1]
      rintro ⟨y, hy, c, _⟩
      rw [hx] at hy
      obtain rfl := Option.some.inj hy
      exact k c
  refine hs.mono fun s hs => ?_
  rw [Tot.bind_iff, Tot.room_iff]
  refine ⟨by simp; omega, ?_⟩
  rw [Tot.some_iff]
  exact ⟨hout, hlast, hs⟩
theorem stamps_law {h : List Event} (hr : Right h) : Tot (stamp_Stamps h) fun r => r.2 = 0 ∧ IsStamps h h.length r.1 := by
  unfold stamp_Stamps
  rw [Tot.bind_iff]
  refine (check_law h).mono fun c hc => ?_
  obtain rfl := hc.of_right hr
  rw [bne_self_eq_false, cond_false, Tot.bind_iff]
  refine Tot.rangeF (SInv h) ⟨⟨rfl, fun k t hk => by simp at hk, fun i k a t hi => by simp at hi, fun k t hk => by simp at hk⟩, fun p hp => ?_, fun m hm => ?_⟩ (fun j z _ hj hI => sinv_step hr (by omega) hI) ?_
  · simp only [Vector.getElem_replicate]; exact Top.zero
  · simp only [Vector.getElem_replicate]; exact Top.zero
  · rintro ⟨s, l, out⟩ hI
    rw [Nat.zero_add] at hI
    exact Tot.some_iff.2 ⟨rfl, hI.out⟩
theorem stamps_bad {h : List Event} {c : Int} (hc : HistCode h c) (h0 : c ≠ 0) : stamp_Stamps h = some ([], c) := by
  refine Tot.eq ?_
  unfold stamp_Stamps
  rw [Tot.bind_iff]
  refine (check_law h).mono fun d hd => ?_
  obtain rfl := hc.one hd
  rw [show (c != 0) = true by simpa using h0]
  exact Tot.some_iff.2 rfl
end Go.Proofs.Ytclmlddmgccfjaa
