/-
  TopLattice: the plain law: as many consistent cuts as down-sets.
-/
import Derived.Test.YtclmlddmgccfjaaTlHistOf
import Derived.Test.YtclmlddmgccfjaaTlCutAlls
import Derived.Test.YtclmlddmgccfjaaTlAhead
import Derived.Test.YtclmlddmgccfjaaTlDowns
namespace Go.Proofs.Ytclmlddmgccfjaa
open Enc

theorem len_le {α β : Type} [DecidableEq β] : ∀ {l : List α} {m : List β} (f : ∀ x, x ∈ l → β), l.Nodup → (∀ x hx, f x hx ∈ m) → (∀ x hx y hy, f x hx = f y hy → x = y) → l.length ≤ m.length
  | [], m, _, _, _, _ => Nat.zero_le _
  | a :: l, m, f, hn, hm, hi => by
    have ha := hm a (List.mem_cons_self ..)
    have hn' := List.nodup_cons.1 hn
    have := len_le (l := l) (m := m.erase (f a (List.mem_cons_self ..))) (fun x hx => f x (List.mem_cons_of_mem _ hx)) hn'.2 (fun x hx => by
      refine (List.mem_erase_of_ne ?_).2 (hm x _)
      intro e
      have := hi x (List.mem_cons_of_mem _ hx) a (List.mem_cons_self ..) e
      subst this
      exact hn'.1 hx) (fun x hx y hy e => hi x _ y _ e)
    rw [List.length_erase_of_mem ha] at this
    have hpos : 0 < m.length := List.length_pos_of_mem ha
    simp only [List.length_cons]
    omega

/-! ### All cuts are in the list -/
theorem sumDig {N : Nat → Nat} (hN : ∀ p, 0 < N p) {c : Nat → Nat} (hc : ∀ p, p < 6 → c p < N p) : ∀ d p, p + d = 6 → ∃ r, r < many N p ∧ ∀ q, p ≤ q → q < 6 → dig N r q = c q := by
  intro d
  induction d with
  | zero => intro p hp; exact ⟨0, many_pos hN p, fun q h1 h2 => by omega⟩
  | succ d ih =>
    intro p hp
    obtain ⟨r, h1, h2⟩ := ih (p + 1) (by omega)
    have hcp := hc p (by omega)
    refine ⟨c p * many N (p + 1) + r, ?_, fun q hq hq6 => ?_⟩
    · rw [many_step (show p < 6 by omega)]
      have : (c p + 1) * many N (p + 1) ≤ N p * many N (p + 1) := Nat.mul_le_mul_right _ hcp
      rw [Nat.succ_mul] at this
      omega
    · by_cases e : q = p
      · subst e; exact dig_self hN h1 hcp
      · rw [dig_add hN (by omega) hq6]; exact h2 q (by omega) hq6
theorem cut_mem {h : List Event} {c : Vector Int 6} (hc : IsCut h c) (hcl : Closed h c) : c ∈ allCuts h (many (base h) 0) := by
  obtain ⟨r, h1, h2⟩ := sumDig (N := base h) base_pos (c := fun p => ((c[p]?).getD 0).toNat) (fun p hp => by
    have := hc p hp
    rw [Vector.getElem?_eq_getElem hp, Option.getD_some]
    unfold base; omega) 6 0 rfl
  have e : vecOf (base h) r = c := by
    apply Vector.ext
    intro q hq
    rw [vecOf_get hq, h2 q (by omega) hq, Vector.getElem?_eq_getElem hq, Option.getD_some]
    have := (hc q hq).1
    omega
  unfold allCuts
  rw [List.mem_filter, List.mem_map]
  exact ⟨⟨r, List.mem_range.2 h1, e⟩, by simpa using hcl⟩
theorem vec_inj {N : Nat → Nat} {s t : Nat} (hs : s < many N 0) (ht : t < many N 0) (e : vecOf N s = vecOf N t) : s = t := by
  have key : ∀ k, k ≤ 6 → s / many N k = t / many N k → s % many N k = t % many N k → s = t := fun k _ h1 h2 => by
    rw [← Nat.div_add_mod s (many N k), ← Nat.div_add_mod t (many N k), h1, h2]
  have step : ∀ k, k ≤ 6 → s / many N k = t / many N k := by
    intro k
    induction k with
    | zero => intro _; rw [Nat.div_eq_of_lt hs, Nat.div_eq_of_lt ht]
    | succ k ih =>
      intro hk
      have hk6 : k < 6 := by omega
      have h1 := ih (by omega)
      have h2 : dig N s k = dig N t k := by
        have := congrArg (fun v : Vector Int 6 => v[k]) e
        simp only [vecOf_get hk6] at this
        omega
      unfold dig at h2
      rw [many_step hk6, Nat.mul_comm, ← Nat.div_div_eq_div_mul, ← Nat.div_div_eq_div_mul] at h1
      rw [← Nat.div_add_mod (s / many N (k + 1)) (N k), ← Nat.div_add_mod (t / many N (k + 1)) (N k), h1, h2]
  have := step 6 (Nat.le_refl _)
  rwa [many_end, Nat.div_one, Nat.div_one] at this
theorem all_nodup {h : List Event} : (allCuts h (many (base h) 0)).Nodup := by
  unfold allCuts
  unfold List.Nodup
  refine List.Pairwise.filter _ ?_
  rw [List.pairwise_map]
  refine List.Pairwise.imp_of_mem (R := fun a b => a ≠ b) ?_ (List.nodup_range)
  intro a b ha hb hab e
  rw [List.mem_range] at ha hb
  exact hab (vec_inj ha hb e)

/-! ### The list of down-sets -/
theorem mem_downs {l : List Pair} {s : BitVec 16} : ∀ {m : Nat}, m ≤ 2 ^ 16 → (s ∈ downs l m ↔ s.toNat < m ∧ Down l s.toNat)
  | 0, _ => by simp [downs]
  | m + 1, hm => by
    have ih := mem_downs (l := l) (s := s) (m := m) (by omega)
    have e : (BitVec.ofInt 16 (m : Int)) = BitVec.ofNat 16 m := by simp
    unfold downs
    have hs : s = BitVec.ofNat 16 m ↔ s.toNat = m := by
      rw [BitVec.toNat_eq, BitVec.toNat_ofNat, Nat.mod_eq_of_lt (by omega)]
    by_cases hd : Down l m
    · have : isDown l m = true := by simp [isDown, hd]
      rw [this, cond_true, List.mem_append, ih, List.mem_singleton, e, hs]
      constructor
      · rintro (⟨a, b⟩ | a)
        · exact ⟨by omega, b⟩
        · exact ⟨by omega, by rw [a]; exact hd⟩
      · rintro ⟨a, b⟩
        rcases Nat.lt_succ_iff_lt_or_eq.1 a with q | q
        · exact .inl ⟨q, b⟩
        · exact .inr q
    · have : isDown l m = false := by simp [isDown, hd]
      rw [this, cond_false, ih]
      constructor
      · rintro ⟨a, b⟩; exact ⟨by omega, b⟩
      · rintro ⟨a, b⟩
        rcases Nat.lt_succ_iff_lt_or_eq.1 a with q | q
        · exact ⟨q, b⟩
        · rw [q] at b; exact absurd b hd
theorem downs_nodup {l : List Pair} : ∀ {m : Nat}, m ≤ 2 ^ 16 → (downs l m).Nodup
  | 0, _ => by simp [downs]
  | m + 1, hm => by
    have ih := downs_nodup (l := l) (m := m) (by omega)
    have e : (BitVec.ofInt 16 (m : Int)) = BitVec.ofNat 16 m := by simp
    unfold downs
    cases isDown l m with
    | false => exact ih
    | true =>
      rw [cond_true, List.nodup_append]
      refine ⟨ih, by simp, fun a ha b hb => ?_⟩
      rw [List.mem_singleton] at hb
      have := ((mem_downs (by omega)).1 ha).1
      intro q
      rw [q, hb, e, BitVec.toNat_ofNat, Nat.mod_eq_of_lt (by omega)] at this
      omega

/-! ### One for each -/
/-- A set of events that has all that is before. -/
def IsDownH (h : List Event) (S : Nat → Prop) : Prop := ∀ a b, Hb h a b → S b → S a
theorem cut_of {h : List Event} {S : Nat → Prop} (hr : Right h) (hS : IsDownH h S) : ∃ c, IsCut h c ∧ Closed h c ∧ Below h c S := by
  have one : ∀ p : Nat, ∃ n : Int, BelowAt h p n S := by
    intro p
    have : ∀ j, j ≤ h.length → ∃ n : Nat, n ≤ cntP h p j ∧ ∀ (i : Nat) (x : Event), i < j → h[i]? = some x → x.Proc = p → (S i ↔ cntP h p (i + 1) ≤ n) := by
      intro j
      induction j with
      | zero => intro _; exact ⟨0, Nat.zero_le _, fun i x hi => by omega⟩
      | succ j ih =>
        intro hj
        obtain ⟨n, h1, h2⟩ := ih (by omega)
        have hx : h[j]? = some (h[j]'(by omega)) := List.getElem?_eq_getElem (by omega)
        generalize h[j]'(by omega) = x at hx
        have hs := cntP_succ (p := (p : Int)) hx
        by_cases hp : x.Proc = p ∧ S j
        · rw [if_pos hp.1] at hs
          refine ⟨cntP h p (j + 1), Nat.le_refl _, fun i y hi hy e => ⟨fun _ => cntP_mono (by omega), fun _ => ?_⟩⟩
          rcases Nat.lt_or_ge i j with q | q
          · exact hS i j (.single ⟨q, y, x, hy, hx, .inl (by rw [e, hp.1])⟩) hp.2
          · have : i = j := by omega
            subst this; exact hp.2
        · refine ⟨n, Nat.le_trans h1 (cntP_mono (by omega)), fun i y hi hy e => ?_⟩
          rcases Nat.lt_or_ge i j with q | q
          · exact h2 i y q hy e
          · have : i = j := by omega
            subst this
            rw [hx] at hy
            obtain rfl := Option.some.inj hy
            rw [if_pos e] at hs
            exact ⟨fun k => absurd ⟨e, k⟩ hp, fun k => by omega⟩
    obtain ⟨n, h1, h2⟩ := this h.length (Nat.le_refl _)
    exact ⟨n, by omega, by omega, fun i x hx e => by rw [h2 i x (List.getElem?_eq_some_iff.1 hx).1 hx e]; omega⟩
  have : Below h (Vector.ofFn fun p : Fin 6 => Classical.choose (one p.val)) S := by
    intro p hp
    rw [Vector.getElem_ofFn]
    exact Classical.choose_spec (one p)
  refine ⟨_, fun p hp => ⟨(this p hp).lo, (this p hp).hi⟩, ?_, this⟩
  intro k hk j hj
  have mem : ∀ i, i < h.length → (InC h (Vector.ofFn fun p : Fin 6 => Classical.choose (one p.val)) i ↔ S i) := by
    intro i hi
    have hx : h[i]? = some h[i] := by simp [hi]
    obtain ⟨r1, r2, _, _⟩ := hr.2.range hi hx
    obtain ⟨p, hp⟩ := int_nat r1
    have hp6 : p < 6 := by omega
    rw [inC_iff hx hp6 hp]
    exact ((this p hp6).iff i _ hx hp).symm
  have hjl := Nat.lt_of_le_of_lt hj.le hk.lt
  refine (mem j hjl).2 ?_
  have hSk := (mem k hk.lt).1 hk
  rcases hj with rfl | hj
  · exact hSk
  · exact hS j k hj hSk
theorem reach_hb {h : List Event} {a b : Nat} : Reach (aheadPairs h h.length) a b ↔ Hb h a b := by
  have adj : ∀ x y, Adj (aheadPairs h h.length) x y ↔ Hb h x y := by
    intro x y
    unfold Adj
    rw [mem_aheadPairs]
    constructor
    · rintro ⟨a, b, e, k⟩
      simp only [Pair.mk.injEq, Int.natCast_inj] at e
      obtain ⟨rfl, rfl⟩ := e
      exact k
    · intro k; exact ⟨x, y, rfl, k⟩
  constructor
  · intro k
    induction k with
    | single h1 => exact (adj _ _).1 h1
    | tail _ h1 ih => exact ih.trans ((adj _ _).1 h1)
  · intro k; exact .single ((adj _ _).2 k)
theorem same_count {h : List Event} (hr : Right h) (hl : h.length ≤ 12) : (downs (aheadPairs h h.length) (2 ^ h.length)).length = (allCuts h (many (base h) 0)).length := by
  have hpw : 2 ^ h.length ≤ 2 ^ 16 := Nat.pow_le_pow_right (by omega) (by omega)
  have down : ∀ s : BitVec 16, s ∈ downs (aheadPairs h h.length) (2 ^ h.length) ↔ s.toNat < 2 ^ h.length ∧ IsDownH h fun i => s.toNat.testBit i = true := by
    intro s
    rw [mem_downs hpw]
    unfold Down IsDownH
    simp only [reach_hb]
  apply Nat.le_antisymm
  · -- to each down-set its cut
    have ex : ∀ s, s ∈ downs (aheadPairs h h.length) (2 ^ h.length) → ∃ c, IsCut h c ∧ Closed h c ∧ Below h c fun i => s.toNat.testBit i = true := fun s hs => cut_of hr ((down s).1 hs).2
    refine len_le (fun s hs => Classical.choose (ex s hs)) (downs_nodup hpw) (fun s hs => ?_) ?_
    · have := Classical.choose_spec (ex s hs)
      exact cut_mem this.1 this.2.1
    · intro s hs t ht e
      have h1 := (Classical.choose_spec (ex s hs)).2.2
      have h2 := (Classical.choose_spec (ex t ht)).2.2
      rw [← e] at h2
      have hsl := ((down s).1 hs).1
      have htl := ((down t).1 ht).1
      apply BitVec.eq_of_toNat_eq
      apply Nat.eq_of_testBit_eq
      intro i
      by_cases hi : i < h.length
      · have hx : h[i]? = some h[i] := by simp [hi]
        obtain ⟨r1, r2, _, _⟩ := hr.2.range hi hx
        obtain ⟨p, hp⟩ := int_nat r1
        have hp6 : p < 6 := by omega
        rw [Bool.eq_iff_iff]
        exact ((h1 p hp6).iff i _ hx hp).trans ((h2 p hp6).iff i _ hx hp).symm
      · have hpi : 2 ^ h.length ≤ 2 ^ i := Nat.pow_le_pow_right (by omega) (by omega)
        rw [Nat.testBit_lt_two_pow (by omega), Nat.testBit_lt_two_pow (by omega)]
  · -- to each cut its down-set
    have mask : ∀ (P : Nat → Prop) (n : Nat), n ≤ 16 → ∃ m, m < 2 ^ n ∧ ∀ i, i < n → (m.testBit i = true ↔ P i) := by
      intro P n
      induction n with
      | zero => intro _; exact ⟨0, by simp, fun i hi => by omega⟩
      | succ n ih =>
        intro hn
        obtain ⟨m, h1, h2⟩ := ih (by omega)
        by_cases hP : P n
        · refine ⟨2 ^ n + m, by rw [Nat.pow_succ]; omega, fun i hi => ?_⟩
          by_cases e : i = n
          · subst e; rw [Nat.testBit_two_pow_add_eq, Nat.testBit_lt_two_pow h1]; simp [hP]
          · rw [Nat.testBit_two_pow_add_gt (by omega)]; exact h2 i (by omega)
        · refine ⟨m, by rw [Nat.pow_succ]; omega, fun i hi => ?_⟩
          by_cases e : i = n
          · subst e; rw [Nat.testBit_lt_two_pow h1]; simp [hP]
          · exact h2 i (by omega)
    have ex : ∀ c, c ∈ allCuts h (many (base h) 0) → ∃ m, m < 2 ^ h.length ∧ ∀ i, i < h.length → (m.testBit i = true ↔ InC h c i) := fun c _ => mask _ _ (by omega)
    have both : ∀ c, c ∈ allCuts h (many (base h) 0) → IsCut h c ∧ Closed h c := by
      intro c hc
      unfold allCuts at hc
      rw [List.mem_filter, List.mem_map] at hc
      obtain ⟨⟨t, _, rfl⟩, k⟩ := hc
      exact ⟨vecOf_cut, by simpa using k⟩
    refine len_le (fun c hc => BitVec.ofNat 16 (Classical.choose (ex c hc))) all_nodup (fun c hc => ?_) ?_
    · obtain ⟨h1, h2⟩ := Classical.choose_spec (ex c hc)
      generalize Classical.choose (ex c hc) = m at h1 h2
      have e : (BitVec.ofNat 16 m).toNat = m := by rw [BitVec.toNat_ofNat, Nat.mod_eq_of_lt (by omega)]
      rw [down, e]
      refine ⟨h1, fun a b hab hb => ?_⟩
      have hbl := hab.in
      have hal := Nat.lt_trans hab.lt hbl
      exact (h2 a hal).2 ((both c hc).2 b ((h2 b hbl).1 hb) a (.inr hab))
    · intro c hc d hd e
      obtain ⟨h1, h2⟩ := Classical.choose_spec (ex c hc)
      obtain ⟨h3, h4⟩ := Classical.choose_spec (ex d hd)
      generalize Classical.choose (ex c hc) = m at h1 h2 e
      generalize Classical.choose (ex d hd) = m' at h3 h4 e
      have e' := congrArg BitVec.toNat e
      rw [BitVec.toNat_ofNat, BitVec.toNat_ofNat, Nat.mod_eq_of_lt (by omega), Nat.mod_eq_of_lt (by omega)] at e'
      subst e'
      have b1 := (both c hc).1.below
      have b2 := (both d hd).1.below
      apply Vector.ext
      intro p hp
      refine (b1 p hp).one (b2 p hp) fun i x hx _ => ?_
      have hi := (List.getElem?_eq_some_iff.1 hx).1
      rw [← h2 i hi, h4 i hi]
theorem Right.take {h : List Event} (hr : Right h) (n : Nat) : Right (h.take n) := by
  refine ⟨by rw [List.length_take]; have := hr.1; omega, fun i hi => ?_⟩
  rw [List.length_take] at hi
  have hil : i < h.length := by omega
  have hx : h[i]? = some h[i] := by simp [hil]
  have hg : ∀ j, j ≤ i → (h.take n)[j]? = h[j]? := fun j hj => by rw [List.getElem?_take, if_pos (by omega)]
  obtain ⟨r, k⟩ := evErr_at hx (hr.2 i hil)
  refine evErr_ok (by rw [hg i (Nat.le_refl _)]; exact hx) r ?_
  rcases k with k | ⟨k1, k2⟩ | ⟨k1, k2, k3⟩
  · exact .inl k
  · exact .inr (.inl ⟨k1, fun j y hj hy => k2 j y hj (by rw [← hg j (by omega)]; exact hy)⟩)
  · refine .inr (.inr ⟨k1, ?_, ?_⟩)
    · obtain ⟨p, ⟨j, y, a, b, c⟩, e⟩ := k2
      exact ⟨p, ⟨j, y, a, by rw [hg j (by omega)]; exact b, c⟩, e⟩
    · rintro ⟨j, a, b⟩
      exact k3 ⟨j, a, by rw [← hg j (by omega)]; exact b⟩
theorem cnt_sum {h : List Event} : ∀ j, j ≤ h.length → sumTo (fun e => cntP h ((5 - e : Nat) : Int) j) 6 ≤ j
  | 0, _ => by simp [sumTo, cntP_zero]
  | j + 1, hj => by
    have ih := cnt_sum (h := h) j (by omega)
    have hx : h[j]? = some (h[j]'(by omega)) := List.getElem?_eq_getElem (by omega)
    generalize h[j]'(by omega) = x at hx
    by_cases hq : ∃ q, q < 6 ∧ x.Proc = ((5 - q : Nat) : Int)
    · obtain ⟨q, hq6, e⟩ := hq
      refine Nat.le_trans (sumTo_one (g := fun e => cntP h ((5 - e : Nat) : Int) j) q (fun p hp hne => ?_) ?_) (Nat.succ_le_succ ih)
      · rw [cntP_succ hx, if_neg (by omega)]; exact Nat.le_refl _
      · rw [cntP_succ hx]; split <;> omega
    · refine Nat.le_trans (sumTo_le (g := fun e => cntP h ((5 - e : Nat) : Int) j) fun p hp => ?_) (Nat.le_trans ih (Nat.le_succ _))
      rw [cntP_succ hx, if_neg fun e => hq ⟨p, hp, e⟩]; exact Nat.le_refl _
theorem few_cuts {h : List Event} (hl : h.length ≤ 12) : many (base h) 0 ≤ 4096 := by
  have key : ∀ d, mm (base h) d ≤ 2 ^ sumTo (fun e => cntP h ((5 - e : Nat) : Int) h.length) d := by
    intro d
    induction d with
    | zero => exact Nat.le_refl _
    | succ d ih =>
      show base h (5 - d) * mm (base h) d ≤ 2 ^ (sumTo _ d + cntP h ((5 - d : Nat) : Int) h.length)
      rw [Nat.pow_add, Nat.mul_comm]
      exact Nat.mul_le_mul ih (Nat.lt_two_pow_self)
  have h1 := cnt_sum (h := h) h.length (Nat.le_refl _)
  refine Nat.le_trans (key 6) (Nat.le_trans (Nat.pow_le_pow_right (by omega) (show _ ≤ 12 by omega)) (by decide))
theorem toplattice_law (l : List Event) (_ : Rng.ok l) : ∃ fu, parttop_TopLattice fu l = some true := by
  refine ⟨5000, Tot.eq ?_⟩
  unfold parttop_TopLattice
  rw [top_grown, Option.bind_some, Bool.not_true, cond_false, Tot.bind_iff]
  refine (historyof_law l).mono fun h0 hr0 => ?_
  rw [Tot.bind_iff]
  have hcut : Tot (bif decide ((h0.length : Int) > (12 : Int)) then ((cutL h0 0 (12 : Int)).bind fun m16 => some m16) else some h0) fun h => Right h ∧ h.length ≤ 12 := by
    rw [Tot.ite_iff]
    refine ⟨fun k => ?_, fun k => Tot.some_iff.2 ⟨hr0, by simp at k; omega⟩⟩
    rw [Tot.bind_iff, Tot.cutL_iff]
    have k : (h0.length : Int) > 12 := by simpa using k
    refine ⟨by omega, Tot.some_iff.2 ⟨hr0.take _, by simp; omega⟩⟩
  refine hcut.mono ?_
  rintro h ⟨hr, h12⟩
  rw [ahead_law hr, Option.bind_some, bne_self_eq_false, cond_false]
  have hx : posetCode ({ Poset.zero with N := (h.length : Int), Pairs := aheadPairs h h.length } : Poset) 0 := by
    refine .inr ⟨h.length, by omega, rfl, .inr ⟨.inr (.inr ⟨rfl, ?_, ?_⟩), .inr ⟨?_, rfl⟩⟩⟩
    · have := aheadPairs_len (h := h) h.length
      have : h.length * h.length ≤ 12 * 12 := Nat.mul_le_mul h12 h12
      show (aheadPairs h h.length).length ≤ 600
      omega
    · intro q hq
      obtain ⟨a, b, rfl, hab⟩ := mem_aheadPairs.1 hq
      have := hab.lt; have := hab.in
      simp only
      omega
    · rintro ⟨i, hi⟩
      have := (reach_hb.1 hi).lt
      omega
  rw [downs_law hx rfl h12 (by omega), Option.bind_some, all_law hr (by omega), Option.bind_some]
  have hsc := same_count hr h12
  have hfew : ¬ many (base h) 0 > 4096 := by have := few_cuts h12; omega
  rw [if_neg hfew]
  simp [Tot.some_iff, hsc]
end Go.Proofs.Ytclmlddmgccfjaa
