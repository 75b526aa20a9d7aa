/-
  What is chosen greedily, by size, are the minimal ones.
-/
import Derived.Test.YtnljiedichjagaaQmQuorums
namespace Go.Proofs.Ytnljiedichjagaa
open Enc

theorem subB_iff {t s : BitVec 16} : subB t s = true ↔ ∀ i, i < 16 → t.getLsbD i = true → s.getLsbD i = true := by
  unfold subB
  rw [decide_eq_true_eq]
  constructor
  · intro h i hi ht
    have := congrArg (fun x : BitVec 16 => x.getLsbD i) h
    simp only [BitVec.getLsbD_or, ht, Bool.or_true] at this
    exact this.symm
  · intro h
    apply BitVec.eq_of_getLsbD_eq
    intro i hi
    rw [BitVec.getLsbD_or]
    cases ht : t.getLsbD i with
    | false => simp
    | true => rw [h i hi ht]; rfl
theorem subB_refl (s : BitVec 16) : subB s s = true := subB_iff.2 fun _ _ h => h
theorem subB_trans {a b c : BitVec 16} (h1 : subB a b = true) (h2 : subB b c = true) : subB a c = true := subB_iff.2 fun i hi h => subB_iff.1 h2 i hi (subB_iff.1 h1 i hi h)
theorem subB_anti {a b : BitVec 16} (h1 : subB a b = true) (h2 : subB b a = true) : a = b := by
  apply BitVec.eq_of_getLsbD_eq
  intro i hi
  rw [Bool.eq_iff_iff]
  exact ⟨subB_iff.1 h1 i hi, subB_iff.1 h2 i hi⟩
theorem pcF_sub : ∀ (f t s : Nat), (∀ i, i < f → t.testBit i = true → s.testBit i = true) → pcF f t ≤ pcF f s ∧ (pcF f t = pcF f s → ∀ i, i < f → t.testBit i = s.testBit i)
  | 0, _, _, _ => ⟨Nat.le_refl _, fun _ i hi => by omega⟩
  | f + 1, t, s, h => by
    have ih := pcF_sub f (t / 2) (s / 2) fun i hi ht => by
      rw [Nat.testBit_div_two] at ht ⊢
      exact h (i + 1) (by omega) ht
    have h0 : t % 2 ≤ s % 2 := by
      have := h 0 (by omega)
      rw [Nat.testBit_zero, Nat.testBit_zero, decide_eq_true_eq, decide_eq_true_eq] at this
      omega
    refine ⟨?_, fun he i hi => ?_⟩
    · show t % 2 + pcF f (t / 2) ≤ s % 2 + pcF f (s / 2)
      have := ih.1; omega
    · have he : t % 2 + pcF f (t / 2) = s % 2 + pcF f (s / 2) := he
      have h1 := ih.1
      rcases Nat.eq_zero_or_pos i with rfl | hp
      · rw [Nat.testBit_zero, Nat.testBit_zero, show t % 2 = s % 2 by omega]
      · have := ih.2 (by omega) (i - 1) (by omega)
        rw [Nat.testBit_div_two, Nat.testBit_div_two, Nat.sub_add_cancel hp] at this
        exact this
theorem sub_pc {t s : BitVec 16} (h : subB t s = true) : pc t ≤ pc s ∧ (pc t = pc s → t = s) := by
  have hb : ∀ i, i < 16 → t.toNat.testBit i = true → s.toNat.testBit i = true := fun i hi ht => by
    have := subB_iff.1 h i hi
    rw [BitVec.testBit_toNat] at ht ⊢
    exact this ht
  have := pcF_sub 16 t.toNat s.toNat hb
  refine ⟨this.1, fun e => ?_⟩
  apply BitVec.eq_of_getLsbD_eq
  intro i hi
  have := this.2 e i hi
  rwa [BitVec.testBit_toNat, BitVec.testBit_toNat] at this
/-- Among those below 2 ^ n. -/
def IsMin (n : Nat) (P : BitVec 16 → Bool) (s : BitVec 16) : Prop := s.toNat < 2 ^ n ∧ P s = true ∧ ∀ t : BitVec 16, t.toNat < 2 ^ n → P t = true → subB t s = true → t = s
theorem min_ex {n : Nat} {P : BitVec 16 → Bool} : ∀ (k : Nat) (s : BitVec 16), pc s < k → s.toNat < 2 ^ n → P s = true → ∃ t, IsMin n P t ∧ subB t s = true := by
  intro k
  induction k with
  | zero => intro s hk; exact absurd hk (Nat.not_lt_zero _)
  | succ k ih =>
    intro s hk hs hp
    by_cases h : ∃ t : BitVec 16, t.toNat < 2 ^ n ∧ P t = true ∧ subB t s = true ∧ t ≠ s
    · obtain ⟨t, t1, t2, t3, t4⟩ := h
      have hlt : pc t < pc s := by
        have := sub_pc t3
        rcases Nat.lt_or_eq_of_le this.1 with q | q
        · exact q
        · exact absurd (this.2 q) t4
      obtain ⟨u, u1, u2⟩ := ih t (by omega) t1 t2
      exact ⟨u, u1, subB_trans u2 t3⟩
    · refine ⟨s, ⟨hs, hp, fun t t1 t2 t3 => ?_⟩, subB_refl s⟩
      exact Classical.byContradiction fun hn => h ⟨t, t1, t2, t3, hn⟩
theorem mem_inOrder {n : Nat} {P : BitVec 16 → Bool} (hn : n ≤ 10) {s : BitVec 16} : s ∈ inOrder n P ↔ s.toNat < 2 ^ n ∧ P s = true := by
  have hp : 2 ^ n ≤ 2 ^ 10 := Nat.pow_le_pow_right (by omega) hn
  unfold inOrder
  simp only [List.mem_flatMap, List.mem_filter, List.mem_range, Bool.and_eq_true, decide_eq_true_eq, mem_nums (show 2 ^ n ≤ 2 ^ 16 by omega)]
  constructor
  · rintro ⟨k, _, a, _, b⟩; exact ⟨a, b⟩
  · rintro ⟨a, b⟩
    refine ⟨pc s, ?_, a, rfl, b⟩
    have := pcF_pow 16 n s.toNat a
    unfold pc; omega
theorem inOrder_pw {n : Nat} {P : BitVec 16 → Bool} (hn : n ≤ 10) : (inOrder n P).Pairwise fun x y => qlt x y = true := by
  have hp : 2 ^ n ≤ 2 ^ 10 := Nat.pow_le_pow_right (by omega) hn
  unfold inOrder
  rw [List.pairwise_flatMap]
  refine ⟨fun k _ => ?_, ?_⟩
  · refine List.Pairwise.imp_of_mem (R := fun a b : BitVec 16 => a.toNat < b.toNat) ?_ (List.Pairwise.filter _ (nums_pw (by omega)))
    intro a b ha hb hab
    rw [List.mem_filter, Bool.and_eq_true, decide_eq_true_eq] at ha hb
    rw [qlt_iff]; omega
  · refine List.pairwise_lt_range.imp fun {a b} hab => ?_
    intro x hx y hy
    rw [List.mem_filter, Bool.and_eq_true, decide_eq_true_eq] at hx hy
    rw [qlt_iff]; omega
/-- What the greedy choice holds behind a part of the list. -/
theorem greedy_mem {n : Nat} {P : BitVec 16 → Bool} (hn : n ≤ 10) : ∀ (l r : List (BitVec 16)), l ++ r = inOrder n P → ∀ s, s ∈ l.foldl gstep [] ↔ s ∈ l ∧ IsMin n P s := by
  intro l
  induction h : l.length generalizing l with
  | zero =>
    intro r _ s
    have : l = [] := List.length_eq_zero_iff.1 h
    subst this; simp
  | succ k ih =>
    intro r hr s
    obtain ⟨l0, x, rfl⟩ : ∃ l0 x, l = l0 ++ [x] := by
      rcases List.eq_nil_or_concat l with e | ⟨l0, x, e⟩
      · subst e; simp at h
      · exact ⟨l0, x, by rw [e]; simp⟩
    have ihl := ih l0 (by simpa using h) (x :: r) (by rw [← hr]; simp)
    rw [List.foldl_append]
    show s ∈ gstep (l0.foldl gstep []) x ↔ _
    generalize l0.foldl gstep [] = acc at ihl
    have hx : x.toNat < 2 ^ n ∧ P x = true := (mem_inOrder hn).1 (by rw [← hr]; simp)
    have hpw := inOrder_pw (P := P) hn
    rw [← hr] at hpw
    have key : (acc.any fun t => subB t x) = true ↔ ¬ IsMin n P x := by
      rw [List.any_eq_true]
      constructor
      · rintro ⟨t, ht, hs⟩ hm
        obtain ⟨a1, a2⟩ := (ihl t).1 ht
        have := hm.2.2 t a2.1 a2.2.1 hs
        subst this
        have := (List.pairwise_append.1 (List.pairwise_append.1 hpw).1).2.2 t a1 t (by simp)
        rw [qlt_iff] at this; omega
      · intro hm
        obtain ⟨t, t1, t2⟩ := min_ex (P := P) (pc x + 1) x (Nat.lt_succ_self _) hx.1 hx.2
        have hne : t ≠ x := fun e => hm (e ▸ t1)
        refine ⟨t, (ihl t).2 ⟨?_, t1⟩, t2⟩
        have htm : t ∈ l0 ++ [x] ++ r := by rw [hr]; exact (mem_inOrder hn).2 ⟨t1.1, t1.2.1⟩
        have hlt : pc t < pc x := by
          have := sub_pc t2
          rcases Nat.lt_or_eq_of_le this.1 with q | q
          · exact q
          · exact absurd (this.2 q) hne
        rcases List.mem_append.1 htm with q | q
        · rcases List.mem_append.1 q with q | q
          · exact q
          · rw [List.mem_singleton] at q; exact absurd q hne
        · have := (List.pairwise_append.1 hpw).2.2 x (by simp) t q
          rw [qlt_iff] at this; omega
    unfold gstep
    cases hq : acc.any fun t => subB t x with
    | true =>
      rw [cond_true, ihl, List.mem_append, List.mem_singleton]
      have hnm := key.1 hq
      constructor
      · rintro ⟨a, b⟩; exact ⟨.inl a, b⟩
      · rintro ⟨a | a, b⟩
        · exact ⟨a, b⟩
        · subst a; exact absurd b hnm
    | false =>
      rw [cond_false, List.mem_append, List.mem_singleton, ihl, List.mem_append, List.mem_singleton]
      have hm : IsMin n P x := Classical.byContradiction fun q => by rw [key.2 q] at hq; cases hq
      constructor
      · rintro (⟨a, b⟩ | a)
        · exact ⟨.inl a, b⟩
        · subst a; exact ⟨.inr rfl, hm⟩
      · rintro ⟨a | a, b⟩
        · exact .inl ⟨a, b⟩
        · exact .inr a
theorem greedy_sub : ∀ (l out : List (BitVec 16)), ∃ r, l.foldl gstep out = out ++ r ∧ r.Sublist l
  | [], out => ⟨[], by simp, List.Sublist.refl _⟩
  | x :: l, out => by
    obtain ⟨r, h1, h2⟩ := greedy_sub l (gstep out x)
    rw [List.foldl_cons, h1]
    unfold gstep
    cases out.any fun t => subB t x with
    | true => exact ⟨r, rfl, h2.cons _⟩
    | false => exact ⟨x :: r, by simp, h2.cons_cons _⟩
theorem least_mem {n : Nat} {P : BitVec 16 → Bool} (hn : n ≤ 10) {s : BitVec 16} : s ∈ leastSets n P ↔ IsMin n P s := by
  unfold leastSets
  rw [greedy_mem (P := P) hn (inOrder n P) [] (by simp), mem_inOrder hn]
  exact ⟨fun h => h.2, fun h => ⟨⟨h.1, h.2.1⟩, h⟩⟩
theorem least_pw {n : Nat} {P : BitVec 16 → Bool} (hn : n ≤ 10) : (leastSets n P).Pairwise fun x y => qlt x y = true := by
  obtain ⟨r, h1, h2⟩ := greedy_sub (inOrder n P) []
  unfold leastSets
  rw [h1, List.nil_append]
  exact (inOrder_pw hn).sublist h2
/-- Predicates with the same minimal sets. -/
theorem least_same {n : Nat} {P Q : BitVec 16 → Bool} (hn : n ≤ 10) (h1 : ∀ s : BitVec 16, s.toNat < 2 ^ n → P s = true → Q s = true) (h2 : ∀ s : BitVec 16, s.toNat < 2 ^ n → Q s = true → ∃ t : BitVec 16, t.toNat < 2 ^ n ∧ P t = true ∧ subB t s = true) : leastSets n P = leastSets n Q := by
  refine pw_unique (R := fun x y => qlt x y = true) (fun x y h k => by rw [qlt_iff] at h k; omega) (least_pw hn) (least_pw hn) fun s => ?_
  rw [least_mem hn, least_mem hn]
  constructor
  · rintro ⟨a, b, c⟩
    refine ⟨a, h1 s a b, fun t t1 t2 t3 => ?_⟩
    obtain ⟨u, u1, u2, u3⟩ := h2 t t1 t2
    have := c u u1 u2 (subB_trans u3 t3)
    subst this
    exact subB_anti t3 u3
  · rintro ⟨a, b, c⟩
    obtain ⟨t, t1, t2, t3⟩ := h2 s a b
    have := c t t1 (h1 t t1 t2) t3
    subst this
    exact ⟨a, t2, fun u u1 u2 u3 => c u u1 (h1 u u1 u2) u3⟩
theorem cnt_nat (k : Nat) : cnt (k : Int) = some k := by unfold cnt; rw [if_pos (by omega)]; rfl
end Go.Proofs.Ytnljiedichjagaa
