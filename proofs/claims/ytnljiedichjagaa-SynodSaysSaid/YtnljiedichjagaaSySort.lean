/-
  Sorting within a range: permutations of a range, strict weak orders, insertion, reversal.
-/
import Derived.Test.YtnljiedichjagaaGoW
namespace Go.Proofs.Ytnljiedichjagaa
open Enc

theorem lat_i {α : Type} {l : List α} {i : Nat} (h : i < l.length) : lat l (i : Int) = some l[i] := by rw [lat_nat]; simp [h]
theorem lat_of {α : Type} {l : List α} {i : Int} {k : Nat} (hk : i = (k : Int)) (h : k < l.length) : lat l i = some l[k] := by subst hk; rw [lat_nat]; simp [h]

/-! ### The elements of a range in another order -/
/-- m is l, but the elements from a to b are in another order. -/
structure SP {α : Type} (a b : Nat) (l m : List α) : Prop where
  len : m.length = l.length
  ex : ∃ s t : Nat → Nat, (∀ i, a ≤ i → i < b → (a ≤ s i ∧ s i < b) ∧ (a ≤ t i ∧ t i < b)) ∧ (∀ i, ¬ (a ≤ i ∧ i < b) → s i = i ∧ t i = i) ∧ (∀ i, s (t i) = i ∧ t (s i) = i) ∧ ∀ i, m[i]? = l[s i]?
section
variable {α : Type} {a b : Nat} {l m o : List α}
theorem SP.refl (a b : Nat) (l : List α) : SP a b l l := ⟨rfl, id, id, fun _ h1 h2 => ⟨⟨h1, h2⟩, h1, h2⟩, fun _ _ => ⟨rfl, rfl⟩, fun _ => ⟨rfl, rfl⟩, fun _ => rfl⟩
theorem SP.trans (h : SP a b l m) (k : SP a b m o) : SP a b l o := by
  obtain ⟨e1, s, t, s1, s2, s3, s4⟩ := h
  obtain ⟨e2, s', t', s1', s2', s3', s4'⟩ := k
  refine ⟨e2.trans e1, fun i => s (s' i), fun i => t' (t i), fun i h1 h2 => ?_, fun i hi => ?_, fun i => ?_, fun i => by rw [s4', s4]⟩
  · have a1 := s1' i h1 h2
    have a2 := s1 i h1 h2
    exact ⟨(s1 _ a1.1.1 a1.1.2).1, (s1' _ a2.2.1 a2.2.2).2⟩
  · simp only [(s2' i hi).1, (s2 i hi).1, (s2 i hi).2, (s2' i hi).2, and_self]
  · simp only [(s3' _).1, (s3 _).1, (s3' _).2, (s3 _).2, and_self]
theorem SP.wide {a' b' : Nat} (h : SP a b l m) (ha : a' ≤ a) (hb : b ≤ b') : SP a' b' l m := by
  obtain ⟨e1, s, t, s1, s2, s3, s4⟩ := h
  refine ⟨e1, s, t, fun i h1 h2 => ?_, fun i hi => s2 i (by omega), s3, s4⟩
  by_cases hi : a ≤ i ∧ i < b
  · have := s1 i hi.1 hi.2; omega
  · rw [(s2 i hi).1, (s2 i hi).2]; exact ⟨⟨h1, h2⟩, h1, h2⟩
theorem SP.out (h : SP a b l m) {i : Nat} (hi : ¬ (a ≤ i ∧ i < b)) : m[i]? = l[i]? := by
  obtain ⟨_, s, t, s1, s2, s3, s4⟩ := h
  rw [s4, (s2 i hi).1]
/-- What holds of the elements of the range goes on to hold. -/
theorem SP.all {P : α → Prop} (h : SP a b l m) (hP : ∀ (i : Nat) x, a ≤ i → i < b → l[i]? = some x → P x) : ∀ (i : Nat) x, a ≤ i → i < b → m[i]? = some x → P x := by
  obtain ⟨_, s, t, s1, s2, s3, s4⟩ := h
  intro i x h1 h2 hx
  rw [s4] at hx
  exact hP _ x (s1 i h1 h2).1.1 (s1 i h1 h2).1.2 hx
theorem SP.back (h : SP a b l m) : SP a b m l := by
  obtain ⟨e, s, t, s1, s2, s3, s4⟩ := h
  exact ⟨e.symm, t, s, fun i h1 h2 => (s1 i h1 h2).symm, fun i hi => (s2 i hi).symm, fun i => (s3 i).symm, fun i => by rw [s4, (s3 i).1]⟩
theorem SP.mem (h : SP a b l m) {x : α} : x ∈ m ↔ x ∈ l := by
  have key : ∀ {l m : List α}, SP a b l m → x ∈ m → x ∈ l := by
    intro l m h hx
    obtain ⟨i, hi⟩ := List.getElem?_of_mem hx
    obtain ⟨_, s, t, s1, s2, s3, s4⟩ := h
    rw [s4] at hi
    exact List.mem_of_getElem? hi
  exact ⟨key h, key h.back⟩
theorem SP.nodup (h : SP a b l m) (hl : l.Nodup) : m.Nodup := by
  obtain ⟨e, s, t, s1, s2, s3, s4⟩ := h
  unfold List.Nodup at hl ⊢
  rw [List.pairwise_iff_getElem] at hl ⊢
  intro i j hi hj hij hq
  have hs : s i ≠ s j := fun k => by have := congrArg t k; rw [(s3 i).2, (s3 j).2] at this; omega
  have e1 : m[i]? = some m[i] := by simp [hi]
  have e2 : m[j]? = some m[j] := by simp [hj]
  rw [s4] at e1 e2
  obtain ⟨i1, i2⟩ := List.getElem?_eq_some_iff.1 e1
  obtain ⟨j1, j2⟩ := List.getElem?_eq_some_iff.1 e2
  rcases Nat.lt_or_ge (s i) (s j) with k | k
  · exact hl _ _ i1 j1 k (by rw [i2, j2, hq])
  · exact hl _ _ j1 i1 (by omega) (by rw [i2, j2, hq])
/-- Two elements change places. -/
theorem SP.swap {i j : Nat} (hi : a ≤ i ∧ i < b) (hj : a ≤ j ∧ j < b) {x y : α} (hx : l[i]? = some x) (hy : l[j]? = some y) : SP a b l ((l.set i y).set j x) := by
  have hil := (List.getElem?_eq_some_iff.1 hx).1
  have hjl := (List.getElem?_eq_some_iff.1 hy).1
  let s : Nat → Nat := fun k => if k = i then j else if k = j then i else k
  have hs : ∀ k, s (s k) = k := by
    intro k
    simp only [s]
    by_cases h1 : k = i
    · subst h1
      by_cases h2 : j = k
      · simp [h2]
      · simp [h2]
    · by_cases h2 : k = j
      · subst h2; simp [h1]
      · simp [h1, h2]
  have hr : ∀ k, a ≤ k → k < b → a ≤ s k ∧ s k < b := by
    intro k h1 h2
    simp only [s]
    split
    · exact hj
    · split
      · exact hi
      · exact ⟨h1, h2⟩
  have ho : ∀ k, ¬ (a ≤ k ∧ k < b) → s k = k := by
    intro k hk
    simp only [s]
    rw [if_neg (by rintro rfl; exact hk hi), if_neg (by rintro rfl; exact hk hj)]
  refine ⟨by simp, s, s, fun k h1 h2 => ⟨hr k h1 h2, hr k h1 h2⟩, fun k hk => ⟨ho k hk, ho k hk⟩, fun k => ⟨hs k, hs k⟩, fun k => ?_⟩
  simp only [s]
  by_cases h2 : k = j
  · subst h2
    rw [List.getElem?_set_self (by simp; omega)]
    by_cases h1 : k = i
    · rw [if_pos h1, hy]
      subst h1; rw [hx] at hy; exact hy
    · rw [if_neg h1, if_pos rfl, hx]
  · rw [List.getElem?_set_ne (Ne.symm h2)]
    by_cases h1 : k = i
    · subst h1; rw [List.getElem?_set_self hil, if_pos rfl, hy]
    · rw [List.getElem?_set_ne (Ne.symm h1), if_neg h1, if_neg h2]
theorem swap_at {i j k : Nat} {x y : α} (hx : l[i]? = some x) (hy : l[j]? = some y) : ((l.set i y).set j x)[k]? = if k = j then some x else if k = i then some y else l[k]? := by
  have hil := (List.getElem?_eq_some_iff.1 hx).1
  have hjl := (List.getElem?_eq_some_iff.1 hy).1
  by_cases h2 : k = j
  · subst h2; rw [List.getElem?_set_self (by simp; omega), if_pos rfl]
  · rw [List.getElem?_set_ne (Ne.symm h2), if_neg h2]
    by_cases h1 : k = i
    · subst h1; rw [List.getElem?_set_self hil, if_pos rfl]
    · rw [List.getElem?_set_ne (Ne.symm h1), if_neg h1]
end

/-! ### Order -/
structure SWO {α : Type} (P : α → Prop) (lt : α → α → Bool) : Prop where
  asymm : ∀ x y, P x → P y → lt x y = true → lt y x = false
  ntrans : ∀ x y z, P x → P y → P z → lt y x = false → lt z y = false → lt z x = false
/-- From a to b no element is less than one ahead of it. -/
def Srt {α : Type} (lt : α → α → Bool) (a b : Nat) (l : List α) : Prop := ∀ (i j : Nat) x y, a ≤ i → i < j → j < b → l[i]? = some x → l[j]? = some y → lt y x = false
def AllP {α : Type} (P : α → Prop) (l : List α) : Prop := ∀ x ∈ l, P x
theorem AllP.at {α : Type} {P : α → Prop} {l : List α} (h : AllP P l) {i : Nat} {x : α} (hx : l[i]? = some x) : P x := h x (List.mem_of_getElem? hx)
theorem SP.allP {α : Type} {P : α → Prop} {a b : Nat} {l m : List α} (h : SP a b l m) (hl : AllP P l) : AllP P m := fun x hx => hl x (h.mem.1 hx)

/-! ### Insertion -/
section
variable {α : Type} {P : α → Prop} {lt : α → α → Bool} {τ : Type}
/-- Sorted from a to i, but for what lies at j. -/
def But (lt : α → α → Bool) (a i j : Nat) (l : List α) : Prop := ∀ (p q : Nat) x y, a ≤ p → p < q → q ≤ i → q ≠ j → l[p]? = some x → l[q]? = some y → lt y x = false
theorem insert_loop (hlt : SWO P lt) {a b i fu : Nat} {l : List α} (hb : b ≤ l.length) (hn : l.length ≤ 2 ^ 40) (hai : a < i) (hib : i < b) (hP : AllP P l) (hs : Srt lt a i l) (hfu : i < fu) {less : α → α → Option Bool} (hless : ∀ x y, P x → P y → less x y = some (lt x y))
    {body : Int × List α → Option (Ctl (Int × List α) τ)} (hbody : ∀ z, body z = (bif decide (z.1 > (a : Int)) then ((lat z.2 z.1).bind fun x => (lat z.2 (w64 (z.1 - 1))).bind fun y => less x y) else some false).bind fun c =>
      bif c then ((lat z.2 (w64 (z.1 - 1))).bind fun x => (lat z.2 z.1).bind fun y => (lat z.2 z.1).bind fun _ => Let (z.2.set z.1.toNat x) fun p => Let p fun q => (lat q (w64 (z.1 - 1))).bind fun _ => Let (q.set (w64 (z.1 - 1)).toNat y) fun r => some (.go (w64 (z.1 - 1), r))) else some (.brk (z.1, z.2))) :
    Tot (whileM body fu ((i : Int), l)) fun o => ∃ j m, o = .inl (j, m) ∧ SP a b l m ∧ Srt lt a (i + 1) m := by
  refine Tot.whileM (fun z : Int × List α => ∃ j : Nat, z.1 = (j : Int) ∧ a ≤ j ∧ j ≤ i ∧ SP a b l z.2 ∧ But lt a i j z.2) (fun z => z.1.toNat) ⟨i, rfl, by omega, Nat.le_refl _, SP.refl _ _ _, fun p q x y h1 h2 h3 h4 hx hy => hs p q x y h1 h2 (by omega) hx hy⟩ (by simpa using hfu) ?_
  rintro ⟨z, m⟩ ⟨j, rfl, h1, h2, h3, h4⟩
  simp only at h3 h4
  have hlen := h3.len
  have hPm := h3.allP hP
  have hjm : j < m.length := by omega
  have hj : m[j]? = some m[j] := by simp [hjm]
  have done : (j = a ∨ ∃ x y, a < j ∧ m[j]? = some x ∧ m[j - 1]? = some y ∧ lt x y = false) → ∃ j' m', (Sum.inl ((j : Int), m) : (Int × List α) ⊕ τ) = .inl (j', m') ∧ SP a b l m' ∧ Srt lt a (i + 1) m' := by
    intro hd
    refine ⟨_, _, rfl, h3, fun p q x y p1 p2 p3 hx hy => ?_⟩
    by_cases e : q = j
    · subst e
      rcases hd with rfl | ⟨u, v, k1, k2, k3, k4⟩
      · omega
      · rw [hy] at k2
        obtain rfl := Option.some.inj k2
        by_cases e2 : p = q - 1
        · subst e2; rw [hx] at k3; obtain rfl := Option.some.inj k3; exact k4
        · have := h4 p (q - 1) x v p1 (by omega) (by omega) (by omega) hx k3
          exact hlt.ntrans x v y (hPm.at hx) (hPm.at k3) (hPm.at hy) this k4
    · exact h4 p q x y p1 p2 (by omega) e hx hy
  rw [hbody]
  simp only
  rw [Tot.bind_iff, Tot.ite_iff]
  refine ⟨fun k => ?_, fun k => ?_⟩
  · have k : a < j := by simp at k; omega
    have e1 : w64 ((j : Int) - 1) = ((j - 1 : Nat) : Int) := by rw [w64_id (by omega) (by omega)]; omega
    have hj1m : j - 1 < m.length := by omega
    have hj1 : m[j - 1]? = some m[j - 1] := by simp [hj1m]
    rw [e1, lat_nat, lat_nat, hj, Option.bind_some, hj1, Option.bind_some, hless _ _ (hPm.at hj) (hPm.at hj1), Tot.some_iff, Option.bind_some, Option.bind_some, Option.bind_some, Tot.ite_iff]
    refine ⟨fun c => ?_, fun c => Tot.some_iff.2 (done (.inr ⟨_, _, k, hj, hj1, c⟩))⟩
    rw [Tot.let_iff, Tot.let_iff, Int.toNat_natCast, lat_nat, List.getElem?_set_ne (by omega), hj1, Option.bind_some, Tot.let_iff, Int.toNat_natCast, Tot.some_iff]
    have hsw := SP.swap (a := a) (b := b) (l := m) (i := j) (j := j - 1) (by omega) (by omega) hj hj1
    have hat := fun k => swap_at (k := k) hj hj1
    refine ⟨⟨j - 1, rfl, by omega, by omega, h3.trans hsw, fun p q x y p1 p2 p3 p4 hx hy => ?_⟩, ?_⟩
    · simp only at hx hy
      rw [hat] at hx hy
      rw [if_neg p4] at hy
      by_cases e : q = j
      · rw [if_pos e] at hy
        obtain rfl := Option.some.inj hy
        by_cases e2 : p = j - 1
        · rw [if_pos e2] at hx
          obtain rfl := Option.some.inj hx
          exact hlt.asymm _ _ (hPm.at hj) (hPm.at hj1) c
        · rw [if_neg e2, if_neg (by omega)] at hx
          exact h4 p (j - 1) x _ p1 (by omega) (by omega) (by omega) hx hj1
      · rw [if_neg e] at hy
        by_cases e2 : p = j - 1
        · rw [if_pos e2] at hx
          obtain rfl := Option.some.inj hx
          exact h4 j q _ y (by omega) (by omega) p3 e hj hy
        · rw [if_neg e2] at hx
          by_cases e3 : p = j
          · rw [if_pos e3] at hx
            obtain rfl := Option.some.inj hx
            exact h4 (j - 1) q _ y (by omega) (by omega) p3 e hj1 hy
          · rw [if_neg e3] at hx
            exact h4 p q x y p1 p2 p3 e hx hy
    · simp only [Int.toNat_natCast]; omega
  · have k : ¬ a < j := by simp at k; omega
    rw [Tot.some_iff, cond_false, Tot.some_iff]
    exact done (.inl (by omega))
theorem insertion_law (hlt : SWO P lt) {a b fu : Nat} {l : List α} (hab : a ≤ b) (hb : b ≤ l.length) (hn : l.length ≤ 2 ^ 40) (hP : AllP P l) (hfu : b < fu) {less : α → α → Option Bool} (hless : ∀ x y, P x → P y → less x y = some (lt x y))
    {inner : Int × List α → Option (Ctl (Int × List α) (Ctl (Int × List α) τ))} (hinner : ∀ z, inner z = (bif decide (z.1 > (a : Int)) then ((lat z.2 z.1).bind fun x => (lat z.2 (w64 (z.1 - 1))).bind fun y => less x y) else some false).bind fun c =>
      bif c then ((lat z.2 (w64 (z.1 - 1))).bind fun x => (lat z.2 z.1).bind fun y => (lat z.2 z.1).bind fun _ => Let (z.2.set z.1.toNat x) fun p => Let p fun q => (lat q (w64 (z.1 - 1))).bind fun _ => Let (q.set (w64 (z.1 - 1)).toNat y) fun r => some (.go (w64 (z.1 - 1), r))) else some (.brk (z.1, z.2)))
    {body : Int × List α → Option (Ctl (Int × List α) τ)} (hbody : ∀ z, body z = bif decide (z.1 < (b : Int)) then (andThen (whileM inner fu (z.1, z.2)) fun (_, m) => some (.go (w64 (z.1 + 1), m))) else some (.brk (z.1, z.2))) :
    Tot (whileM body fu (w64 ((a : Int) + 1), l)) fun o => ∃ j m, o = .inl (j, m) ∧ SP a b l m ∧ Srt lt a b m := by
  rw [w64_id (by omega) (by omega)]
  refine Tot.whileM (fun z : Int × List α => ∃ i : Nat, z.1 = (i : Int) ∧ a < i ∧ i ≤ b + 1 ∧ (b < i → b ≤ a + 1) ∧ SP a b l z.2 ∧ Srt lt a i z.2) (fun z => ((b : Int) + 1 - z.1).toNat) ⟨a + 1, by push_cast; rfl, by omega, by omega, fun h => by omega, SP.refl _ _ _, fun i j x y h1 h2 h3 => by omega⟩ (by omega) ?_
  rintro ⟨z, m⟩ ⟨i, rfl, h1, h2, h2', h3, h4⟩
  simp only at h3 h4
  have hlen := h3.len
  rw [hbody]
  simp only
  rw [Tot.ite_iff]
  refine ⟨fun k => ?_, fun k => ?_⟩
  · have k : i < b := by simpa using k
    rw [Tot.andThen_iff]
    refine (insert_loop hlt (by omega) (by omega) h1 k (h3.allP hP) h4 (by omega) hless hinner).mono ?_
    rintro o ⟨j, m', rfl, g1, g2⟩
    show Tot (some _) _
    rw [Tot.some_iff, w64_id (by omega) (by omega)]
    exact ⟨⟨i + 1, by push_cast; rfl, by omega, by omega, fun h => by omega, h3.trans g1, g2⟩, by omega⟩
  · have k : ¬ i < b := by simpa using k
    rw [Tot.some_iff]
    exact ⟨_, _, rfl, h3, fun p q x y p1 p2 p3 => h4 p q x y p1 p2 (by omega)⟩
end

/-! ### Reversal -/
section
variable {α τ : Type}
theorem swap_step {a b i j : Nat} {m : List α} (hi : a ≤ i ∧ i < b) (hj : a ≤ j ∧ j < b) (hb : b ≤ m.length) {β : Type} {Q : β → Prop} {f : List α → Option β} (hf : ∀ x y, m[i]? = some x → m[j]? = some y → SP a b m ((m.set i y).set j x) → Tot (f ((m.set i y).set j x)) Q) :
    Tot ((lat m (j : Int)).bind fun y => (lat m (i : Int)).bind fun x => (lat m (i : Int)).bind fun _ => Let (m.set (i : Int).toNat y) fun p => Let p fun q => (lat q (j : Int)).bind fun _ => Let (q.set (j : Int).toNat x) f) Q := by
  have hil : i < m.length := by omega
  have hjl : j < m.length := by omega
  have hx : m[i]? = some m[i] := by simp [hil]
  have hy : m[j]? = some m[j] := by simp [hjl]
  rw [lat_i hjl, Option.bind_some, lat_i hil, Option.bind_some, Option.bind_some, Tot.let_iff, Tot.let_iff, Int.toNat_natCast, lat_i (by simp; omega), Option.bind_some, Tot.let_iff, Int.toNat_natCast]
  exact hf _ _ hx hy (SP.swap hi hj hx hy)
theorem reverse_law {a b fu : Nat} {l : List α} (hab : a < b) (hb : b ≤ l.length) (hn : l.length ≤ 2 ^ 40) (hfu : b + 1 < fu) {body : Int × Int × List α → Option (Ctl (Int × Int × List α) τ)}
    (hbody : ∀ z, body z = bif decide (z.1 < z.2.1) then ((lat z.2.2 z.2.1).bind fun x9 => (lat z.2.2 z.1).bind fun x12 => (lat z.2.2 z.1).bind fun _ => Let (z.2.2.set z.1.toNat x9) fun p18 => Let p18 fun l21 => (lat l21 z.2.1).bind fun _ => Let (l21.set z.2.1.toNat x12) fun p41 => some (.go (w64 (z.1 + (1 : Int)), w64 (z.2.1 - (1 : Int)), p41))) else some (.brk (z.1, z.2.1, z.2.2))) :
    Tot (whileM body fu ((a : Int), w64 ((b : Int) - 1), l)) fun o => ∃ i j m, o = .inl (i, j, m) ∧ SP a b l m := by
  rw [w64_id (by omega) (by omega)]
  refine Tot.whileM (fun z : Int × Int × List α => ∃ i j : Nat, z.1 = (i : Int) ∧ z.2.1 = (j : Int) - 1 ∧ a ≤ i ∧ j ≤ b ∧ i ≤ j + 1 ∧ SP a b l z.2.2) (fun z => (z.2.1 - z.1 + 2).toNat) ⟨a, b, rfl, rfl, Nat.le_refl _, Nat.le_refl _, by omega, SP.refl _ _ _⟩ (by simp only; omega) ?_
  rintro ⟨z, y, m⟩ ⟨i, j, rfl, hy, h1, h2, h3, h4⟩
  simp only at hy h4
  subst hy
  have hlen := h4.len
  rw [hbody]
  simp only
  rw [Tot.ite_iff]
  refine ⟨fun k => ?_, fun k => Tot.some_iff.2 ⟨_, _, _, rfl, h4⟩⟩
  have k : (i : Int) < (j : Int) - 1 := by simpa using k
  obtain ⟨j, rfl⟩ : ∃ r, j = r + 1 := ⟨j - 1, by omega⟩
  have e : ((j + 1 : Nat) : Int) - 1 = (j : Int) := by omega
  rw [e]
  refine swap_step (a := a) (b := b) ⟨h1, by omega⟩ ⟨by omega, by omega⟩ (by omega) fun x y hx hy hs => ?_
  rw [Tot.some_iff, w64_id (by omega) (by omega), w64_id (by omega) (by omega)]
  exact ⟨⟨i + 1, j, by push_cast; rfl, rfl, by omega, by omega, by omega, h4.trans hs⟩, by simp only; omega⟩
end
end Go.Proofs.Ytnljiedichjagaa
