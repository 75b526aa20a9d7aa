/-
  The stable sort of the events: the order of the events, the search, the merge.
-/
import Derived.Test.YtclmlddmgccfjaaStStampSort
namespace Go.Proofs.Ytclmlddmgccfjaa
open Enc

theorem smid_eq {i j : Nat} (h : i + j ≤ 2 ^ 41) : w64 (((BitVec.ofInt 64 (w64 ((i : Int) + (j : Int)))) >>> 1).toNat : Int) = (((i + j) / 2 : Nat) : Int) := by
  rw [w64_id (x := (i : Int) + (j : Int)) (by omega) (by omega), BitVec.toNat_ushiftRight, BitVec.toNat_ofInt, Nat.shiftRight_eq_div_pow]
  have : (((i : Int) + (j : Int)) % ((2 ^ 64 : Nat) : Int)).toNat = i + j := by omega
  rw [this]
  exact w64_id (by omega) (by omega)

/-! ### The order -/
def kst (s : List Int) (x : Int) : Int := (s[x.toNat]?).getD 0
def kpr (h : List Event) (x : Int) : Int := ((h[x.toNat]?).map Event.Proc).getD 0
def elt (s : List Int) (h : List Event) (x y : Int) : Bool := decide (kst s x < kst s y ∨ kst s x = kst s y ∧ kpr h x < kpr h y)
def InH (s : List Int) (h : List Event) (x : Int) : Prop := 0 ≤ x ∧ x.toNat < s.length ∧ x.toNat < h.length
theorem elt_swo (s : List Int) (h : List Event) : SWO (InH s h) (elt s h) := by
  refine ⟨fun x y _ _ => ?_, fun x y z _ _ _ => ?_⟩
  · unfold elt; simp only [decide_eq_true_eq, decide_eq_false_iff_not]; omega
  · unfold elt; simp only [decide_eq_false_iff_not]; omega
theorem cmpc_eq (a b : Int) : cmp_Compare_int a b = some (if a < b then -1 else if b < a then 1 else 0) := by
  unfold cmp_Compare_int cmp_isNaN_int
  simp only [bne_self_eq_false, Option.bind_some, cond_false]
  by_cases h : a < b
  · simp [h]
  · by_cases h2 : b < a
    · simp [h, h2]
    · simp [h, h2]
theorem cmpor_eq (x y : Int) : cmp_Or_int [x, y] = some (if x ≠ 0 then x else y) := by
  unfold cmp_Or_int
  by_cases h : x = 0
  · subst h
    by_cases h2 : y = 0
    · subst h2; rfl
    · have e : (y != 0) = true := by simpa using h2
      simp [rangeM, cmp_Or_int_B0, lat, andThen, e]
  · have e : (x != 0) = true := by simpa using h
    simp [rangeM, cmp_Or_int_B0, lat, andThen, e, h]
theorem total_cmp {s : List Int} {h : List Event} {x y : Int} (hx : InH s h x) (hy : InH s h y) : ∃ r, stamp_Total_1 x y s h = some r ∧ decide (r < 0) = elt s h x y := by
  obtain ⟨x0, x1, x2⟩ := hx
  obtain ⟨y0, y1, y2⟩ := hy
  obtain ⟨i, rfl⟩ := int_nat x0
  obtain ⟨j, rfl⟩ := int_nat y0
  simp only [Int.toNat_natCast] at x1 x2 y1 y2
  unfold stamp_Total_1
  rw [lat_i x1, lat_i y1, lat_i x2, lat_i y2]
  simp only [Option.bind_some, cmpc_eq, cmpor_eq]
  refine ⟨_, rfl, ?_⟩
  have e1 : kst s (i : Int) = s[i] := by simp [kst, x1]
  have e2 : kst s (j : Int) = s[j] := by simp [kst, y1]
  have e3 : kpr h (i : Int) = h[i].Proc := by simp [kpr, x2]
  have e4 : kpr h (j : Int) = h[j].Proc := by simp [kpr, y2]
  unfold elt
  rw [e1, e2, e3, e4]
  generalize s[i] = a
  generalize s[j] = b
  generalize h[i].Proc = c
  generalize h[j].Proc = d
  rcases Int.lt_trichotomy a b with h1 | h1 | h1
  · simp [h1]
  · subst h1
    rcases Int.lt_trichotomy c d with h2 | h2 | h2
    · simp [h2]
    · subst h2; simp
    · have : ¬ c < d := by omega
      simp [h2, this]
  · have h2 : ¬ a < b := by omega
    have h3 : ¬ a = b := by omega
    simp [h1, h2, h3]

/-! ### The search -/
theorem bsearch_law {lo hi fu : Nat} {f : Nat → Bool} {τ : Type} {body : Int × Int → Option (Ctl (Int × Int) τ)} (hlh : lo ≤ hi) (hfu : hi < fu)
    (hmono : ∀ i j, lo ≤ i → i ≤ j → j < hi → f j = true → f i = true)
    (hbody : ∀ i j : Nat, lo ≤ i → i ≤ j → j ≤ hi → body ((i : Int), (j : Int)) = some (bif decide (i < j) then (bif f ((i + j) / 2) then .go ((((i + j) / 2 + 1 : Nat) : Int), (j : Int)) else .go ((i : Int), (((i + j) / 2 : Nat) : Int))) else .brk ((i : Int), (j : Int)))) :
    Tot (whileM body fu ((lo : Int), (hi : Int))) fun o => ∃ s : Nat, o = .inl ((s : Int), (s : Int)) ∧ lo ≤ s ∧ s ≤ hi ∧ (∀ k, lo ≤ k → k < s → f k = true) ∧ (∀ k, s ≤ k → k < hi → f k = false) := by
  refine Tot.whileM (fun z : Int × Int => ∃ i j : Nat, z = ((i : Int), (j : Int)) ∧ lo ≤ i ∧ i ≤ j ∧ j ≤ hi ∧ (∀ k, lo ≤ k → k < i → f k = true) ∧ (∀ k, j ≤ k → k < hi → f k = false)) (fun z => (z.2 - z.1).toNat) ⟨lo, hi, rfl, Nat.le_refl _, hlh, Nat.le_refl _, fun k _ _ => by omega, fun k _ _ => by omega⟩ (by simp only; omega) ?_
  rintro _ ⟨i, j, rfl, h1, h2, h3, h4, h5⟩
  rw [hbody i j h1 h2 h3, Tot.some_iff]
  by_cases hij : i < j
  · rw [decide_eq_true hij, cond_true]
    cases hf : f ((i + j) / 2) with
    | true =>
      rw [cond_true]
      exact ⟨⟨_, _, rfl, by omega, by omega, h3, fun k k1 k2 => hmono k _ k1 (by omega) (by omega) hf, h5⟩, by simp only; omega⟩
    | false =>
      rw [cond_false]
      refine ⟨⟨_, _, rfl, h1, by omega, by omega, h4, fun k k1 k2 => ?_⟩, by simp only; omega⟩
      cases hk : f k with
      | false => rfl
      | true => rw [hmono _ k (by omega) k1 k2 hk] at hf; cases hf
  · obtain rfl : i = j := by omega
    rw [decide_eq_false hij, cond_false]
    exact ⟨i, rfl, h1, h3, h4, h5⟩

/-! ### What a turn of a range does to order -/
theorem SP.rot {α : Type} {l r : List α} {a m b : Nat} (h1 : a ≤ m) (h2 : m ≤ b) (hl : r.length = l.length) (hr : ∀ k, r[k]? = Rot l a m b k) : SP a b l r := by
  refine ⟨hl, fun k => if a ≤ k ∧ k < a + (b - m) then k + (m - a) else if a + (b - m) ≤ k ∧ k < b then k - (b - m) else k, fun k => if a ≤ k ∧ k < m then k + (b - m) else if m ≤ k ∧ k < b then k - (m - a) else k, fun i h3 h4 => ?_, fun i hi => ?_, fun i => ?_, fun i => ?_⟩
  · simp only
    constructor <;> (repeat' split) <;> omega
  · simp only
    constructor <;> (repeat' split) <;> omega
  · simp only
    constructor <;> (repeat' split) <;> omega
  · rw [hr]; unfold Rot
    simp only
    repeat' split
    all_goals first | rfl | omega
def Crs {α : Type} (lt : α → α → Bool) (a c b : Nat) (l : List α) : Prop := ∀ (p q : Nat) x y, a ≤ p → p < c → c ≤ q → q < b → l[p]? = some x → l[q]? = some y → lt y x = false
section
variable {α : Type} {P : α → Prop} {lt : α → α → Bool}
theorem Crs.left {a c b : Nat} {l m : List α} (h : Crs lt a c b l) (hs : SP a c l m) : Crs lt a c b m := by
  intro p q x y h1 h2 h3 h4 hx hy
  rw [hs.out (by omega)] at hy
  exact hs.all (P := fun x => lt y x = false) (fun i z i1 i2 hz => h i q z y i1 i2 h3 h4 hz hy) p x h1 h2 hx
theorem Crs.right {a c b : Nat} {l m : List α} (h : Crs lt a c b l) (hs : SP c b l m) : Crs lt a c b m := by
  intro p q x y h1 h2 h3 h4 hx hy
  rw [hs.out (by omega)] at hx
  exact hs.all (P := fun y => lt y x = false) (fun i z i1 i2 hz => h p i x z h1 h2 i1 i2 hx hz) q y h3 h4 hy
theorem Srt.join {a c b : Nat} {l : List α} (h1 : Srt lt a c l) (h2 : Srt lt c b l) (h3 : Crs lt a c b l) : Srt lt a b l := by
  intro p q x y p1 p2 p3 hx hy
  by_cases k1 : q < c
  · exact h1 p q x y p1 p2 k1 hx hy
  · by_cases k2 : c ≤ p
    · exact h2 p q x y k2 p2 p3 hx hy
    · exact h3 p q x y p1 (by omega) (by omega) p3 hx hy
theorem Srt.out {a b c d : Nat} {l m : List α} (h : Srt lt a b l) (hs : SP c d l m) (hd : b ≤ c ∨ d ≤ a) : Srt lt a b m := by
  intro p q x y p1 p2 p3 hx hy
  rw [hs.out (by omega)] at hx hy
  exact h p q x y p1 p2 p3 hx hy
theorem Srt.sub {a b c d : Nat} {l : List α} (h : Srt lt a b l) (h1 : a ≤ c) (h2 : d ≤ b) : Srt lt c d l := fun p q x y p1 p2 p3 hx hy => h p q x y (by omega) p2 (by omega) hx hy
theorem Srt.one {a b : Nat} {l : List α} (h : b ≤ a + 1) : Srt lt a b l := fun p q x y p1 p2 p3 => by omega
/-- The parts after the turn: A1 B1 A2 B2. -/
theorem rot_parts {l r : List α} {a s m e b : Nat} (has : a ≤ s) (hsm : s ≤ m) (hme : m ≤ e) (heb : e ≤ b) (h1 : Srt lt a m l) (h2 : Srt lt m b l) (hr : ∀ k, r[k]? = Rot l s m e k) :
    Srt lt a s r ∧ Srt lt s (s + (e - m)) r ∧ Srt lt (s + (e - m)) e r ∧ Srt lt e b r := by
  have at1 : ∀ k, ¬ (s ≤ k ∧ k < e) → r[k]? = l[k]? := fun k hk => by rw [hr]; unfold Rot; rw [if_neg (by omega), if_neg (by omega)]
  have at2 : ∀ k, s ≤ k → k < s + (e - m) → r[k]? = l[k + (m - s)]? := fun k k1 k2 => by rw [hr]; unfold Rot; rw [if_pos (by omega)]
  have at3 : ∀ k, s + (e - m) ≤ k → k < e → r[k]? = l[k - (e - m)]? := fun k k1 k2 => by rw [hr]; unfold Rot; rw [if_neg (by omega), if_pos (by omega)]
  refine ⟨fun p q x y p1 p2 p3 hx hy => ?_, fun p q x y p1 p2 p3 hx hy => ?_, fun p q x y p1 p2 p3 hx hy => ?_, fun p q x y p1 p2 p3 hx hy => ?_⟩
  · rw [at1 _ (by omega)] at hx hy
    exact h1 p q x y p1 p2 (by omega) hx hy
  · rw [at2 _ (by omega) (by omega)] at hx hy
    exact h2 _ _ x y (by omega) (by omega) (by omega) hx hy
  · rw [at3 _ (by omega) (by omega)] at hx hy
    exact h1 _ _ x y (by omega) (by omega) (by omega) hx hy
  · rw [at1 _ (by omega)] at hx hy
    exact h2 p q x y (by omega) p2 p3 hx hy
theorem rot_cross {l r : List α} {a s m e b : Nat} (hsm : s ≤ m) (hme : m ≤ e) (h1 : Srt lt a m l) (h2 : Srt lt m b l) (hr : ∀ k, r[k]? = Rot l s m e k)
    (hA : ∀ (p q : Nat) x y, a ≤ p → p < s → e ≤ q → q < b → l[p]? = some x → l[q]? = some y → lt y x = false)
    (hB : ∀ (p q : Nat) x y, m ≤ p → p < e → s ≤ q → q < m → l[p]? = some x → l[q]? = some y → lt y x = false) : Crs lt a (s + (e - m)) b r := by
  have at1 : ∀ k, ¬ (s ≤ k ∧ k < e) → r[k]? = l[k]? := fun k hk => by rw [hr]; unfold Rot; rw [if_neg (by omega), if_neg (by omega)]
  have at2 : ∀ k, s ≤ k → k < s + (e - m) → r[k]? = l[k + (m - s)]? := fun k k1 k2 => by rw [hr]; unfold Rot; rw [if_pos (by omega)]
  have at3 : ∀ k, s + (e - m) ≤ k → k < e → r[k]? = l[k - (e - m)]? := fun k k1 k2 => by rw [hr]; unfold Rot; rw [if_neg (by omega), if_pos (by omega)]
  intro p q x y p1 p2 q1 q2 hx hy
  by_cases k1 : p < s
  · rw [at1 _ (by omega)] at hx
    by_cases k2 : q < e
    · rw [at3 _ (by omega) (by omega)] at hy
      exact h1 p _ x y p1 (by omega) (by omega) hx hy
    · rw [at1 _ (by omega)] at hy
      exact hA p q x y p1 k1 (by omega) q2 hx hy
  · rw [at2 _ (by omega) (by omega)] at hx
    by_cases k2 : q < e
    · rw [at3 _ (by omega) (by omega)] at hy
      exact hB _ _ x y (by omega) (by omega) (by omega) (by omega) hx hy
    · rw [at1 _ (by omega)] at hy
      exact h2 _ q x y (by omega) (by omega) q2 hx hy
end

/-! ### One element goes up, goes down -/
theorem up_law {a i fu : Nat} {l : List Int} (hai : a < i) (hi : i ≤ l.length) (hn : l.length ≤ 2 ^ 40) (hfu : i < fu) :
    Tot (whileM (slices_symMergeCmpFunc_int_Total_1_B2 (i : Int)) fu ((a : Int), l)) fun o => ∃ j r, o = .inl (j, r) ∧ r.length = l.length ∧ ∀ k, r[k]? = Rot l a (a + 1) i k := by
  refine Tot.whileM (fun z : Int × List Int => ∃ j : Nat, z.1 = (j : Int) ∧ a ≤ j ∧ j + 1 ≤ i ∧ z.2.length = l.length ∧ ∀ k, z.2[k]? = Rot l a (a + 1) (j + 1) k) (fun z => ((i : Int) - z.1).toNat) ⟨a, rfl, Nat.le_refl _, hai, rfl, fun k => by unfold Rot; rw [if_neg (by omega)]; split <;> first | rfl | (refine congrArg (fun n => l[n]?) ?_; omega)⟩ (by simp only; omega) ?_
  rintro ⟨z, m⟩ ⟨j, rfl, h1, h2, h3, h4⟩
  simp only at h3 h4
  unfold slices_symMergeCmpFunc_int_Total_1_B2
  simp only
  have e1 : w64 ((i : Int) - 1) = ((i - 1 : Nat) : Int) := by rw [w64_id (by omega) (by omega)]; omega
  have e2 : w64 ((j : Int) + 1) = ((j + 1 : Nat) : Int) := by rw [w64_id (by omega) (by omega)]; rfl
  rw [e1, e2, Tot.ite_iff]
  refine ⟨fun q => ?_, fun q => ?_⟩
  · have q : j < i - 1 := by simpa using q
    refine swap_step (a := 0) (b := m.length) (i := j) (j := j + 1) (by omega) (by omega) (by omega) fun x y hx hy _ => ?_
    rw [Tot.some_iff]
    refine ⟨⟨j + 1, rfl, by omega, by omega, by simpa using h3, fun k => ?_⟩, by simp only; omega⟩
    simp only
    rw [swap_at hx hy]
    rw [h4] at hx hy
    unfold Rot at hx hy ⊢
    by_cases k1 : k = j + 1
    · subst k1
      rw [if_pos rfl, if_neg (by omega), if_pos (by omega), ← hx, if_neg (by omega), if_pos (by omega)]
      congr 1; omega
    · rw [if_neg k1]
      by_cases k2 : k = j
      · subst k2
        rw [if_pos rfl, if_pos (by omega), ← hy, if_neg (by omega), if_neg (by omega)]
        congr 1; omega
      · rw [if_neg k2, h4]
        unfold Rot
        repeat' split
        all_goals first | rfl | omega | (refine congrArg (fun n => l[n]?) ?_; omega)
  · have q : j + 1 = i := by simp at q; omega
    subst q
    exact Tot.some_iff.2 ⟨_, m, rfl, h3, h4⟩
theorem down_law {i m fu : Nat} {l : List Int} (him : i ≤ m) (hm : m < l.length) (hn : l.length ≤ 2 ^ 40) (hfu : m < fu) :
    Tot (whileM (slices_symMergeCmpFunc_int_Total_1_B6 (i : Int)) fu ((m : Int), l)) fun o => ∃ j r, o = .inl (j, r) ∧ r.length = l.length ∧ ∀ k, r[k]? = Rot l i m (m + 1) k := by
  refine Tot.whileM (fun z : Int × List Int => ∃ j : Nat, z.1 = (j : Int) ∧ i ≤ j ∧ j ≤ m ∧ z.2.length = l.length ∧ ∀ k, z.2[k]? = Rot l j m (m + 1) k) (fun z => z.1.toNat) ⟨m, rfl, him, Nat.le_refl _, rfl, fun k => by unfold Rot; split <;> first | (refine congrArg (fun n => l[n]?) ?_; omega) | (rw [if_neg (by omega)])⟩ (by simp only; omega) ?_
  rintro ⟨z, d⟩ ⟨j, rfl, h1, h2, h3, h4⟩
  simp only at h3 h4
  unfold slices_symMergeCmpFunc_int_Total_1_B6
  simp only
  rw [Tot.ite_iff]
  refine ⟨fun q => ?_, fun q => ?_⟩
  · have q : i < j := by simpa using q
    have e2 : w64 ((j : Int) - 1) = ((j - 1 : Nat) : Int) := by rw [w64_id (by omega) (by omega)]; omega
    rw [e2]
    refine swap_step (a := 0) (b := d.length) (i := j) (j := j - 1) (by omega) (by omega) (by omega) fun x y hx hy _ => ?_
    rw [Tot.some_iff]
    refine ⟨⟨j - 1, rfl, by omega, by omega, by simpa using h3, fun k => ?_⟩, by simp only; omega⟩
    simp only
    rw [swap_at hx hy]
    rw [h4] at hx hy
    unfold Rot at hx hy ⊢
    by_cases k1 : k = j - 1
    · subst k1
      rw [if_pos rfl, if_pos (by omega), ← hx, if_pos (by omega)]
      congr 1; omega
    · rw [if_neg k1]
      by_cases k2 : k = j
      · subst k2
        rw [if_pos rfl, if_neg (by omega), if_pos (by omega), ← hy, if_neg (by omega), if_neg (by omega)]
        congr 1; omega
      · rw [if_neg k2, h4]
        unfold Rot
        repeat' split
        all_goals first | rfl | omega | (refine congrArg (fun n => l[n]?) ?_; omega)
  · have q : j = i := by simp at q; omega
    subst q
    exact Tot.some_iff.2 ⟨_, d, rfl, h3, h4⟩
end Go.Proofs.Ytclmlddmgccfjaa
