/-
  PosetParts: the plain law.
-/
import Derived.Test.YticifbmaapnfbaaPpMatchSays
import Derived.Test.YticifbmaapnfbaaPpPosetOrd
namespace Go.Proofs.Yticifbmaapnfbaa
open Enc

theorem eq_rows (a b : List (List Int)) : slices_EqualFunc_int_int_int_int_int_int a b = some (decide (a = b)) := by
  unfold slices_EqualFunc_int_int_int_int_int_int
  refine equal_loop (fun x y => !decide (x = y)) (fun x y => rfl) fun j => ?_
  unfold slices_EqualFunc_int_int_int_int_int_int_B0
  simp only [eq_slices_Equal_int_int, Option.bind_some]
section
variable {l : List Pair} {n : Nat} {V : Vector (Vector Bool 20) 20}
noncomputable def betw (l : List Pair) (n a b : Nat) : Bool := (List.range n).any fun k => rch l a k && rch l k b
theorem prog_close (h : Ordr l n) (hV : IsV l V) : poset_order_all V (n : Int) = some (prs (rch l) n n) := by
  have hn := h.n20
  unfold poset_order_all poset_order_pairs_all_1
  rw [pairs_loop (f := rch l) hn (B2 := poset_order_pairs_all_1_B2 V) (B0 := poset_order_pairs_all_1_B0 V (n : Int)) (fun a b z ha hb hz => ?_) (fun a z => rfl)]
  · rfl
  · unfold poset_order_pairs_all_1_B2 poset_order_all_1
    rw [vat_lt _ (show a < 20 by omega), Option.bind_some, hV.at (by omega) (by omega), Option.bind_some, Option.bind_some, and_some, Option.bind_some, room_ok (by simp; omega), Option.bind_some]
    cases rch l a b <;> rfl
theorem ref_between (_ : Ordr l n) {M : List (List Bool)} (hM : IsClosure l n M) {a b : Nat} (ha : a < n) (hb : b < n) : rangeF (partref_AllPairs_B4 M a b) n 0 false = some (betw l n a b) := by
  refine Tot.eq ?_
  refine Tot.rangeF (fun k (z : Bool) => z = ((List.range k).any fun k => rch l a k && rch l k b)) rfl ?_ (by rintro z rfl; rw [Nat.zero_add]; rfl)
  rintro k z _ hk rfl
  have hk : k < n := by omega
  unfold partref_AllPairs_B4
  rw [mm1 hM ha, Option.bind_some, mm2 hM ha hk, Option.bind_some, mm1 hM hk, Option.bind_some, mm2 hM hk hb, Option.bind_some, List.range_succ, List.any_append]
  generalize (List.range k).any _ = w
  simp only [List.any_cons, List.any_nil, Bool.or_false]
  cases w <;> cases rch l a k <;> cases rch l k b <;> exact Tot.some_iff.2 rfl
theorem ref_pairs (h : Ordr l n) {M : List (List Bool)} (hM : IsClosure l n M) {p : Poset} (hp : p.N = (n : Int)) {fu : Nat} (e : partref_Closure fu (n : Int) p.Pairs = some M) (c : Bool) : partref_AllPairs fu p c = some (prs (fun a b => rch l a b && !(c && betw l n a b)) n n) := by
  have hn := h.n20
  unfold partref_AllPairs
  rw [hp, e, Option.bind_some]
  have eu : upTo (n : Int) = some n := by rw [upTo_ok (by omega)]; rfl
  refine pairs_loop (f := fun a b => rch l a b && !(c && betw l n a b)) hn (B2 := partref_AllPairs_B2 p c M) (B0 := partref_AllPairs_B0 p c M) (fun a b z ha hb hz => ?_) (fun a z => by unfold partref_AllPairs_B0; rw [hp])
  unfold partref_AllPairs_B2
  rw [hp, eu, Option.bind_some, ref_between h hM ha hb, Option.bind_some, mm1 hM ha, Option.bind_some, mm2 hM ha hb, Option.bind_some, and_some, Option.bind_some, room_ok (by simp; omega), Option.bind_some]
  cases rch l a b <;> cases c <;> cases betw l n a b <;> rfl
end
/-! ### The pairs of a matching -/
def mps (M : Nat → Int) : Nat → List Pair
  | 0 => []
  | k + 1 => bif decide (M k ≥ 0) then mps M k ++ [⟨(k : Int), M k⟩] else mps M k
theorem mps_len {M : Nat → Int} : ∀ k, (mps M k).length ≤ k
  | 0 => Nat.le_refl _
  | k + 1 => by
    have := mps_len (M := M) k
    unfold mps
    cases decide (M k ≥ 0) <;> simp <;> omega
theorem mem_mps {M : Nat → Int} {p : Pair} : ∀ {k : Nat}, p ∈ mps M k ↔ ∃ a, a < k ∧ M a ≥ 0 ∧ p = ⟨(a : Int), M a⟩
  | 0 => by simp [mps]
  | k + 1 => by
    unfold mps
    by_cases h : M k ≥ 0
    · rw [decide_eq_true h, cond_true, List.mem_append, mem_mps (k := k), List.mem_singleton]
      constructor
      · rintro (⟨a, h1, h2, h3⟩ | rfl)
        · exact ⟨a, by omega, h2, h3⟩
        · exact ⟨k, by omega, h, rfl⟩
      · rintro ⟨a, h1, h2, rfl⟩
        by_cases e : a = k
        · subst e; exact .inr rfl
        · exact .inl ⟨a, by omega, h2, rfl⟩
    · rw [decide_eq_false h, cond_false, mem_mps (k := k)]
      constructor
      · rintro ⟨a, h1, h2, h3⟩; exact ⟨a, by omega, h2, h3⟩
      · rintro ⟨a, h1, h2, h3⟩
        have : a ≠ k := fun e => by subst e; exact h h2
        exact ⟨a, by omega, h2, h3⟩
theorem most_pairs {n m : Nat} {g : Graph} {L M : Nat → Int} (hm : m ≤ 40) (h1 : LIs g.left n L) (hc : Coh n m L M (-1)) : rangeF (match_Most_B0 g) m 0 [] = some (mps M m) := by
  refine Tot.eq ?_
  refine Tot.rangeF (fun i z => z = mps M i) rfl ?_ (by rintro z rfl; rw [Nat.zero_add])
  rintro i z _ hi rfl
  have hi : i < m := by omega
  have hl := mps_len (M := M) i
  have hr : ∀ x : Pair, room (mps M i) [x] = some () := fun x => by unfold room; rw [if_pos]; simp; omega
  unfold match_Most_B0
  rw [eq_slices_Index_int_int, Option.bind_some, idx_mate h1 hc hi, hr, Option.bind_some]
  show Tot _ fun z => z = bif decide (M i ≥ 0) then mps M i ++ [⟨(i : Int), M i⟩] else mps M i
  cases decide (M i ≥ 0) <;> exact Tot.some_iff.2 rfl
theorem nexts_law {n : Nat} {M : Nat → Int} (hr : ∀ a, a < n → -1 ≤ M a ∧ M a < n) :
    ∃ first next, rangeF (poset_Chains_B0 (mps M n)) (mps M n).length 0 (List.replicate n true, List.replicate n (-1)) = some (first, next) ∧ LIs next n M ∧ LIs first n fun b => !(List.range n).any fun a => M a == (b : Int) := by
  have key : Tot (rangeF (poset_Chains_B0 (mps M n)) (mps M n).length 0 (List.replicate n true, List.replicate n (-1))) fun z => LIs z.2 n M ∧ LIs z.1 n fun b => !(List.range n).any fun a => M a == (b : Int) := by
    refine Tot.rangeF (fun i z => LIs z.2 n (fun a => bif ((mps M n).take i).any (fun p => p.A == (a : Int)) then M a else -1) ∧ LIs z.1 n (fun b => !((mps M n).take i).any fun p => p.B == (b : Int))) ⟨LIs.rep.to fun a ha => by simp, LIs.rep.to fun a ha => by simp⟩ ?_ ?_
    · rintro i ⟨z1, z2⟩ _ hi ⟨h1, h2⟩
      simp only at h1 h2
      have hi : i < (mps M n).length := by omega
      have hx : (mps M n)[i]? = some (mps M n)[i] := by simp [hi]
      obtain ⟨a, ha, hma, e⟩ := mem_mps.1 (List.mem_of_getElem? hx)
      rw [e] at hx
      obtain ⟨b, hb⟩ := int_nat hma
      have hbn : b < n := by have := hr a ha; omega
      unfold poset_Chains_B0
      rw [lat_nat, hx, Option.bind_some]
      simp only
      rw [hb, h1.lat ha, Option.bind_some, Tot.let_iff, h2.lat hbn, Option.bind_some, Tot.let_iff, Tot.some_iff, Int.toNat_natCast, Int.toNat_natCast]
      refine ⟨(h1.set a _).to fun c hc => ?_, (h2.set b _).to fun c hc => ?_⟩
      · rw [List.take_add_one, hx, List.any_append]
        by_cases e : c = a
        · subst e; rw [upd_self]; simp [hb]
        · rw [upd_ne e]
          have : ((a : Int) == (c : Int)) = false := by simp; omega
          simp [this]
      · rw [List.take_add_one, hx, List.any_append]
        by_cases e : c = b
        · subst e; rw [upd_self]; simp [hb]
        · rw [upd_ne e]
          have : ((b : Int) == (c : Int)) = false := by simp; omega
          simp [this, hb]
    · rintro z ⟨h1, h2⟩
      rw [Nat.zero_add, List.take_length] at h1 h2
      refine ⟨h1.to fun a ha => ?_, h2.to fun b hb => ?_⟩
      · by_cases hm : M a ≥ 0
        · have : (mps M n).any (fun p => p.A == (a : Int)) = true := List.any_eq_true.2 ⟨⟨(a : Int), M a⟩, mem_mps.2 ⟨a, ha, hm, rfl⟩, by simp⟩
          rw [this, cond_true]
        · have : (mps M n).any (fun p => p.A == (a : Int)) = false := List.any_eq_false.2 fun p hp => by
            obtain ⟨c, hc, hmc, rfl⟩ := mem_mps.1 hp
            have : c ≠ a := fun e => by subst e; exact hm hmc
            simp; omega
          rw [this, cond_false]
          have := hr a ha; omega
      · congr 1
        rw [Bool.eq_iff_iff, List.any_eq_true, List.any_eq_true]
        constructor
        · rintro ⟨p, hp, h⟩
          obtain ⟨c, hc, hmc, rfl⟩ := mem_mps.1 hp
          exact ⟨c, List.mem_range.2 hc, h⟩
        · rintro ⟨c, hc, h⟩
          have hc := List.mem_range.1 hc
          have h' := beq_iff_eq.1 h
          exact ⟨⟨(c : Int), M c⟩, mem_mps.2 ⟨c, hc, by omega, rfl⟩, h⟩
  obtain ⟨⟨f, x⟩, e, h1, h2⟩ := key
  exact ⟨f, x, e, h1, h2⟩

/-! ### Chains -/
def orb (M : Nat → Int) (k : Nat) : Nat → Int
  | 0 => (k : Int)
  | j + 1 => M (orb M k j).toNat
theorem orb_ne {n k : Nat} {M : Nat → Int} (hinj : ∀ a b, a < n → b < n → M a = M b → 0 ≤ M a → a = b) (hno : ∀ a, a < n → M a ≠ (k : Int)) : ∀ (i j : Nat), i < j → (∀ q, q ≤ j → 0 ≤ orb M k q ∧ orb M k q < n) → orb M k i ≠ orb M k j
  | 0, 0, h, _ => by omega
  | 0, j + 1, _, hq => fun e => by
    have := hq j (by omega)
    exact hno (orb M k j).toNat (by omega) e.symm
  | i + 1, 0, h, _ => by omega
  | i + 1, j + 1, h, hq => fun e => by
    have h1 := hq i (by omega)
    have h2 := hq j (by omega)
    have h3 := hq (i + 1) (by omega)
    have := hinj (orb M k i).toNat (orb M k j).toNat (by omega) (by omega) e h3.1
    exact orb_ne hinj hno i j (by omega) (fun q hq' => hq q (by omega)) (by omega)
theorem orbs_le {n k t : Nat} {M : Nat → Int} (hinj : ∀ a b, a < n → b < n → M a = M b → 0 ≤ M a → a = b) (hno : ∀ a, a < n → M a ≠ (k : Int)) (hq : ∀ q, q < t → 0 ≤ orb M k q ∧ orb M k q < n) : t ≤ n := by
  have hnd : ((List.range t).map (orb M k)).Nodup := by
    unfold List.Nodup
    rw [List.pairwise_map]
    refine List.Pairwise.imp_of_mem (R := fun a b => a < b) (fun {a b} ha hb hab => ?_) List.pairwise_lt_range
    have hb := List.mem_range.1 hb
    exact orb_ne hinj hno a b hab fun q hq' => hq q (by omega)
  have := List.Nodup.length_le_of_subset hnd (l₂ := idn n) fun x hx => by
    obtain ⟨q, hq1, rfl⟩ := List.mem_map.1 hx
    have := hq q (List.mem_range.1 hq1)
    obtain ⟨c, hc⟩ := int_nat this.1
    exact mem_idn.2 ⟨c, hc, by omega⟩
  rw [idn_len] at this
  simpa using this
theorem chain_law {τ : Type} {n k fu : Nat} {M : Nat → Int} {next : List Int} (hn : n ≤ 40) (hM : LIs next n M) (hr : ∀ a, a < n → -1 ≤ M a ∧ M a < n) (hinj : ∀ a b, a < n → b < n → M a = M b → 0 ≤ M a → a = b) (hk : k < n) (hno : ∀ a, a < n → M a ≠ (k : Int)) (hfu : 50 < fu)
    {B : Int × List Int → Option (Ctl (Int × List Int) τ)} (hB : ∀ z, B z = bif decide (z.1 ≥ (0 : Int)) then ((room z.2 ([z.1] : List Int)).bind fun _ => (lat next z.1).bind fun x => some (.go (x, z.2 ++ ([z.1] : List Int)))) else some (.brk (z.1, z.2))) :
    ∃ y c, whileM B fu ((k : Int), []) = some (.inl (y, c)) ∧ c[0]? = some (k : Int) := by
  have key : Tot (whileM B fu ((k : Int), [])) fun o => ∃ y c, o = .inl (y, c) ∧ c[0]? = some (k : Int) := by
    refine Tot.whileM (fun z => ∃ t, z = (orb M k t, (List.range t).map (orb M k)) ∧ (∀ q, q < t → 0 ≤ orb M k q ∧ orb M k q < n) ∧ -1 ≤ orb M k t ∧ orb M k t < n) (fun z => n + 1 - z.2.length) ⟨0, rfl, fun q hq => by omega, by show -1 ≤ (k : Int); omega, by show (k : Int) < n; omega⟩ (by simp; omega) ?_
    rintro _ ⟨t, rfl, h1, h2, h3⟩
    have ht := orbs_le hinj hno h1
    rw [hB, Tot.ite_iff]
    refine ⟨fun q => ?_, fun q => ?_⟩
    · have q : 0 ≤ orb M k t := by simpa using q
      have h1' : ∀ q, q < t + 1 → 0 ≤ orb M k q ∧ orb M k q < n := fun p hp => by
        by_cases e : p = t
        · subst e; exact ⟨q, h3⟩
        · exact h1 p (by omega)
      have ht' := orbs_le hinj hno h1'
      have hlt : (orb M k t).toNat < n := by omega
      rw [room_ok (by simp; omega), Option.bind_some]
      simp only
      have el : lat next (orb M k t) = some (M (orb M k t).toNat) := by
        have := hM.lat hlt
        rwa [Int.toNat_of_nonneg q] at this
      rw [el, Option.bind_some, Tot.some_iff]
      refine Tot.go_iff.2 ⟨⟨t + 1, ?_, h1', ?_⟩, ?_⟩
      · rw [List.range_succ, List.map_append]; rfl
      · exact hr _ hlt
      · simp only [List.length_append, List.length_map, List.length_range, List.length_singleton]; omega
    · have q : ¬ 0 ≤ orb M k t := by simpa using q
      rw [Tot.some_iff]
      refine Tot.brk_iff.2 ⟨_, _, rfl, ?_⟩
      cases t with
      | zero => exact absurd (show 0 ≤ (k : Int) by omega) q
      | succ t => rw [List.range_succ_eq_map]; rfl
  obtain ⟨_, e, y, c, rfl, h⟩ := key
  exact ⟨y, c, e, h⟩

/-! ### What is in order stays -/
def Inc (l : List (List Int)) : Prop := ∀ (i j : Nat) x y, i < j → l[i]? = some x → l[j]? = some y → ∃ a b : Int, x[0]? = some a ∧ y[0]? = some b ∧ a < b
theorem cmp_inc {x y : List Int} {a b : Int} (hx : x[0]? = some a) (hy : y[0]? = some b) (h : a < b) : poset_Chains_1 y x = some 1 := by
  have e1 : lat y (0 : Int) = some b := by have := lat_nat y 0; rw [hy] at this; exact this
  have e2 : lat x (0 : Int) = some a := by have := lat_nat x 0; rw [hx] at this; exact this
  unfold poset_Chains_1 cmp_Compare_int cmp_isNaN_int
  rw [e1, Option.bind_some, e2, Option.bind_some]
  simp only [Option.bind_some, bne_self_eq_false, cond_false, decide_eq_false (show ¬ b < a by omega), decide_eq_true (show b > a by omega), cond_true]
theorem Inc.cmp {l : List (List Int)} (h : Inc l) {i j : Nat} (hij : i < j) (hj : j < l.length) : ∃ x y, lat l (i : Int) = some x ∧ lat l (j : Int) = some y ∧ poset_Chains_1 y x = some 1 := by
  have hi : i < l.length := by omega
  obtain ⟨a, b, h1, h2, h3⟩ := h i j l[i] l[j] hij (by simp [hi]) (by simp [hj])
  exact ⟨l[i], l[j], lat_lt hi, lat_lt hj, cmp_inc h1 h2 h3⟩
theorem ins_stay {l : List (List Int)} (h : Inc l) (hn : l.length ≤ 40) {fu : Nat} (hfu : 50 < fu) : slices_insertionSortCmpFunc_int_Chains_1 fu l 0 (l.length : Int) = some l := by
  obtain ⟨f, rfl⟩ : ∃ f, fu = f + 1 := ⟨fu - 1, by omega⟩
  unfold slices_insertionSortCmpFunc_int_Chains_1
  refine Tot.eq ?_
  rw [Tot.andThen_iff, show w64 ((0 : Int) + 1) = ((1 : Nat) : Int) from rfl]
  refine Tot.whileM (fun z => ∃ i : Nat, z = ((i : Int), l) ∧ 1 ≤ i) (fun z => ((l.length : Int) + 1 - z.1).toNat) ⟨1, rfl, Nat.le_refl _⟩ (by simp only; omega) ?_
  rintro _ ⟨i, rfl, hi⟩
  unfold slices_insertionSortCmpFunc_int_Chains_1_B0
  simp only
  rw [Tot.ite_iff]
  refine ⟨fun q => ?_, fun q => ?_⟩
  · have q : i < l.length := by simpa using q
    obtain ⟨x, y, e1, e2, e3⟩ := h.cmp (show i - 1 < i by omega) q
    have e0 : w64 ((i : Int) - 1) = ((i - 1 : Nat) : Int) := by rw [w64_id (by omega) (by omega)]; omega
    have hb : slices_insertionSortCmpFunc_int_Chains_1_B2 0 ((i : Int), l) = some (.brk ((i : Int), l)) := by
      unfold slices_insertionSortCmpFunc_int_Chains_1_B2
      simp only
      rw [decide_eq_true (show (i : Int) > 0 by omega), cond_true, e2, Option.bind_some, e0, e1, Option.bind_some, e3]
      rfl
    have hw : whileM (slices_insertionSortCmpFunc_int_Chains_1_B2 0) (f + 1) ((i : Int), l) = some (.inl ((i : Int), l)) := by
      unfold whileM; rw [hb]; rfl
    rw [hw, andThen_inl, Tot.some_iff]
    refine Tot.go_iff.2 ⟨⟨i + 1, ?_, by omega⟩, ?_⟩
    · rw [w64_id (by omega) (by omega)]; rfl
    · simp only; rw [w64_id (by omega) (by omega)]; omega
  · rw [Tot.some_iff]
    exact Tot.brk_iff.2 (Tot.inl_iff.2 (Tot.some_iff.2 rfl))
theorem part_stay {l : List (List Int)} (h : Inc l) (hn : l.length ≤ 40) (h2 : 2 ≤ l.length) {fu : Nat} (hfu : 50 < fu) : slices_partialInsertionSortCmpFunc_int_Chains_1 fu l 0 (l.length : Int) = some (l, true) := by
  obtain ⟨f, rfl⟩ : ∃ f, fu = f + 1 := ⟨fu - 1, by omega⟩
  unfold slices_partialInsertionSortCmpFunc_int_Chains_1
  rw [show w64 ((0 : Int) + 1) = ((1 : Nat) : Int) from rfl]
  have hw : whileM (slices_partialInsertionSortCmpFunc_int_Chains_1_B2 (l.length : Int) l) (f + 1) ((1 : Nat) : Int) = some (.inl (l.length : Int)) := by
    refine Tot.eq ?_
    refine Tot.whileM (fun z => ∃ i : Nat, z = (i : Int) ∧ 1 ≤ i ∧ i ≤ l.length) (fun z => ((l.length : Int) + 1 - z).toNat) ⟨1, rfl, Nat.le_refl _, by omega⟩ (by omega) ?_
    rintro _ ⟨i, rfl, hi, hil⟩
    unfold slices_partialInsertionSortCmpFunc_int_Chains_1_B2
    by_cases q : i < l.length
    · obtain ⟨x, y, e1, e2, e3⟩ := h.cmp (show i - 1 < i by omega) q
      have e0 : w64 ((i : Int) - 1) = ((i - 1 : Nat) : Int) := by rw [w64_id (by omega) (by omega)]; omega
      rw [decide_eq_true (show (i : Int) < l.length by omega), cond_true, e2, Option.bind_some, e0, e1, Option.bind_some, e3]
      refine Tot.some_iff.2 (Tot.go_iff.2 ⟨⟨i + 1, ?_, by omega, by omega⟩, ?_⟩)
      · rw [w64_id (by omega) (by omega)]; rfl
      · rw [w64_id (by omega) (by omega)]; omega
    · have : i = l.length := by omega
      subst this
      rw [decide_eq_false (by omega), cond_false]
      exact Tot.some_iff.2 (Tot.brk_iff.2 rfl)
  have hb : slices_partialInsertionSortCmpFunc_int_Chains_1_B0 (f + 1) 0 (l.length : Int) (((1 : Nat) : Int), (0 : Int), l) = some (.ret (l, true)) := by
    unfold slices_partialInsertionSortCmpFunc_int_Chains_1_B0
    simp only
    rw [hw, andThen_inl]
    simp
  unfold whileM
  rw [hb]; rfl
theorem choose_stay {l : List (List Int)} (h : Inc l) (h1 : 12 < l.length) (hn : l.length ≤ 40) : ∃ p, slices_choosePivotCmpFunc_int_Chains_1 l 0 (l.length : Int) = some (p, 1) := by
  have ord : ∀ i j : Nat, i < j → j < l.length → slices_order2CmpFunc_int_Chains_1 l (i : Int) (j : Int) 0 = some (0, (i : Int), (j : Int)) := fun i j hij hj => by
    obtain ⟨x, y, e1, e2, e3⟩ := h.cmp hij hj
    unfold slices_order2CmpFunc_int_Chains_1
    rw [e2, Option.bind_some, e1, Option.bind_some, e3]
    rfl
  obtain ⟨q, hq, q1, q2⟩ : ∃ q : Nat, (l.length : Int).tdiv 4 = (q : Int) ∧ 3 ≤ q ∧ 4 * q ≤ l.length := by
    refine ⟨l.length / 4, ?_, by omega, by omega⟩
    rw [Int.tdiv_eq_ediv_of_nonneg (by omega)]; rfl
  have e0 : w64 ((l.length : Int) - 0) = l.length := by rw [w64_id (by omega) (by omega)]; omega
  have eq : w64 (q : Int) = q := w64_id (by omega) (by omega)
  have m1 : w64 ((q : Int) * 1) = q := by rw [w64_id (by omega) (by omega)]; omega
  have m2 : w64 ((q : Int) * 2) = ((2 * q : Nat) : Int) := by rw [w64_id (by omega) (by omega)]; omega
  have m3 : w64 ((q : Int) * 3) = ((3 * q : Nat) : Int) := by rw [w64_id (by omega) (by omega)]; omega
  have z : ∀ k : Nat, k ≤ 100 → w64 ((0 : Int) + (k : Int)) = (k : Int) := fun k hk => by rw [w64_id (by omega) (by omega)]; omega
  have med : slices_medianCmpFunc_int_Chains_1 l (q : Int) ((2 * q : Nat) : Int) ((3 * q : Nat) : Int) 0 = some (0, ((2 * q : Nat) : Int)) := by
    unfold slices_medianCmpFunc_int_Chains_1
    rw [ord q (2 * q) (by omega) (by omega), Option.bind_some]
    simp only
    rw [ord (2 * q) (3 * q) (by omega) (by omega), Option.bind_some]
    simp only
    rw [ord q (2 * q) (by omega) (by omega), Option.bind_some]
  refine ⟨((2 * q : Nat) : Int), ?_⟩
  unfold slices_choosePivotCmpFunc_int_Chains_1
  simp only [e0, hq, eq, m1, m2, m3, z q (by omega), z (2 * q) (by omega), z (3 * q) (by omega), decide_eq_true (show (l.length : Int) ≥ 8 by omega), decide_eq_false (show ¬ (l.length : Int) ≥ 50 by omega), cond_true, cond_false, Option.bind_some, med]
  rfl
theorem pdq_stay {l : List (List Int)} (h : Inc l) (hn : l.length ≤ 40) {lim : Int} (hl : 12 < l.length → lim ≠ 0) {fu : Nat} (hfu : 60 < fu) : slices_pdqsortCmpFunc_int_Chains_1 fu l 0 (l.length : Int) lim = some l := by
  obtain ⟨f, rfl⟩ : ∃ f, fu = f + 1 + 1 := ⟨fu - 2, by omega⟩
  show slices_pdqsortCmpFunc_int_Chains_1_R (f + 1) (slices_pdqsortCmpFunc_int_Chains_1 (f + 1)) l 0 (l.length : Int) lim = some l
  unfold slices_pdqsortCmpFunc_int_Chains_1_R
  have e0 : w64 ((l.length : Int) - 0) = l.length := by rw [w64_id (by omega) (by omega)]; omega
  have hb : slices_pdqsortCmpFunc_int_Chains_1_B0 (f + 1) (slices_pdqsortCmpFunc_int_Chains_1 (f + 1)) ((0 : Int), (l.length : Int), lim, true, true, l) = some (.ret l) := by
    unfold slices_pdqsortCmpFunc_int_Chains_1_B0
    simp only [e0]
    by_cases q : l.length ≤ 12
    · rw [decide_eq_true (show (l.length : Int) ≤ 12 by omega), cond_true, ins_stay h hn (by omega)]; rfl
    · have hz : (lim == (0 : Int)) = false := by simpa using hl (by omega)
      obtain ⟨p, ep⟩ := choose_stay h (by omega) hn
      rw [decide_eq_false (show ¬ (l.length : Int) ≤ 12 by omega), cond_false, hz, cond_false]
      simp only [Bool.not_true, cond_false, Option.bind_some, ep, cond_true, show ((1 : Int) == 2) = false from rfl, show ((1 : Int) == 1) = true from rfl, part_stay h hn (show 2 ≤ l.length by omega) (show 50 < f + 1 by omega), andThen_inr]
  unfold whileM
  rw [hb]; rfl
theorem len_20 : ∀ n : Nat, n ≤ 20 → ∃ k : Int, math_bits_Len (BitVec.ofInt 64 (n : Int)) = some k ∧ (12 < n → k ≠ 0) := by
  have h : (List.range 21).all (fun n => match math_bits_Len (BitVec.ofInt 64 (n : Int)) with | some k => k != 0 || decide (n ≤ 12) | none => false) = true := by decide +kernel
  intro n hn
  have := List.all_eq_true.1 h n (List.mem_range.2 (by omega))
  cases e : math_bits_Len (BitVec.ofInt 64 (n : Int)) with
  | none => rw [e] at this; cases this
  | some k =>
    rw [e] at this
    refine ⟨k, rfl, fun h => ?_⟩
    simp at this
    omega
theorem sort_stay {l : List (List Int)} (h : Inc l) (hn : l.length ≤ 20) {fu : Nat} (hfu : 60 < fu) : slices_SortFunc_int_int_Chains_1 fu l = some l := by
  obtain ⟨k, e, hk⟩ := len_20 l.length hn
  unfold slices_SortFunc_int_int_Chains_1
  rw [e, Option.bind_some, pdq_stay h (by omega) hk hfu]; rfl

/-! ### The two answers -/
theorem rep_true {n fu : Nat} (hn : n ≤ 1000) (hf : n < fu) : slices_Repeat_bool_bool fu [true] (n : Int) = some (List.replicate n true) := by
  rcases Nat.eq_zero_or_pos n with rfl | h
  · obtain ⟨k, rfl⟩ : ∃ k, fu = k + 1 := ⟨fu - 1, by omega⟩
    rfl
  · exact eq_slices_Repeat_bool_bool h (by omega) hf
theorem prs_ok {l : List Pair} {n : Nat} (hn : n ≤ 20) : POk n n (prs (rch l) n n) := by
  have hlen := prs_len (f := rch l) (n := n) n
  have hsq : n * n ≤ 20 * 20 := Nat.mul_le_mul hn hn
  refine ⟨by omega, by omega, by omega, fun x hx => ?_⟩
  unfold prs rowp at hx
  obtain ⟨a, ha, hx⟩ := List.mem_flatMap.1 hx
  obtain ⟨b, hb, rfl⟩ := List.mem_map.1 hx
  have ha := List.mem_range.1 ha
  have hb := List.mem_range.1 (List.mem_filter.1 hb).1
  unfold pr
  simp only
  omega
theorem check_ok {n : Nat} {l : List Pair} (h : POk n n l) : match_Check (n : Int) (n : Int) l = some 0 := by
  obtain ⟨c, e, hc⟩ := mcheck_law (n := n) (l := l) h.hn
  have hin : InR n l := fun p hp => by have := h.ok p hp; omega
  rcases hc with ⟨_, h1⟩ | ⟨_, _, h1⟩ | ⟨rfl, _⟩
  · have := h.len; omega
  · exact absurd hin h1
  · exact e
theorem cover_both {m n fu : Nat} {l : List Pair} (h : POk m n l) (hfu : 200 < fu) (hck : match_Check (m : Int) (n : Int) l = some 0) : ∃ u v, match_Cover fu (m : Int) (n : Int) l = some (u, v, 0) ∧ partref_Cover fu (m : Int) (n : Int) l = some (u, v) := by
  have hm := h.hm
  have hn := h.hn
  obtain ⟨g, mate, L, M, e1, e2, e3, e4, e5, e6⟩ := most_sim (fu := fu) h (by omega)
  obtain ⟨ys, xs, X, Y, c1, c2, c3, c4, c5⟩ := cover_law (fu := fu) hm (by omega) e3 e5 e6
  obtain ⟨x0, f1, f2⟩ := first_eq (n := n) e4
  obtain ⟨ys', xs', X', Y', r1, r2, r3, r4, r5⟩ := rounds_law h e4 e5.mr f2
  have hx : xs' = xs := marks_eq r2 c2 r4 c4
  have hy : ys' = ys := marks_eq r3 c3 r5 c5
  subst hx hy
  obtain ⟨⟨u, u1, u2⟩, _⟩ := lists_eq (k := m) (by omega) r2.1
  obtain ⟨_, v, v1, v2⟩ := lists_eq (k := n) (by omega) r3.1
  have w1 : w64 (w64 ((m : Int) + (n : Int)) + 1) = ((m + n + 1 : Nat) : Int) := by
    rw [w64_id (show -9223372036854775808 ≤ (m : Int) + n by omega) (by omega), w64_id (by omega) (by omega)]; omega
  refine ⟨u, v, ?_, ?_⟩
  · unfold match_Cover
    rw [hck, Option.bind_some, e1, Option.bind_some, mkLen_nat (by omega), Option.bind_some, mkLen_nat (by omega), Option.bind_some, upTo_nat (by omega)]
    simp only [bne_self_eq_false, cond_false, Let, Option.bind_some, c1, u1, v1]
  · unfold partref_Cover
    rw [e2, Option.bind_some, mkLen_nat (by omega), Option.bind_some, mkLen_nat (by omega), Option.bind_some, upTo_nat (by omega), upTo_nat (by omega), w1, upTo_nat (by omega)]
    simp only [Let, Option.bind_some, f1, r1, u2, v2]
theorem chains_loop {n fu : Nat} {M : Nat → Int} {first : List Bool} {next : List Int} (hn : n ≤ 20) (hfu : 50 < fu) (hM : LIs next n M) (hF : LIs first n fun b => !(List.range n).any fun a => M a == (b : Int)) (hr : ∀ a, a < n → -1 ≤ M a ∧ M a < n) (hinj : ∀ a b, a < n → b < n → M a = M b → 0 ≤ M a → a = b) :
    ∃ r, rangeF (poset_Chains_B2 fu first next) n 0 [] = some r ∧ rangeF (partref_Chains_B0 fu next) n 0 [] = some r ∧ Inc r ∧ r.length ≤ n := by
  obtain ⟨r, r', e1, e2, e3, h1, h2, _⟩ := rangeF_par (f := poset_Chains_B2 fu first next) (g := partref_Chains_B0 fu next)
    (fun i s t => s = t ∧ s.length ≤ i ∧ Inc s ∧ ∀ c ∈ s, ∃ a : Nat, a < i ∧ c[0]? = some (a : Int)) n 0 [] [] ⟨rfl, Nat.le_refl _, fun i j x y _ h => by simp at h, fun c hc => by simp at hc⟩ (by
    rintro i s _ _ hi ⟨rfl, h1, h2, h3⟩
    have hi : i < n := by omega
    have hc : next.contains (i : Int) = (List.range n).any fun a => M a == (i : Int) := by
      rw [Bool.eq_iff_iff, List.contains_iff_mem, hM.mem_iff, List.any_eq_true]
      constructor
      · rintro ⟨a, ha, e⟩; exact ⟨a, List.mem_range.2 ha, by simp [e]⟩
      · rintro ⟨a, ha, e⟩; exact ⟨a, List.mem_range.1 ha, beq_iff_eq.1 e⟩
    unfold poset_Chains_B2 partref_Chains_B0
    rw [hF.lat hi, Option.bind_some, eq_slices_Contains_int_int, Option.bind_some, hc]
    cases hq : (List.range n).any fun a => M a == (i : Int)
    · have hno : ∀ a, a < n → M a ≠ (i : Int) := fun a ha e => by
        have := List.any_eq_false.1 hq a (List.mem_range.2 ha)
        simp [e] at this
      obtain ⟨y, c, w1, w2⟩ := chain_law (τ := List (List Int)) (B := poset_Chains_B4 next) (by omega) hM hr hinj hi hno hfu (fun z => rfl)
      have w1' : whileM (partref_Chains_B2 next) fu ((i : Int), []) = some (.inl (y, c)) := w1
      rw [w1, w1']
      simp only [Bool.not_false, Bool.not_true, cond_false, andThen_inl]
      rw [room_ok (by simp; omega)]
      refine ⟨_, _, rfl, rfl, rfl, by simp; omega, fun p q x y hpq hx hy => ?_, fun d hd => ?_⟩
      · by_cases hq : q < s.length
        · rw [List.getElem?_append_left (by omega)] at hx
          rw [List.getElem?_append_left hq] at hy
          exact h2 p q x y hpq hx hy
        · have hq' : q = s.length := by
            have := (List.getElem?_eq_some_iff.1 hy).1
            simp at this; omega
          subst hq'
          rw [List.getElem?_append_left hpq] at hx
          rw [List.getElem?_append_right (Nat.le_refl _)] at hy
          simp at hy
          subst hy
          obtain ⟨a, ha, hxa⟩ := h3 x (List.mem_of_getElem? hx)
          exact ⟨_, _, hxa, w2, by omega⟩
      · rcases List.mem_append.1 hd with hd | hd
        · obtain ⟨a, ha, hxa⟩ := h3 d hd
          exact ⟨a, by omega, hxa⟩
        · rw [List.mem_singleton.1 hd]; exact ⟨i, by omega, w2⟩
    · simp only [Bool.not_true, Bool.not_false, cond_true, cond_false]
      exact ⟨_, _, rfl, rfl, rfl, by omega, h2, fun d hd => by obtain ⟨a, ha, hxa⟩ := h3 d hd; exact ⟨a, by omega, hxa⟩⟩)
  subst e3
  exact ⟨r, e1, e2, h2, by omega⟩
theorem posetparts_law (x : Poset) (_ : Rng.ok x) : ∃ fu, partlaw_PosetParts fu x = some true := by
  refine ⟨1000, ?_⟩
  obtain ⟨c, e1, h1⟩ := posetErr_law (p := x) (fu := 1000) (by omega) (by omega)
  obtain ⟨V, c', e2, h2, h3⟩ := posetCheck_law (p := x)
  obtain rfl := posetCode_one h1 h2
  unfold partlaw_PosetParts
  by_cases h0 : c = 0
  · subst h0
    rcases h1 with ⟨_, h⟩ | ⟨n, hn, hN, ⟨h, _⟩ | ⟨hc, ⟨_, h⟩ | ⟨hirr, _⟩⟩⟩
    · cases h
    · exact absurd rfl h
    · cases h
    obtain ⟨_, hin⟩ := pairsCode_zero hc
    have hO : Ordr x.Pairs n := ⟨hn, hin, fun i hi => hirr ⟨i, hi⟩⟩
    have hV : IsV x.Pairs V := h3 rfl
    obtain ⟨MM, eM, hMM⟩ := closure_law (fu := 1000) hin (by omega) (by omega) (by omega)
    have g1 := ref_pairs hO hMM hN eM false
    simp only [Bool.false_and, Bool.not_false, Bool.and_true] at g1
    have g1' : partref_AllPairs 1000 x false = some (prs (rch x.Pairs) n n) := g1
    have f1 := prog_close hO hV
    have hok := prs_ok (l := x.Pairs) hn
    have hck := check_ok hok
    obtain ⟨g, mate, L, M, s1, s2, s3, s4, s5, s6⟩ := most_sim (fu := 1000) hok (by omega)
    have hinj : ∀ a b, a < n → b < n → M a = M b → 0 ≤ M a → a = b := fun a b ha hb e h0 => by
      obtain ⟨c, hc⟩ := int_nat h0
      have hcn : c < n := by have := s5.mr a ha; omega
      have k1 := (s5.iff c a hcn ha (by omega)).2 hc
      have k2 := (s5.iff c b hcn hb (by omega)).2 (by omega)
      omega
    obtain ⟨first, next, t1, t2, t3⟩ := nexts_law s5.mr
    obtain rfl : next = mate := t2.ext s4
    obtain ⟨r, u1, u2, u3, u4⟩ := chains_loop (fu := 1000) hn (by omega) t2 t3 s5.mr hinj
    have pm : match_Most 1000 (n : Int) (n : Int) (prs (rch x.Pairs) n n) = some (mps M n, 0) := by
      unfold match_Most
      rw [hck, Option.bind_some, s1, Option.bind_some, upTo_nat (by omega), Option.bind_some, most_pairs (by omega) s3 s5]; rfl
    have f2 : poset_Chains 1000 x = some (r, 0) := by
      unfold poset_Chains
      rw [e2, Option.bind_some]
      simp only [bne_self_eq_false, cond_false]
      rw [hN, f1, Option.bind_some, pm, Option.bind_some]
      simp only [Let]
      rw [rep_eq (by omega) (by omega), Option.bind_some, rep_true (by omega) (by omega), Option.bind_some, t1, Option.bind_some]
      simp only
      rw [t3.1, u1, Option.bind_some, sort_stay u3 (by omega) (by omega)]; rfl
    have f3 : partref_Chains 1000 x = some r := by
      unfold partref_Chains
      rw [g1', Option.bind_some]
      simp only [Let]
      rw [hN, s2, Option.bind_some, upTo_nat (by omega), Option.bind_some, u2]; rfl
    obtain ⟨u, v, v1, v2⟩ := cover_both (fu := 1000) hok (by omega) hck
    obtain ⟨q, q1, q2⟩ := list_loop (k := n) (f := poset_Apart_B0 u v) (g := partref_Apart_B0 u v) (by omega) fun i z hi hz => by
      have hr : room z [(i : Int)] = some () := room_ok (by simp; omega)
      unfold poset_Apart_B0 partref_Apart_B0
      simp only [eq_slices_Contains_int_int, Option.bind_some, and_some, hr]
      cases !u.contains (i : Int) && !v.contains (i : Int)
      · exact ⟨_, rfl, rfl, by omega⟩
      · exact ⟨_, rfl, rfl, by simp; omega⟩
    have f4 : poset_Apart 1000 x = some (q, 0) := by
      unfold poset_Apart
      rw [e2, Option.bind_some]
      simp only [bne_self_eq_false, cond_false]
      rw [hN, f1, Option.bind_some, v1, Option.bind_some]
      simp only [Let]
      rw [upTo_nat (by omega), Option.bind_some, q1]; rfl
    have f5 : partref_Apart 1000 x = some q := by
      unfold partref_Apart
      rw [g1', Option.bind_some, hN, v2, Option.bind_some]
      simp only [Let]
      rw [upTo_nat (by omega), Option.bind_some, q2]; rfl
    rw [e1, f2, f4]
    simp only [Option.bind_some, bne_self_eq_false, cond_false, f3, f5, eq_slices_Equal_int_int, eq_rows, decide_true, cond_true, beq_self_eq_true]
  · have hne : (c != 0) = true := by simpa using h0
    have f1 : poset_Chains 1000 x = some ([], c) := by
      unfold poset_Chains
      rw [e2, Option.bind_some]
      simp only [hne, cond_true]
    have f2 : poset_Apart 1000 x = some ([], c) := by
      unfold poset_Apart
      rw [e2, Option.bind_some]
      simp only [hne, cond_true]
    rw [e1, f1, f2]
    simp [hne]
end Go.Proofs.Yticifbmaapnfbaa
