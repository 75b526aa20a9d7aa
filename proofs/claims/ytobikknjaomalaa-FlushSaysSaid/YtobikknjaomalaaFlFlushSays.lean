/-
  FlushSays: the plain law.
-/
import Derived.Test.YtobikknjaomalaaFlLib
import Derived.Test.YtobikknjaomalaaFlTb8
namespace Go.Proofs.Ytobikknjaomalaa
open Enc

/-! ### Views -/
def vcode (v : View) : Int := bif ((decide (v.Num < 0) || decide (v.Num > 16777215)) || ((v.Members.toNat : Int) == ((0 : BitVec 8).toNat : Int))) || decide ((v.Members.toNat : Int) > ((63 : BitVec 8).toNat : Int)) then 1 else 0
theorem view_eq (v : View) : view_Check v = some (vcode v) := by
  unfold view_Check view_outside
  simp only [or_some, Option.bind_some, above6]
  exact cond_some _ _ _
theorem rview_eq (v : View) : partref_ViewErr v = some (vcode v) := by
  unfold partref_ViewErr
  simp only [or_some, Option.bind_some, less1]
  exact cond_some _ _ _
theorem vcode_cases (v : View) : vcode v = 0 ∨ vcode v = 1 := by
  unfold vcode
  generalize (((decide (v.Num < 0) || decide (v.Num > 16777215)) || ((v.Members.toNat : Int) == ((0 : BitVec 8).toNat : Int))) || decide ((v.Members.toNat : Int) > ((63 : BitVec 8).toNat : Int))) = b
  cases b <;> simp
theorem next_eq {fu : Nat} (hfu : 2 ^ 16 < fu) (v : View) (g c : BitVec 8) : ∃ r, view_Next v g c = some r ∧ partref_NextView fu v g c = some r := by
  unfold view_Next partref_NextView view_outside view_half
  simp only [view_eq, rview_eq, Option.bind_some, or_some, above6_or, pos8, sub_both, size8 hfu, count8]
  have h1 := one8_le v.Members
  have h2 := one8_le (v.Members &&& ~~~g)
  have e : (v.Members &&& ~~~g) &&& v.Members = v.Members &&& ~~~g := tb_ext fun k hk => by
    rw [tb_both, tb_less _ _ hk]; cases tb v.Members k <;> cases tb g k <;> rfl
  rw [e]
  cases vcode v != 0
  · cases (decide ((g.toNat : Int) > ((63 : BitVec 8).toNat : Int)) || decide ((c.toNat : Int) > ((63 : BitVec 8).toNat : Int))) || (((g &&& c).toNat : Int) != ((0 : BitVec 8).toNat : Int))
    · cases v.Num == 16777215
      · cases decide (w64 (2 * (one8 (v.Members &&& ~~~g) : Int)) > (one8 v.Members : Int))
        · exact ⟨_, rfl, rfl⟩
        · exact ⟨_, rfl, rfl⟩
      · exact ⟨_, rfl, rfl⟩
    · exact ⟨_, rfl, rfl⟩
  · exact ⟨_, rfl, rfl⟩

/-! ### The codes of a row -/
theorem fin_eq (a b c : Int) : flush_in a b c = some (decide (a ≥ b) && decide (a ≤ c)) := by
  unfold flush_in
  rw [and_some, Option.bind_some]
def tbad (l : List Int) (j : Nat) (x : Int) : Bool := (decide (x < 0) || decide (x > 29)) || (l.take j).contains x
theorem idx_ne {l : List Int} {j : Nat} {x : Int} (h : l[j]? = some x) : (idxI (x == ·) l != (j : Int)) = (l.take j).contains x := by
  have hj := (List.getElem?_eq_some_iff.1 h).1
  rcases idxI_cases (x == ·) l with ⟨_, h2⟩ | ⟨i, y, h1, h2, h3, h4⟩
  · have := h2 x (List.mem_of_getElem? h); simp at this
  · have hy : x = y := by simpa using h3
    subst hy
    rw [h1, Bool.eq_iff_iff, bne_iff_ne, List.contains_iff_mem]
    constructor
    · intro hne
      have : i < j := by
        rcases Nat.lt_or_ge i j with q | q
        · exact q
        · have : j < i := by omega
          have := h4 j x this h
          simp at this
      exact List.mem_iff_getElem?.2 ⟨i, by rw [List.getElem?_take_of_lt this]; exact h2⟩
    · intro hm e
      obtain ⟨k, hk⟩ := List.mem_iff_getElem?.1 hm
      have hlt := (List.getElem?_eq_some_iff.1 hk).1
      simp only [List.length_take] at hlt
      rw [List.getElem?_take_of_lt (by omega)] at hk
      have := h4 k x (by omega) hk
      simp at this
open Classical in
noncomputable def tw (l : List Int) : Bool := decide (∃ (j : Nat) (x : Int), l[j]? = some x ∧ tbad l j x = true)
theorem tw_false {l : List Int} : tw l = false ↔ ∀ (j : Nat) (x : Int), l[j]? = some x → tbad l j x = false := by
  unfold tw
  rw [decide_eq_false_iff_not]
  constructor
  · intro h j x hx
    cases q : tbad l j x
    · rfl
    · exact absurd ⟨j, x, hx, q⟩ h
  · rintro h ⟨j, x, hx, q⟩
    rw [h j x hx] at q; cases q
open Classical in
theorem tw_true {l : List Int} {j : Nat} {x : Int} (hx : l[j]? = some x) (q : tbad l j x = true) : tw l = true := by
  unfold tw
  rw [decide_eq_true_eq]
  exact ⟨j, x, hx, q⟩
theorem twice_eq (l : List Int) : partref_twice l = some (tw l) := by
  refine Tot.eq ?_
  unfold partref_twice
  rw [Tot.andThen_iff]
  refine all_loop (e := fun j x => bif tbad l j x then some true else none) ?_ ?_ ?_
  · intro j x hx
    unfold partref_twice_B0
    rw [lat_nat, hx, Option.bind_some, or_some, Option.bind_some, eq_slices_Index_int_int, Option.bind_some, or_some, Option.bind_some, idx_ne hx]
    show (bif tbad l j x then _ else _) = _
    cases tbad l j x <;> rfl
  · intro h
    rw [Tot.inl_iff, Tot.some_iff]
    refine (tw_false.2 fun j x hx => ?_).symm
    have := h j x hx
    cases q : tbad l j x
    · rfl
    · simp [q] at this
  · intro j x t hx h _
    cases q : tbad l j x
    · simp [q] at h
    · rw [Tot.inr_iff]
      simp [q] at h
      rw [h, tw_true hx q]
theorem inner_eq (l : List Int) : rangeM (flush_Check_B3 l) l.length 0 () = some (bif tw l then .inr (.ret 4) else .inl ()) := by
  refine Tot.eq ?_
  refine all_loop (e := fun j x => bif tbad l j x then some (.ret 4) else none) ?_ ?_ ?_
  · intro j x hx
    have hj := (List.getElem?_eq_some_iff.1 hx).1
    unfold flush_Check_B3 flush_message
    rw [lat_nat, hx, Option.bind_some, fin_eq, Option.bind_some, Option.bind_some, cut_take (by omega), Option.bind_some, eq_slices_Contains_int_int, Option.bind_some, or_some, Option.bind_some]
    have e : (!(decide (x ≥ 0) && decide (x ≤ 29)) || (l.take j).contains x) = tbad l j x := by
      unfold tbad
      congr 1
      rw [Bool.eq_iff_iff]; simp <;> omega
    rw [e]
    cases tbad l j x <;> rfl
  · intro h
    have : tw l = false := tw_false.2 fun j x hx => by
      have := h j x hx
      cases q : tbad l j x
      · rfl
      · simp [q] at this
    rw [this]; rfl
  · intro j x t hx h _
    cases q : tbad l j x
    · simp [q] at h
    · simp [q] at h
      rw [tw_true hx q, ← h]; rfl
noncomputable def rcode (f : Flush) (p : Nat) (l : List Int) : Int := bif decide ((l.length : Int) > 30) then 2 else bif (decide ((l.length : Int) > 0) && !tb f.View_.Members p) || tw l then 4 else 0
theorem row_eq {f : Flush} {p : Nat} (hp : p < 6) : flush_Check_B0 f p () = some (bif rcode f p f.Told[p] != 0 then .ret (rcode f p f.Told[p]) else .go ()) := by
  unfold flush_Check_B0
  rw [vat_lt _ hp, Option.bind_some, cnt_n, Option.bind_some, tb_and0, and_some, Option.bind_some, inner_eq]
  unfold rcode
  cases decide ((f.Told[p].length : Int) > 30)
  · cases decide ((f.Told[p].length : Int) > 0) && !tb f.View_.Members p
    · cases tw f.Told[p] <;> rfl
    · rfl
  · rfl
theorem rrow_eq {f : Flush} {p : Nat} (hp : p < 6) : partref_FlushErr_B0 f p () = some (bif rcode f p f.Told[p] != 0 then .ret (rcode f p f.Told[p]) else .go ()) := by
  unfold partref_FlushErr_B0
  rw [vat_lt _ hp, Option.bind_some, cnt_n, Option.bind_some, tb_mod0, and_some, Option.bind_some, twice_eq, Option.bind_some, or_some, Option.bind_some]
  unfold rcode
  cases decide ((f.Told[p].length : Int) > 30)
  · cases (decide ((f.Told[p].length : Int) > 0) && !tb f.View_.Members p) || tw f.Told[p] <;> rfl
  · rfl
structure FOk (f : Flush) : Prop where
  len : ∀ p (h : p < 6), f.Told[p].length ≤ 30
  rng : ∀ p (h : p < 6), ∀ x ∈ f.Told[p], 0 ≤ x ∧ x ≤ 29
theorem codes_law (f : Flush) : ∃ c, flush_Check f = some c ∧ partref_FlushErr f = some c ∧ (c = 0 → FOk f) := by
  unfold flush_Check partref_FlushErr
  rw [view_eq, rview_eq, Option.bind_some, Option.bind_some, within]
  have hs : rangeM (partref_FlushErr_B0 f) 6 0 () = rangeM (flush_Check_B0 f) 6 0 () := same_loop fun j _ hj => (rrow_eq (by omega)).trans (row_eq (by omega)).symm
  rw [hs]
  rcases vcode_cases f.View_ with h | h
  · rw [h]
    cases hg : ((f.Gone ||| f.View_.Members).toNat : Int) != (f.View_.Members.toNat : Int)
    · obtain ⟨o, h1, h2⟩ := look_some (f := flush_Check_B0 f) (k := 6) (i := 0) fun j _ hj => by
        rw [row_eq (by omega)]
        cases rcode f j (f.Told[j]'(by omega)) != 0
        · exact .inl rfl
        · exact .inr ⟨_, rfl⟩
      rw [h1]
      have hz : ∀ j (hj : j < 6), o = .inl () → rcode f j f.Told[j] = 0 := fun j hj ho => by
        have := h2 () ho j (by omega) (by omega)
        rw [row_eq hj] at this
        cases q : rcode f j f.Told[j] != 0
        · simpa using q
        · rw [q] at this; cases this
      cases o with
      | inl u =>
        refine ⟨0, rfl, rfl, fun _ => ?_⟩
        have hz' : ∀ j (hj : j < 6), f.Told[j].length ≤ 30 ∧ tw f.Told[j] = false := fun j hj => by
          have := hz j hj rfl
          unfold rcode at this
          cases q : decide ((f.Told[j].length : Int) > 30)
          · rw [q] at this
            refine ⟨by have := of_decide_eq_false q; omega, ?_⟩
            cases q2 : tw f.Told[j]
            · rfl
            · rw [q2, Bool.or_true] at this; exact absurd this (by decide)
          · rw [q] at this; simp only [cond_true] at this; omega
        refine ⟨fun p hp => (hz' p hp).1, fun p hp x hx => ?_⟩
        obtain ⟨k, hk⟩ := List.mem_iff_getElem?.1 hx
        have := tw_false.1 (hz' p hp).2 k x hk
        unfold tbad at this
        simp only [Bool.or_eq_false_iff, decide_eq_false_iff_not] at this
        omega
      | inr t =>
        refine ⟨t, rfl, rfl, fun ht => ?_⟩
        subst ht
        exfalso
        obtain ⟨m, hm, e⟩ : ∃ m, m < 6 ∧ flush_Check_B0 f m () = some (.ret 0) := by
          rcases rangeM_look (body := flush_Check_B0 f) 6 0 (fun j _ hj => by
            rw [row_eq (by omega)]
            cases rcode f j (f.Told[j]'(by omega)) != 0
            · exact .inl rfl
            · exact .inr ⟨_, rfl⟩) with ⟨q, _⟩ | ⟨m, t, _, q1, _, q2, q3⟩
          · rw [h1] at q; cases q
          · rw [h1] at q3
            cases q3
            exact ⟨m, by omega, q2⟩
        rw [row_eq hm] at e
        cases q : rcode f m f.Told[m] != 0
        · rw [q] at e; cases e
        · rw [q] at e
          have : rcode f m f.Told[m] = 0 := by injection e with e; injection e
          rw [this] at q; cases q
    · exact ⟨4, rfl, rfl, fun h => by cases h⟩
  · rw [h]; exact ⟨1, rfl, rfl, fun h => by cases h⟩

/-! ### Sameness -/
theorem rows_same {v w : Vector (List Int) 6} {body : Nat → Unit → Option (Ctl Unit Bool)} (hb : ∀ j (h : j < 6), body j () = some (bif !decide (v[j] = w[j]) then .ret false else .go ())) : rangeM body 6 0 () = some (if v = w then .inl () else .inr false) := by
  refine Tot.eq ?_
  refine Tot.rangeM (fun j _ => ∀ i (h : i < 6), i < j → v[i] = w[i]) (fun i h hi => by omega) ?_ ?_
  · intro j _ _ hj hI
    rw [hb j (by omega), Tot.some_iff]
    by_cases e : v[j]'(by omega) = w[j]'(by omega)
    · rw [decide_eq_true e]
      intro i h hi
      by_cases k : i = j
      · subst k; exact e
      · exact hI i h (by omega)
    · rw [decide_eq_false e]
      show Sum.inr false = _
      rw [if_neg (fun q => e (by rw [q]))]
  · intro _ hI
    rw [if_pos (Vector.ext fun i h => hI i h (by omega))]
theorem same_eq (a b : Flush) : partref_SameFlush a b = some (decide (a = b)) := by
  unfold partref_SameFlush
  rw [rows_same (v := a.Told) (w := b.Told) fun j h => by
    unfold partref_SameFlush_B0
    rw [vat_lt _ h, Option.bind_some, vat_lt _ h, Option.bind_some, eq_slices_Equal_int_int, Option.bind_some]
    exact cond_some _ _ _]
  rw [and_some, Option.bind_some, u_beq]
  by_cases e : a.Told = b.Told
  · rw [if_pos e]
    show some _ = some _
    congr 1
    cases a; cases b
    simp only at e
    rw [Bool.eq_iff_iff]; simp [e]
  · rw [if_neg e]
    show some false = some _
    congr 1
    refine (decide_eq_false fun q => e (by rw [q])).symm
theorem lists_eq (a b : Vector (List Int) 6) : partlaw_sameLists a b = some (decide (a = b)) := by
  unfold partlaw_sameLists
  rw [rows_same (v := a) (w := b) fun j h => by
    unfold partlaw_sameLists_B0
    rw [vat_lt _ h, Option.bind_some, vat_lt _ h, Option.bind_some, eq_slices_Equal_int_int, Option.bind_some]
    exact cond_some _ _ _]
  by_cases e : a = b
  · rw [if_pos e, decide_eq_true e]; rfl
  · rw [if_neg e, decide_eq_false e]; rfl

/-! ### Copies -/
theorem clone_eq {f : Flush} (h : FOk f) : flush_clone f = some f := by
  unfold flush_clone
  have : rangeF (flush_clone_B0 f) 6 0 f = some f := by
    refine Tot.eq ?_
    refine Tot.rangeF (fun _ z => z = f) rfl ?_ (fun z hz => hz)
    rintro j z _ hj rfl
    have hj : j < 6 := by omega
    have hl := h.len j hj
    unfold flush_clone_B0
    rw [vat_lt _ hj, Option.bind_some, eq_slices_Clone_int_int (by omega), Option.bind_some, Option.bind_some, Tot.let_iff, Tot.some_iff]
    have : z.Told.setIfInBounds ((j : Int)).toNat z.Told[j] = z.Told := by
      refine Vector.ext fun i hi => ?_
      rw [Int.toNat_natCast, Vector.getElem_setIfInBounds]
      split
      · rename_i q; subst q; rfl
      · rfl
    rw [this]
  rw [this]; rfl

/-! ### What is missing -/
theorem miss1 (f : Flush) {k : Nat} : partref_Missing_1 (k : Int) f = some (tb f.View_.Members k && !tb f.Gone k) := by
  unfold partref_Missing_1
  rw [cnt_n, Option.bind_some, Option.bind_some, tb_mod, tb_mod0, and_some, Option.bind_some]
def anyTold (f : Flush) (n : Nat) (m : Int) : Bool := (List.range n).any fun q => (tb f.View_.Members q && !tb f.Gone q) && (f.Told[q]?.getD []).contains m
theorem any_eq (f : Flush) (m : Nat) : rangeF (partref_Missing_B4 f m) 6 0 false = some (anyTold f 6 (m : Int)) := by
  refine Tot.eq ?_
  refine Tot.rangeF (fun j z => z = anyTold f j (m : Int)) rfl ?_ (fun z hz => hz)
  rintro j z _ hj rfl
  have hj : j < 6 := by omega
  unfold partref_Missing_B4
  rw [vat_lt _ hj, Option.bind_some, miss1, Option.bind_some, eq_slices_Contains_int_int, Option.bind_some, and_some, Option.bind_some, or_some, Tot.some_iff]
  unfold anyTold
  rw [List.range_succ, List.any_append]
  simp [hj]
theorem told_eq {f : Flush} (h : FOk f) : ∃ v : Vector Bool 30, rangeF (flush_Change_B0 f) 6 0 (Vector.replicate 30 false) = some v ∧ ∀ (m : Nat) (hm : m < 30), v[m] = anyTold f 6 (m : Int) := by
  refine Tot.rangeF (fun j (z : Vector Bool 30) => ∀ (m : Nat) (hm : m < 30), z[m] = anyTold f j (m : Int)) (fun m hm => by simp [anyTold]) ?_ (fun z hz => hz)
  intro j z _ hj hI
  have hj : j < 6 := by omega
  unfold flush_Change_B0
  rw [vat_lt _ hj, Option.bind_some, Tot.bind_iff]
  refine Tot.mono (Tot.rangeF (Q := fun z => ∀ (m : Nat) (hm : m < 30), z[m] = anyTold f (j + 1) (m : Int)) (fun k (y : Vector Bool 30) => ∀ (m : Nat) (hm : m < 30), y[m] = (anyTold f j (m : Int) || ((tb f.View_.Members j && !tb f.Gone j) && (f.Told[j].take k).contains (m : Int)))) (fun m hm => by simp [hI m hm]) ?_ ?_) (fun z hz => Tot.some_iff.2 hz)
  · intro k y _ hk hy
    have hk : k < f.Told[j].length := by omega
    have hx : f.Told[j][k]? = some f.Told[j][k] := by simp [hk]
    have hr := h.rng j hj _ (List.mem_of_getElem? hx)
    obtain ⟨n, hn⟩ := int_nat hr.1
    have hn30 : n < 30 := by omega
    unfold flush_Change_B2
    rw [lat_nat, hx, Option.bind_some, hn, vat_lt _ hn30, Option.bind_some, cnt_n, Option.bind_some, tb_and, tb_less _ _ (by omega), or_some, Option.bind_some, Option.bind_some, Tot.let_iff, Tot.some_iff, Int.toNat_natCast]
    intro m hm
    rw [Vector.getElem_setIfInBounds, List.take_add_one, hx, hn]
    have hy1 := hy m hm
    split
    · rename_i q
      subst q
      rw [hy1]
      simp only [Option.toList_some, List.contains_eq_mem, List.mem_append, List.mem_singleton, or_true, decide_true]
      cases anyTold f j (n : Int) <;> cases tb f.View_.Members j && !tb f.Gone j <;> simp
    · rename_i q
      rw [hy1]
      simp only [Option.toList_some, List.contains_eq_mem, List.mem_append, List.mem_singleton]
      have : ¬ ((m : Int) = (n : Int)) := by omega
      simp [this]
  · intro y hy m hm
    rw [hy m hm, Nat.zero_add, List.take_length]
    unfold anyTold
    rw [List.range_succ, List.any_append]
    simp [hj]
/-- The next number of a row. -/
def step6 (f : Flush) (i j : Nat) (z : Vector (List Int) 6) : Vector (List Int) 6 :=
  bif anyTold f 6 (j : Int) && ((tb f.View_.Members i && !tb f.Gone i) && !(f.Told[i]?.getD []).contains (j : Int)) then z.setIfInBounds i ((z[i]?.getD []) ++ [(j : Int)]) else z
theorem change6 {f : Flush} {v : Vector Bool 30} (hv : ∀ (m : Nat) (hm : m < 30), v[m] = anyTold f 6 (m : Int)) {i j : Nat} (hi : i < 6) (hj : j < 30) {z : Vector (List Int) 6} (hz : z[i].length < 2 ^ 30) : flush_Change_B6 f v i j z = some (step6 f i j z) := by
  unfold flush_Change_B6
  have hr : room z[i] [(j : Int)] = some () := by unfold room; rw [if_pos]; simp; omega
  rw [vat_lt _ hj, Option.bind_some, hv j hj, cnt_n, Option.bind_some, tb_and, tb_less _ _ (by omega), and_some, Option.bind_some, vat_lt _ hi, Option.bind_some, eq_slices_Contains_int_int, Option.bind_some, and_some, Option.bind_some]
  rw [vat_lt _ hi, Option.bind_some, hr, Option.bind_some, Option.bind_some, Int.toNat_natCast]
  have e1 : f.Told[i]?.getD [] = f.Told[i] := by simp [hi]
  have e2 : z[i]?.getD [] = z[i] := by simp [hi]
  unfold step6
  rw [e1, e2, Bool.and_assoc]
  exact cond_some _ _ _
theorem missing6 {f : Flush} {i j : Nat} (hi : i < 6) {z : Vector (List Int) 6} (hz : z[i].length < 2 ^ 30) : partref_Missing_B2 f i j z = some (step6 f i j z) := by
  unfold partref_Missing_B2
  have hr : room z[i] [(j : Int)] = some () := by unfold room; rw [if_pos]; simp; omega
  rw [any_eq, Option.bind_some, miss1, Option.bind_some, vat_lt _ hi, Option.bind_some, eq_slices_Contains_int_int, Option.bind_some, and_some, Option.bind_some]
  rw [vat_lt _ hi, Option.bind_some, hr, Option.bind_some, Option.bind_some, Int.toNat_natCast]
  have e1 : f.Told[i]?.getD [] = f.Told[i] := by simp [hi]
  have e2 : z[i]?.getD [] = z[i] := by simp [hi]
  unfold step6
  rw [e1, e2]
  cases anyTold f 6 (j : Int)
  · rfl
  · exact cond_some _ _ _
theorem step6_len {f : Flush} {i j : Nat} {z : Vector (List Int) 6} {b : Nat} (h : ∀ k (hk : k < 6), z[k].length ≤ b) : ∀ k (hk : k < 6), (step6 f i j z)[k].length ≤ b + 1 := by
  intro k hk
  have := h k hk
  unfold step6
  cases anyTold f 6 (j : Int) && ((tb f.View_.Members i && !tb f.Gone i) && !(f.Told[i]?.getD []).contains (j : Int))
  · simp only [cond_false]; omega
  · simp only [cond_true]
    rw [Vector.getElem_setIfInBounds]
    split
    · rename_i q; subst q
      simp [hk]; omega
    · omega
theorem rows_eq {body body' : Nat → Vector (List Int) 6 → Option (Vector (List Int) 6)} {f : Flush} {i b : Nat} {z : Vector (List Int) 6} (hz : ∀ k (hk : k < 6), z[k].length ≤ b) (hb : b < 2 ^ 20)
    (h1 : ∀ j (y : Vector (List Int) 6), j < 30 → (∀ k (hk : k < 6), y[k].length < 2 ^ 30) → body j y = some (step6 f i j y))
    (h2 : ∀ j (y : Vector (List Int) 6), j < 30 → (∀ k (hk : k < 6), y[k].length < 2 ^ 30) → body' j y = some (step6 f i j y)) :
    ∃ y, rangeF body 30 0 z = some y ∧ rangeF body' 30 0 z = some y ∧ ∀ k (hk : k < 6), y[k].length ≤ b + 30 := by
  have key : ∀ (body : Nat → Vector (List Int) 6 → Option (Vector (List Int) 6)), (∀ j (y : Vector (List Int) 6), j < 30 → (∀ k (hk : k < 6), y[k].length < 2 ^ 30) → body j y = some (step6 f i j y)) →
      Tot (rangeF body 30 0 z) fun y => y = (List.range 30).foldl (fun y j => step6 f i j y) z ∧ ∀ k (hk : k < 6), y[k].length ≤ b + 30 := by
    intro body h
    refine Tot.rangeF (fun j y => y = (List.range j).foldl (fun y j => step6 f i j y) z ∧ ∀ k (hk : k < 6), y[k].length ≤ b + j) ⟨rfl, hz⟩ ?_ (fun y hy => hy)
    rintro j y _ hj ⟨e, hy⟩
    rw [h j y (by omega) (fun k hk => by have := hy k hk; omega), Tot.some_iff]
    refine ⟨?_, step6_len hy⟩
    rw [List.range_succ, List.foldl_append, ← e]; rfl
  obtain ⟨y, q1, q2, q3⟩ := key body h1
  obtain ⟨y', r1, r2, _⟩ := key body' h2
  subst q2 r2
  exact ⟨_, q1, r1, q3⟩
theorem missing_eq {f : Flush} {v : Vector Bool 30} (hv : ∀ (m : Nat) (hm : m < 30), v[m] = anyTold f 6 (m : Int)) : ∃ y, rangeF (flush_Change_B4 f v) 6 0 (Vector.replicate 6 [] : Vector (List Int) 6) = some y ∧ partref_Missing f = some y := by
  have hs : ∀ i z, i < 6 → (∀ k (hk : k < 6), z[k].length ≤ 30 * i) → ∃ y, flush_Change_B4 f v i z = some y ∧ partref_Missing_B0 f i z = some y ∧ ∀ k (hk : k < 6), y[k].length ≤ 30 * (i + 1) := by
    intro i z hi hz
    obtain ⟨y, h1, h2, h3⟩ := rows_eq (f := f) (i := i) (body := flush_Change_B6 f v i) (body' := partref_Missing_B2 f i) hz (by omega)
      (fun j y hj hy => change6 hv hi hj (hy i hi)) (fun j y hj hy => missing6 hi (hy i hi))
    unfold flush_Change_B4 partref_Missing_B0
    rw [h1, h2]
    exact ⟨y, rfl, rfl, fun k hk => by have := h3 k hk; omega⟩
  have key : ∀ n i z, i + n = 6 → (∀ k (hk : k < 6), z[k].length ≤ 30 * i) → ∃ y, rangeF (flush_Change_B4 f v) n i z = some y ∧ rangeF (partref_Missing_B0 f) n i z = some y := by
    intro n
    induction n with
    | zero => intro i z _ _; exact ⟨z, rfl, rfl⟩
    | succ n ih =>
      intro i z hi hz
      obtain ⟨y, h1, h2, h3⟩ := hs i z (by omega) hz
      obtain ⟨x, q1, q2⟩ := ih (i + 1) y (by omega) h3
      refine ⟨x, ?_, ?_⟩
      · unfold rangeF; rw [h1]; exact q1
      · unfold rangeF; rw [h2]; exact q2
  obtain ⟨y, h1, h2⟩ := key 6 0 (Vector.replicate 6 []) rfl (fun k hk => by simp)
  unfold partref_Missing
  rw [h1, h2]
  exact ⟨y, rfl, rfl⟩
theorem change_eq {f : Flush} (h : FOk f) (hc : flush_Check f = some 0) {c : BitVec 8} {r : View × Int} (hr : view_Next f.View_ f.Gone c = some r) :
    ∃ y, partref_Missing f = some y ∧ flush_Change f c = some (bif r.2 != 0 then (Flush.zero, Vector.replicate 6 [], r.2) else ({ Flush.zero with View_ := r.1 }, y, 0)) := by
  obtain ⟨v, h1, h2⟩ := told_eq h
  obtain ⟨y, h3, h4⟩ := missing_eq h2
  refine ⟨y, h4, ?_⟩
  unfold flush_Change
  rw [hc, Option.bind_some, hr, Option.bind_some, h1, Option.bind_some, h3, Option.bind_some]
  cases r.2 != 0 <;> rfl

/-! ### The law -/
theorem flushsays_law (a0 : Flush) (a1 : BitVec 8) (a2 a3 : Int) (a4 : BitVec 8) (h0 : Rng.ok a0) (h1 : Rng.ok a1) (h2 : Rng.ok a2) (h3 : Rng.ok a3) (h4 : Rng.ok a4) : ∃ fu, partlaw_FlushSays fu a0 a1 a2 a3 a4 = some true := by
  refine ⟨2 ^ 17, ?_⟩
  have hfu : 2 ^ 16 < 2 ^ 17 := by omega
  obtain ⟨c, hc, hr, hok⟩ := codes_law a0
  obtain ⟨nx, n1, n2⟩ := next_eq hfu a0.View_ a0.Gone a4
  have hnew : flush_New a1 = some (bif vcode ({ View.zero with Members := a1 } : View) != 0 then (Flush.zero, 1) else ({ Flush.zero with View_ := ({ View.zero with Members := a1 } : View) }, 0)) := by
    unfold flush_New
    rw [view_eq, Option.bind_some]
    rcases vcode_cases ({ View.zero with Members := a1 } : View) with h | h <;> rw [h] <;> rfl
  unfold partlaw_FlushSays
  rw [hr, Option.bind_some, hnew, Option.bind_some]
  have hview : partref_ViewErr ({ View.zero with Members := a1 } : View) = some (vcode ({ View.zero with Members := a1 } : View)) := rview_eq _
  by_cases hc0 : c = 0
  · subst hc0
    have hf := hok rfl
    obtain ⟨y, hm, hch⟩ := change_eq hf hc n1
    have hproc : flush_process a2 = some (decide (a2 ≥ 0) && decide (a2 ≤ 5)) := by unfold flush_process; rw [fin_eq]; rfl
    have hmsg : flush_message a3 = some (decide (a3 ≥ 0) && decide (a3 ≤ 29)) := by unfold flush_message; rw [fin_eq]; rfl
    by_cases hp : 0 ≤ a2 ∧ a2 ≤ 5
    · obtain ⟨p, rfl⟩ := int_nat hp.1
      have hp6 : p < 6 := by omega
      have eg : (decide ((p : Int) ≥ 0) && decide ((p : Int) ≤ 5)) = true := by simp; omega
      have eb : (decide ((p : Int) < 0) || decide ((p : Int) > 5)) = false := by rw [Bool.eq_false_iff]; simp; omega
      have hfa : flush_Fall a0 (p : Int) = some (bif tb a0.View_.Members p then { a0 with Gone := a0.Gone ||| ((1 : BitVec 8) <<< p) } else a0, 0) := by
        unfold flush_Fall
        rw [hc, Option.bind_some, hproc, Option.bind_some, eg, clone_eq hf, cnt_n]
        show some (({ a0 with Gone := a0.Gone ||| (a0.View_.Members &&& ((1 : BitVec 8) <<< p)) } : Flush), (0 : Int)) = _
        have em := bit_both a0.View_.Members p
        rw [em]
        cases tb a0.View_.Members p
        · simp only [cond_false]
          have : a0.Gone ||| (0 : BitVec 8) = a0.Gone := by simp
          rw [this]
        · rfl
      have hl := hf.len p hp6
      have ht : flush_Tell a0 (p : Int) a3 = some (bif !(decide (a3 ≥ 0) && decide (a3 ≤ 29)) then (Flush.zero, 1) else bif !tb a0.View_.Members p || tb a0.Gone p then (Flush.zero, 11) else bif a0.Told[p].contains a3 then (Flush.zero, 7) else ({ a0 with Told := a0.Told.setIfInBounds p (a0.Told[p] ++ [a3]) }, 0)) := by
        have hroom : room a0.Told[p] [a3] = some () := by unfold room; rw [if_pos]; simp; omega
        unfold flush_Tell
        rw [hc, Option.bind_some, hproc, Option.bind_some, eg, hmsg, clone_eq hf, cnt_n]
        simp only [Option.bind_some, vat_lt a0.Told hp6, eq_slices_Contains_int_int, hroom, tb_and0, tb_less _ _ (show p < 8 by omega), Int.toNat_natCast, Let]
        cases decide (a3 ≥ 0) && decide (a3 ≤ 29)
        · rfl
        · cases tb a0.View_.Members p
          · rfl
          · cases tb a0.Gone p
            · cases a0.Told[p].contains a3 <;> rfl
            · rfl
      have hcat : slices_Concat_int_int [a0.Told[p], [a3]] = some (a0.Told[p] ++ [a3]) := eq_slices_Concat_int_int (by simp; omega)
      have e3 : (decide (a3 < 0) || decide (a3 > 29)) = !(decide (a3 ≥ 0) && decide (a3 ≤ 29)) := by rw [Bool.eq_iff_iff]; simp <;> omega
      rw [ht, Option.bind_some, hfa, Option.bind_some, hch, Option.bind_some, hview, Option.bind_some]
      simp only [same_eq, lists_eq, hc, n2, hm, Option.bind_some, or_some, and_some, eb, cnt_n, tb_mod, tb_mod0, e3, vat_lt a0.Told hp6, eq_slices_Contains_int_int, hcat, Int.toNat_natCast, Let]
      rcases vcode_cases ({ View.zero with Members := a1 } : View) with h | h <;> rw [h]
      all_goals
        cases hn : nx.2 != 0
        all_goals
          cases tb a0.View_.Members p <;> cases tb a0.Gone p <;> cases decide (a3 ≥ 0) && decide (a3 ≤ 29) <;> cases a0.Told[p].contains a3
          all_goals simp [andThen]
    · have eg : (decide (a2 ≥ 0) && decide (a2 ≤ 5)) = false := by rw [Bool.eq_false_iff]; simp; omega
      have eb : (decide (a2 < 0) || decide (a2 > 5)) = true := by simp; omega
      have ht : flush_Tell a0 a2 a3 = some (Flush.zero, 1) := by unfold flush_Tell; rw [hc, Option.bind_some, hproc, Option.bind_some, eg]; rfl
      have hfa : flush_Fall a0 a2 = some (Flush.zero, 1) := by unfold flush_Fall; rw [hc, Option.bind_some, hproc, Option.bind_some, eg]; rfl
      rw [ht, Option.bind_some, hfa, Option.bind_some, hch, Option.bind_some, hview, Option.bind_some]
      simp only [same_eq, lists_eq, hc, n2, hm, Option.bind_some, or_some, and_some, eb, Let]
      rcases vcode_cases ({ View.zero with Members := a1 } : View) with h | h <;> rw [h]
      all_goals
        cases hn : nx.2 != 0
        all_goals simp [andThen]
  · have hne : (c != 0) = true := by simpa using hc0
    have ht : flush_Tell a0 a2 a3 = some (Flush.zero, c) := by unfold flush_Tell; rw [hc, Option.bind_some, hne]; rfl
    have hfa : flush_Fall a0 a2 = some (Flush.zero, c) := by unfold flush_Fall; rw [hc, Option.bind_some, hne]; rfl
    have hcg : flush_Change a0 a4 = some (Flush.zero, Vector.replicate 6 [], c) := by unfold flush_Change; rw [hc, Option.bind_some, hne]; rfl
    rw [ht, Option.bind_some, hfa, Option.bind_some, hcg, Option.bind_some, hview, Option.bind_some]
    rcases vcode_cases ({ View.zero with Members := a1 } : View) with h | h
    · simp only [h, same_eq, lists_eq, hc, Option.bind_some, or_some, and_some, andThen, bne_self_eq_false, beq_self_eq_true, cond_true, cond_false, decide_true, Bool.not_true, Bool.or_false, Bool.and_true, hne]
      rfl
    · simp only [h, same_eq, lists_eq, hc, Option.bind_some, or_some, and_some, andThen, bne_self_eq_false, beq_self_eq_true, cond_true, cond_false, decide_true, Bool.not_true, Bool.or_false, Bool.and_true, hne, show ((1 : Int) == 0) = false from rfl, show ((1 : Int) != 0) = true from rfl]
      rfl
end Go.Proofs.Ytobikknjaomalaa
