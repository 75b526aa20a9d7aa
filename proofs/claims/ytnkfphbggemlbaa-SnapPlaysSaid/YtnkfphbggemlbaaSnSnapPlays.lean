/-
  SnapPlays: the plain law.
-/
import Derived.Test.YtnkfphbggemlbaaSnLib
namespace Go.Proofs.Ytnkfphbggemlbaa
open Enc

/-! ### Loops -/
def ofE {τ : Type} : Option τ → Ctl Unit τ
  | none => .go ()
  | some t => .ret t
theorem find_loop {α τ : Type} {l : List α} (e : α → Option τ) {body : Nat → Unit → Option (Ctl Unit τ)} (hb : ∀ (j : Nat) x, l[j]? = some x → body j () = some (ofE (e x))) :
    rangeM body l.length 0 () = some (match l.findSome? e with | none => .inl () | some t => .inr t) := by
  refine Tot.eq ?_
  refine all_loop (e := fun _ x => e x) (fun j x hx => by rw [hb j x hx]; cases e x <;> rfl) ?_ ?_
  · intro h
    have : l.findSome? e = none := List.findSome?_eq_none_iff.2 fun x hx => by
      obtain ⟨j, hj⟩ := List.mem_iff_getElem?.1 hx
      exact h j x hj
    rw [this]
  · intro j x t hx he hn
    obtain ⟨hj, rfl⟩ := List.getElem?_eq_some_iff.1 hx
    have : l.findSome? e = some t := List.findSome?_eq_some_iff.2 ⟨l.take j, l[j], l.drop (j + 1), by
      have := List.take_append_drop j l
      rw [List.drop_eq_getElem_cons hj] at this
      exact this.symm, he, fun y hy => by
      obtain ⟨i, hi⟩ := List.mem_iff_getElem?.1 hy
      have hlt := (List.getElem?_eq_some_iff.1 hi).1
      rw [List.length_take] at hlt
      rw [List.getElem?_take_of_lt (by omega)] at hi
      exact hn i y (by omega) hi⟩
    rw [this]
theorem rangeF_rel {σ τ : Type} {f : Nat → σ → Option σ} {g : Nat → τ → Option τ} (R : Nat → σ → τ → Prop) : ∀ (k i : Nat) (s : σ) (t : τ), R i s t → (∀ j s t, i ≤ j → j < i + k → R j s t → ∃ s' t', f j s = some s' ∧ g j t = some t' ∧ R (j + 1) s' t') →
    ∃ s' t', rangeF f k i s = some s' ∧ rangeF g k i t = some t' ∧ R (i + k) s' t'
  | 0, i, s, t, h, _ => ⟨s, t, rfl, rfl, h⟩
  | k + 1, i, s, t, h, hs => by
    obtain ⟨s1, t1, h1, h2, h3⟩ := hs i s t (by omega) (by omega) h
    obtain ⟨s2, t2, h4, h5, h6⟩ := rangeF_rel R k (i + 1) s1 t1 h3 fun j s t a b => hs j s t (by omega) (by omega)
    refine ⟨s2, t2, ?_, ?_, by rwa [show i + (k + 1) = i + 1 + k by omega]⟩
    · unfold rangeF; rw [h1]; exact h4
    · unfold rangeF; rw [h2]; exact h5
theorem w64_add (a b : Int) : w64 (w64 a + b) = w64 (a + b) := by
  unfold w64 IntKind.wrap
  simp only [show IntKind.i64.signed = true from rfl, show IntKind.i64.bits = 64 from rfl, Bool.true_and, decide_eq_true_eq]
  split <;> split <;> split <;> omega
theorem w64_idem (a : Int) : w64 (w64 a) = w64 a := by have := w64_add a 0; rwa [Int.add_zero, Int.add_zero] at this

/-! ### The codes -/
structure MIn (n : Nat) (m : Move) : Prop where
  k1 : 1 ≤ m.Kind
  k3 : m.Kind ≤ 3
  f0 : 0 ≤ m.From
  f1 : m.From < n
  t0 : 0 ≤ m.To
  t1 : m.To < n
  n0 : 0 ≤ m.N
  n1 : m.N ≤ 1000000
open Classical in
noncomputable def mbad (n : Nat) (m : Move) : Option Int := if MIn n m then (if m.Kind < 3 ∧ m.From = m.To then some 4 else none) else some 1
structure Right (a0 : List Int) (a1 : List Move) : Prop where
  n1 : 1 ≤ a0.length
  n6 : a0.length ≤ 6
  l200 : a1.length ≤ 200
  have_ : ∀ x ∈ a0, 0 ≤ x ∧ x ≤ 1000000
  mv : ∀ m ∈ a1, MIn a0.length m ∧ (m.Kind < 3 → m.From ≠ m.To)
open Classical in
theorem ref_move (a0 : List Int) (a1 : List Move) (j : Nat) (x : Move) (hx : a1[j]? = some x) : partref_MovesErr_B2 a0 a1 j () = some (ofE (mbad a0.length x)) := by
  unfold partref_MovesErr_B2 mbad
  rw [lat_nat, hx, Option.bind_some]
  simp only [or_some, and_some, Option.bind_some]
  by_cases h : MIn a0.length x
  · have e1 : ((((decide (x.Kind < 1) || decide (x.Kind > 3)) || decide (min (min x.From x.To) x.N < 0)) || decide (max x.From x.To ≥ (a0.length : Int))) || decide (x.N > 1000000)) = false := by
      obtain ⟨_, _, _, _, _, _, _, _⟩ := h
      simp; omega
    rw [e1, cond_false, if_pos h]
    by_cases h2 : x.Kind < 3 ∧ x.From = x.To
    · rw [if_pos h2, show (decide (x.Kind < 3) && (x.From == x.To)) = true from by simp [h2]]; rfl
    · rw [if_neg h2, show (decide (x.Kind < 3) && (x.From == x.To)) = false from by simpa using h2]; rfl
  · have e1 : ((((decide (x.Kind < 1) || decide (x.Kind > 3)) || decide (min (min x.From x.To) x.N < 0)) || decide (max x.From x.To ≥ (a0.length : Int))) || decide (x.N > 1000000)) = true := by
      refine Classical.byContradiction fun q => h ?_
      simp at q
      constructor <;> omega
    rw [e1, cond_true, if_neg h]; rfl
open Classical in
theorem code_move (a0 : List Int) (a1 : List Move) (hn : a0.length ≤ 6) (j : Nat) (x : Move) (hx : a1[j]? = some x) : snap_Check_B1 a0 a1 j () = some (ofE (mbad a0.length x)) := by
  unfold snap_Check_B1 mbad snap_in
  rw [lat_nat, hx, Option.bind_some]
  simp only [or_some, and_some, Option.bind_some]
  rw [w64_id (by omega) (by omega)]
  by_cases h : MIn a0.length x
  · have e1 : (((!(decide (x.Kind ≥ 1) && decide (x.Kind ≤ 3)) || !(decide (x.From ≥ 0) && decide (x.From ≤ (a0.length : Int) - 1))) || !(decide (x.To ≥ 0) && decide (x.To ≤ (a0.length : Int) - 1))) || !(decide (x.N ≥ 0) && decide (x.N ≤ 1000000))) = false := by
      obtain ⟨_, _, _, _, _, _, _, _⟩ := h
      simp; omega
    rw [e1, cond_false, if_pos h]
    have h3 := h.k3
    by_cases h2 : x.Kind < 3 ∧ x.From = x.To
    · rw [if_pos h2, show ((x.From == x.To) && (x.Kind != 3)) = true from by simp [h2]; omega]; rfl
    · rw [if_neg h2, show ((x.From == x.To) && (x.Kind != 3)) = false from by
        rw [Bool.eq_false_iff]
        intro q
        simp at q
        exact h2 ⟨by omega, q.1⟩]; rfl
  · have e1 : (((!(decide (x.Kind ≥ 1) && decide (x.Kind ≤ 3)) || !(decide (x.From ≥ 0) && decide (x.From ≤ (a0.length : Int) - 1))) || !(decide (x.To ≥ 0) && decide (x.To ≤ (a0.length : Int) - 1))) || !(decide (x.N ≥ 0) && decide (x.N ≤ 1000000))) = true := by
      refine Classical.byContradiction fun q => h ?_
      simp at q
      constructor <;> omega
    rw [e1, cond_true, if_neg h]; rfl
def hbad (x : Int) : Bool := decide (x < 0) || decide (x > 1000000)
theorem any_find {α τ : Type} (p : α → Bool) (t : τ) (l : List α) : l.findSome? (fun x => bif p x then some t else none) = bif l.any p then some t else none := by
  induction l with
  | nil => rfl
  | cons a l ih =>
    rw [List.findSome?_cons, List.any_cons, ih]
    cases p a <;> rfl
theorem ref_have (a0 : List Int) : rangeM (partref_MovesErr_B0 a0) a0.length 0 () = some (bif a0.any hbad then .inr 1 else .inl ()) := by
  rw [find_loop (fun x => bif hbad x then some (1 : Int) else none), any_find]
  · cases a0.any hbad <;> rfl
  · intro j x hx
    unfold partref_MovesErr_B0
    rw [lat_nat, hx, Option.bind_some, or_some, Option.bind_some]
    show (bif hbad x then _ else _) = _
    cases hbad x <;> rfl
theorem code_have (a0 : List Int) : slices_ContainsFunc_int_int_Check_1 a0 = some (a0.any hbad) := eq_slices_ContainsFunc_int_int_Check_1 a0 hbad fun x _ => by
  unfold snap_Check_1 snap_in
  rw [and_some, Option.bind_some, Option.bind_some]
  congr 1
  unfold hbad
  rw [Bool.eq_iff_iff]; simp <;> omega
theorem mbad_ne {n : Nat} {l : List Move} {t : Int} (h : l.findSome? (mbad n) = some t) : t ≠ 0 := by
  obtain ⟨x, _, hx⟩ := List.exists_of_findSome?_eq_some h
  unfold mbad at hx
  split at hx
  · split at hx
    · injection hx with hx; omega
    · cases hx
  · injection hx with hx; omega
theorem len_bad (n : Nat) : (1 ≤ n ∧ n ≤ 6 → (((n : Int) == 0) || decide ((n : Int) > 6)) = false) ∧ (1 ≤ n ∧ n ≤ 6 → (!(decide ((n : Int) ≥ 1) && decide ((n : Int) ≤ 6))) = false) ∧
    (¬ (1 ≤ n ∧ n ≤ 6) → (((n : Int) == 0) || decide ((n : Int) > 6)) = true ∧ (!(decide ((n : Int) ≥ 1) && decide ((n : Int) ≤ 6))) = true) := by
  refine ⟨fun h => ?_, fun h => ?_, fun h => ⟨?_, ?_⟩⟩
  · simp; omega
  · simp; omega
  · simp; omega
  · simp; omega
theorem codes_law (a0 : List Int) (a1 : List Move) : ∃ c, partref_MovesErr a0 a1 = some c ∧ snap_Check a0 a1 = some c ∧ (c = 0 → Right a0 a1) := by
  unfold partref_MovesErr snap_Check
  rw [ref_have, code_have, or_some, Option.bind_some, Option.bind_some]
  unfold snap_in
  rw [and_some, Option.bind_some, Option.bind_some]
  by_cases hn : 1 ≤ a0.length ∧ a0.length ≤ 6
  · rw [(len_bad a0.length).1 hn, (len_bad a0.length).2.1 hn, cond_false, cond_false]
    by_cases hl : a1.length ≤ 200
    · rw [show decide ((a1.length : Int) > 200) = false from by simp; omega, cond_false, cond_false]
      cases hh : a0.any hbad
      · rw [find_loop (mbad a0.length) (ref_move a0 a1), find_loop (mbad a0.length) (code_move a0 a1 hn.2)]
        cases hm : a1.findSome? (mbad a0.length) with
        | none =>
          refine ⟨0, rfl, rfl, fun _ => ⟨hn.1, hn.2, hl, fun x hx => ?_, fun m hmm => ?_⟩⟩
          · have := List.any_eq_false.1 hh x hx
            unfold hbad at this
            simp at this
            omega
          · have := List.findSome?_eq_none_iff.1 hm m hmm
            unfold mbad at this
            split at this
            · rename_i q
              split at this
              · cases this
              · rename_i q2
                exact ⟨q, fun a b => q2 ⟨a, b⟩⟩
            · cases this
        | some t => exact ⟨t, rfl, rfl, fun h => absurd h (mbad_ne hm)⟩
      · exact ⟨1, rfl, rfl, fun h => by cases h⟩
    · rw [show decide ((a1.length : Int) > 200) = true from by simp; omega]
      exact ⟨2, rfl, rfl, fun h => by cases h⟩
  · rw [((len_bad a0.length).2.2 hn).1, ((len_bad a0.length).2.2 hn).2]
    exact ⟨1, rfl, rfl, fun h => by cases h⟩

/-! ### What is under way -/
def word (t : Thing) : Int := bif t.mark then -1 else t.n
def at_ (p q : Nat) (t : Thing) : Bool := (t.from_ == (p : Int)) && (t.to == (q : Int))
def words (w : List Thing) (p q : Nat) : List Int := (w.filter (at_ p q)).map word
structure TOk (n : Nat) (t : Thing) : Prop where
  f0 : 0 ≤ t.from_
  f1 : t.from_ < n
  t0 : 0 ≤ t.to
  t1 : t.to < n
  mz : t.mark = true → t.n = 0
  n0 : 0 ≤ t.n
  n1 : t.n ≤ 1000000
  ne : t.from_ ≠ t.to
theorem words_app (w v : List Thing) (p q : Nat) : words (w ++ v) p q = words w p q ++ words v p q := by unfold words; rw [List.filter_append, List.map_append]
theorem words_one (t : Thing) (p q : Nat) : words [t] p q = bif at_ p q t then [word t] else [] := by
  unfold words
  cases h : at_ p q t <;> simp [h]
theorem words_cons (t : Thing) (w : List Thing) (p q : Nat) : words (t :: w) p q = (bif at_ p q t then [word t] else []) ++ words w p q := by rw [← List.singleton_append, words_app, words_one]
theorem words_none {w : List Thing} {p q : Nat} (h : ∀ x ∈ w, at_ p q x = false) : words w p q = [] := by
  unfold words
  rw [List.filter_eq_nil_iff.2 fun x hx => by rw [h x hx]; decide]; rfl
theorem words_len (w : List Thing) (p q : Nat) : (words w p q).length ≤ w.length := by unfold words; rw [List.length_map]; exact List.length_filter_le _ _
theorem at_self (p q : Nat) (n : Int) (b : Bool) : at_ p q ⟨(p : Int), (q : Int), n, b⟩ = true := by simp [at_]
theorem at_iff {p q p' q' : Nat} {n : Int} {b : Bool} : at_ p' q' ⟨(p : Int), (q : Int), n, b⟩ = true ↔ p' = p ∧ q' = q := by simp [at_]; omega
def marks (p i : Nat) : List Thing := ((List.range i).filter fun q : Nat => q != p).map fun q : Nat => (⟨(p : Int), (q : Int), 0, true⟩ : Thing)
theorem marks_succ (p i : Nat) : marks p (i + 1) = marks p i ++ (bif i != p then [⟨(p : Int), (i : Int), 0, true⟩] else []) := by
  unfold marks
  rw [List.range_succ, List.filter_append, List.map_append]
  cases h : i != p <;> simp [h]
theorem marks_len (p i : Nat) : (marks p i).length ≤ i := by
  unfold marks
  rw [List.length_map]
  exact Nat.le_trans (List.length_filter_le _ _) (by simp)
theorem marks_ok {n p : Nat} (hp : p < n) : ∀ t ∈ marks p n, TOk n t := by
  intro t ht
  unfold marks at ht
  simp only [List.mem_map, List.mem_filter, List.mem_range] at ht
  obtain ⟨q, ⟨hq, hne⟩, rfl⟩ := ht
  exact ⟨by simp, by simp; omega, by simp, by simp; omega, fun _ => rfl, by simp, by simp, by simp at hne ⊢; omega⟩

/-! ### Lanes -/
structure Mat (n : Nat) (LL : List (List Lane)) (f : Nat → Nat → Lane) : Prop where
  len : LL.length = n
  row : ∀ p, p < n → ∃ r, LL[p]? = some r ∧ LIs r n (f p)
theorem Mat.set {n : Nat} {LL : List (List Lane)} {f g : Nat → Nat → Lane} (h : Mat n LL f) {p q : Nat} (hp : p < n) {r : List Lane} (hr : LL[p]? = some r) {x : Lane} (hg : ∀ p' q', p' < n → q' < n → g p' q' = if p' = p ∧ q' = q then x else f p' q') : Mat n (LL.set p (r.set q x)) g := by
  refine ⟨by rw [List.length_set]; exact h.len, fun p' hp' => ?_⟩
  obtain ⟨r', h1, h2⟩ := h.row p' hp'
  by_cases e : p' = p
  · subst e
    rw [hr] at h1
    obtain rfl := Option.some.inj h1
    refine ⟨r.set q x, by rw [List.getElem?_set_self (by rw [h.len]; exact hp)], (h2.set q x).to fun i hi => ?_⟩
    rw [hg p' i hp' hi]
    unfold upd
    by_cases k : i = q <;> simp [k]
  · refine ⟨r', by rw [List.getElem?_set_ne (fun k => e k.symm)]; exact h1, h2.to fun i hi => ?_⟩
    rw [hg p' i hp' hi, if_neg (fun k => e k.1)]
theorem Mat.to {n : Nat} {LL : List (List Lane)} {f g : Nat → Nat → Lane} (h : Mat n LL f) (hg : ∀ p q, p < n → q < n → f p q = g p q) : Mat n LL g :=
  ⟨h.len, fun p hp => by obtain ⟨r, h1, h2⟩ := h.row p hp; exact ⟨r, h1, h2.to fun q hq => hg p q hp hq⟩⟩
def lf (w : List Thing) (cl : Nat → Nat → Bool) (tt : Nat → Nat → Int) (p q : Nat) : Lane := ⟨words w p q, cl p q, tt p q⟩
theorem lf_snoc {w : List Thing} {cl : Nat → Nat → Bool} {tt : Nat → Nat → Int} {p q : Nat} {x : Int} {b : Bool} (p' q' : Nat) : lf (w ++ [⟨(p : Int), (q : Int), x, b⟩]) cl tt p' q' = if p' = p ∧ q' = q then ({ lf w cl tt p q with words := (lf w cl tt p q).words ++ [bif b then -1 else x] } : Lane) else lf w cl tt p' q' := by
  unfold lf
  rw [words_app, words_one]
  split
  · rename_i h
    obtain ⟨rfl, rfl⟩ := h
    rw [at_self]; rfl
  · rename_i h
    have : at_ p' q' ⟨(p : Int), (q : Int), x, b⟩ = false := by
      rw [Bool.eq_false_iff]; exact fun k => h (at_iff.1 k)
    rw [this, cond_false, List.append_nil]
abbrev gm (nw rc : List Int) (LL : List (List Lane)) : Game := ⟨nw, rc.map (max · 0), rc.map (fun x => decide (0 ≤ x)), LL⟩

/-! ### Records -/
theorem bne_nat (i p : Nat) : ((i : Int) != (p : Int)) = (i != p) := by rw [Bool.eq_iff_iff]; simp; omega
theorem beq_nat (i p : Nat) : ((i : Int) == (p : Int)) = (i == p) := by rw [Bool.eq_iff_iff]; simp; omega
theorem row_get {n : Nat} {LL : List (List Lane)} {f : Nat → Nat → Lane} (h : Mat n LL f) {p : Nat} (hp : p < n) : ∃ r, lat LL (p : Int) = some r ∧ LL[p]? = some r ∧ ∀ q, q < n → lat r (q : Int) = some (f p q) := by
  obtain ⟨r, h1, h2⟩ := h.row p hp
  exact ⟨r, by rw [lat_nat]; exact h1, h1, fun q hq => h2.lat hq⟩
theorem rec_code {n : Nat} {LL : List (List Lane)} {w : List Thing} {cl : Nat → Nat → Bool} {tt : Nat → Nat → Int} (hn : n ≤ 6) (hw : w.length ≤ 2 ^ 20) (hm : Mat n LL (lf w cl tt)) {p : Nat} (hp : p < n) (a0 : Game) (R : List Bool) (H : List Int) (z : Game) :
    Tot (rangeF (snap_game_record_B0 a0 (p : Int) R H) n 0 (z, LL)) fun o => Mat n o.2 (lf (w ++ marks p n) cl tt) := by
  refine Tot.rangeF (fun i o => Mat n o.2 (lf (w ++ marks p i) cl tt)) (by simpa [marks] using hm) ?_ (fun s hs => by simpa using hs)
  rintro i ⟨y, l⟩ _ hi hI
  have hi : i < n := by omega
  unfold snap_game_record_B0
  rw [bne_nat, marks_succ, ← List.append_assoc]
  cases h : i != p
  · rw [cond_false, cond_false, List.append_nil]
    exact Tot.some_iff.2 hI
  · rw [cond_true, cond_true]
    obtain ⟨r, h1, h2, h3⟩ := row_get hI hp
    simp only at h1
    have h4 := words_len (w ++ marks p i) p i
    have h5 := marks_len p i
    rw [List.length_append] at h4
    simp only [h1, Option.bind_some, h3 i hi]
    rw [room_ok (by simp only [lf, List.length_singleton]; omega)]
    simp only [Option.bind_some, Let_eq, Int.toNat_natCast]
    refine Tot.some_iff.2 (hI.set hp h2 fun p' q' _ _ => ?_)
    rw [lf_snoc]; rfl
theorem rec_ref {n : Nat} {w : List Thing} (hn : n ≤ 6) (hw : w.length ≤ 2 ^ 20) {p : Nat} : rangeF (partref_Picture_1_B0 (p : Int)) n 0 w = some (w ++ marks p n) := by
  refine Tot.eq ?_
  refine Tot.rangeF (fun i o => o = w ++ marks p i) (by simp [marks]) ?_ (fun s hs => by simpa using hs)
  rintro i _ _ hi rfl
  unfold partref_Picture_1_B0
  rw [bne_nat, marks_succ, ← List.append_assoc]
  have h5 := marks_len p i
  cases h : i != p
  · rw [cond_false, cond_false, List.append_nil]
    exact Tot.some_iff.2 rfl
  · rw [cond_true, cond_true, room_ok (by simp only [List.length_append, List.length_singleton]; omega)]
    exact Tot.some_iff.2 rfl
/-- Who has recorded, and how much. -/
structure ROk (n : Nat) (rc : List Int) : Prop where
  len : rc.length = n
  rng : ∀ x ∈ rc, -1 ≤ x
theorem mem_set {l : List Int} {p : Nat} {x y : Int} (h : y ∈ l.set p x) : y ∈ l ∨ y = x := List.mem_or_eq_of_mem_set h
structure NOk (n k : Nat) (nw : List Int) : Prop where
  len : nw.length = n
  rng : ∀ x ∈ nw, 0 ≤ x ∧ x ≤ 1000000 * ((k : Int) + 1)
theorem record_law {n k : Nat} {nw rc : List Int} {LL : List (List Lane)} {w : List Thing} {cl : Nat → Nat → Bool} {tt : Nat → Nat → Int} (hn : n ≤ 6) (hN : NOk n k nw) (hR : ROk n rc) (hw : w.length ≤ 2 ^ 20) (ht : ∀ t ∈ w, TOk n t) (hm : Mat n LL (lf w cl tt)) {p : Nat} (hp : p < n) :
    ∃ rc' w' L, snap_game_record (gm nw rc LL) (p : Int) = some (rc'.map (max · 0), rc'.map (fun x => decide (0 ≤ x)), L, gm nw rc' L) ∧ partref_Picture_1 (p : Int) rc nw (n : Int) w = some (rc', w') ∧
      ROk n rc' ∧ w'.length ≤ w.length + 6 ∧ (∀ t ∈ w', TOk n t) ∧ Mat n L (lf w' cl tt) := by
  have hpr : p < rc.length := by rw [hR.len]; exact hp
  have hpn : p < nw.length := by rw [hN.len]; exact hp
  unfold snap_game_record partref_Picture_1
  simp only [lat_nat, List.getElem?_map, List.getElem?_eq_getElem hpr, List.getElem?_eq_getElem hpn, Option.map_some, Option.bind_some]
  by_cases h : rc[p] ≥ 0
  · rw [decide_eq_true (show 0 ≤ rc[p] from h), cond_true, cond_true]
    exact ⟨rc, w, LL, rfl, rfl, hR, by omega, ht, hm⟩
  · rw [decide_eq_false (show ¬ 0 ≤ rc[p] from h), cond_false, cond_false]
    have h0 := (hN.rng _ (List.getElem_mem hpn)).1
    simp only [Let_eq, Int.toNat_natCast]
    rw [hN.len]
    obtain ⟨⟨y, L⟩, h1, h2⟩ := rec_code hn hw hm hp (gm nw rc LL) ((rc.map fun x => decide (0 ≤ x)).set p true) ((rc.map (max · 0)).set p nw[p]) ⟨nw, (rc.map (max · 0)).set p nw[p], (rc.map fun x => decide (0 ≤ x)).set p true, LL⟩
    rw [h1, Option.bind_some, upTo_ok (by omega), Option.bind_some, Int.toNat_natCast, rec_ref hn hw, Option.bind_some]
    have e1 : (rc.map (max · 0)).set p nw[p] = (rc.set p nw[p]).map (max · 0) := by
      rw [List.map_set, show max nw[p] 0 = nw[p] by omega]
    have e2 : (rc.map fun x => decide (0 ≤ x)).set p true = (rc.set p nw[p]).map (fun x => decide (0 ≤ x)) := by
      rw [List.map_set, decide_eq_true h0]
    have h5 := marks_len p n
    refine ⟨rc.set p nw[p], w ++ marks p n, L, by rw [e1, e2], rfl, ⟨by rw [List.length_set]; exact hR.len, fun x hx => ?_⟩, by rw [List.length_append]; omega, fun t q => ?_, h2⟩
    · rcases mem_set hx with k | k
      · exact hR.rng x k
      · omega
    · rcases List.mem_append.1 q with k | k
      · exact ht t k
      · exact marks_ok hp t k

/-! ### Sums -/
def sm (n : Nat) (f : Nat → Int) : Int := ((List.range n).map f).sum
theorem sm_zero (f : Nat → Int) : sm 0 f = 0 := rfl
theorem sm_succ (n : Nat) (f : Nat → Int) : sm (n + 1) f = sm n f + f n := by
  unfold sm
  rw [List.range_succ, List.map_append, List.sum_append]; simp
theorem sm_congr {n : Nat} {f g : Nat → Int} (h : ∀ i, i < n → f i = g i) : sm n f = sm n g := by
  induction n with
  | zero => rfl
  | succ n ih => rw [sm_succ, sm_succ, ih fun i hi => h i (by omega), h n (by omega)]
theorem sm_add (n : Nat) (f g : Nat → Int) : sm n (fun i => f i + g i) = sm n f + sm n g := by
  induction n with
  | zero => rfl
  | succ n ih => rw [sm_succ, sm_succ, sm_succ, ih]; omega
theorem sm_one (n a : Nat) (v : Int) : sm n (fun i => if i = a then v else 0) = if a < n then v else 0 := by
  induction n with
  | zero => rfl
  | succ n ih =>
    rw [sm_succ, ih]
    by_cases h1 : a < n
    · rw [if_pos h1, if_neg (by omega), if_pos (by omega), Int.add_zero]
    · by_cases h2 : n = a
      · rw [if_neg h1, if_pos h2, if_pos (by omega), Int.zero_add]
      · rw [if_neg h1, if_neg h2, if_neg (by omega)]; rfl
theorem sm_nonneg {n : Nat} {f : Nat → Int} (h : ∀ i, i < n → 0 ≤ f i) : 0 ≤ sm n f := by
  induction n with
  | zero => exact Int.le_refl 0
  | succ n ih => rw [sm_succ]; have := ih fun i hi => h i (by omega); have := h n (by omega); omega
theorem sm_null {n : Nat} {f : Nat → Int} (h : ∀ i, i < n → 0 ≤ f i) : sm n f = 0 ↔ ∀ i, i < n → f i = 0 := by
  induction n with
  | zero => exact ⟨fun _ i hi => by omega, fun _ => rfl⟩
  | succ n ih =>
    have h1 := sm_nonneg fun i (hi : i < n) => h i (by omega)
    have h2 := h n (by omega)
    have ih := ih fun i hi => h i (by omega)
    rw [sm_succ]
    constructor
    · intro q i hi
      by_cases e : i = n
      · subst e; omega
      · exact ih.1 (by omega) i (by omega)
    · intro q
      rw [ih.2 fun i hi => q i (by omega), q n (by omega)]; rfl
theorem sm_const (n : Nat) (v : Int) : sm n (fun _ => v) = (n : Int) * v := by
  induction n with
  | zero => simp [sm]
  | succ n ih => rw [sm_succ, ih]; push_cast; rw [Int.add_mul, Int.one_mul]
def sm2 (n : Nat) (f : Nat → Nat → Int) : Int := sm n fun p => sm n (f p)
theorem sm2_congr {n : Nat} {f g : Nat → Nat → Int} (h : ∀ i j, i < n → j < n → f i j = g i j) : sm2 n f = sm2 n g := sm_congr fun i hi => sm_congr fun j hj => h i j hi hj
theorem sm2_add (n : Nat) (f g : Nat → Nat → Int) : sm2 n (fun i j => f i j + g i j) = sm2 n f + sm2 n g := by
  unfold sm2
  rw [← sm_add]
  exact sm_congr fun i _ => sm_add n (f i) (g i)
theorem sm2_one {n a b : Nat} (ha : a < n) (hb : b < n) (v : Int) : sm2 n (fun i j => if i = a ∧ j = b then v else 0) = v := by
  unfold sm2
  have : sm n (fun i => sm n fun j => if i = a ∧ j = b then v else 0) = sm n fun i => if i = a then v else 0 := sm_congr fun i _ => by
    by_cases h : i = a
    · rw [if_pos h]
      have := sm_one n b v
      rw [if_pos hb] at this
      exact (sm_congr fun j _ => by simp [h]).trans this
    · rw [if_neg h]
      exact (sm_congr (g := fun _ => 0) fun j _ => by simp [h]).trans (by rw [sm_const, Int.mul_zero])
  rw [this, sm_one, if_pos ha]
theorem sm2_null {n : Nat} {f : Nat → Nat → Int} (h : ∀ i j, i < n → j < n → 0 ≤ f i j) : sm2 n f = 0 ↔ ∀ i j, i < n → j < n → f i j = 0 := by
  unfold sm2
  rw [sm_null fun i hi => sm_nonneg fun j hj => h i j hi hj]
  exact ⟨fun q i j hi hj => (sm_null fun j hj => h i j hi hj).1 (q i hi) j hj, fun q i hi => (sm_null fun j hj => h i j hi hj).2 fun j hj => q i j hi hj⟩

/-! ### The two maps -/
abbrev Mp := List ((Vector Int 2) × Int)
abbrev key (p q : Nat) : Vector Int 2 := #v[(p : Int), (q : Int)]
def tt_ (m : Mp) (p q : Nat) : Int := (mget m (key p q)).getD 0
def cl_ (m : Mp) (p q : Nat) : Bool := tt_ m p q != 0
theorem key_iff {p q p' q' : Nat} : key p' q' = key p q ↔ p' = p ∧ q' = q := by
  constructor
  · intro h
    have h0 := congrArg (fun v : Vector Int 2 => v[0]) h
    have h1 := congrArg (fun v : Vector Int 2 => v[1]) h
    simp at h0 h1
    omega
  · rintro ⟨rfl, rfl⟩; rfl
theorem tt_set (m : Mp) (p q : Nat) (v : Int) (p' q' : Nat) : tt_ (mset m (key p q) v) p' q' = if p' = p ∧ q' = q then v else tt_ m p' q' := by
  unfold tt_
  rw [mget_mset]
  by_cases h : p' = p ∧ q' = q
  · rw [if_pos (key_iff.2 h), if_pos h]; rfl
  · rw [if_neg fun e => h (key_iff.1 e), if_neg h]
theorem cl_set (m : Mp) (p q : Nat) (p' q' : Nat) : cl_ (mset m (key p q) 1) p' q' = if p' = p ∧ q' = q then true else cl_ m p' q' := by
  unfold cl_
  rw [tt_set]
  by_cases h : p' = p ∧ q' = q
  · rw [if_pos h, if_pos h]; rfl
  · rw [if_neg h, if_neg h]
theorem mset_len (m : Mp) (k : Vector Int 2) (v : Int) : (mset m k v).length = if mget m k = none then m.length + 1 else m.length := by
  induction m with
  | nil => rfl
  | cons p m ih =>
    rw [mset_cons, mget_cons]
    by_cases h : k = p.1
    · rw [if_pos h, if_pos h]; simp
    · rw [if_neg h, if_neg h, List.length_cons, ih, List.length_cons]
      split <;> rfl
structure KOk (n : Nat) (m : Mp) : Prop where
  one : ∀ k v, mget m k = some v → v = 1
  dg : ∀ p, p < n → cl_ m p p = false
  len : (m.length : Int) = sm2 n fun p q => if cl_ m p q then 1 else 0
theorem KOk.nil (n : Nat) : KOk n [] := by
  refine ⟨fun k v h => (by rw [mget_nil] at h; cases h), fun p _ => rfl, ?_⟩
  rw [(sm2_null (f := fun p q => if cl_ [] p q then (1 : Int) else 0) fun i j _ _ => by split <;> omega).2 fun i j _ _ => rfl]
  rfl
theorem KOk.set {n : Nat} {m : Mp} (h : KOk n m) {p q : Nat} (hp : p < n) (hq : q < n) (hpq : p ≠ q) : KOk n (mset m (key p q) 1) := by
  refine ⟨fun k v e => ?_, fun i hi => ?_, ?_⟩
  · rw [mget_mset] at e
    split at e
    · injection e with e; exact e.symm
    · exact h.one k v e
  · rw [cl_set, if_neg (by omega)]; exact h.dg i hi
  · rw [mset_len]
    cases e : mget m (key p q) with
    | none =>
      have ec : cl_ m p q = false := by unfold cl_ tt_; rw [e]; rfl
      rw [if_pos rfl]
      push_cast
      rw [h.len]
      refine (congrArg (fun x => _ + x) (sm2_one hp hq 1).symm).trans ?_
      rw [← sm2_add]
      refine sm2_congr fun i j _ _ => ?_
      rw [cl_set]
      by_cases k : i = p ∧ j = q
      · obtain ⟨rfl, rfl⟩ := k
        simp [ec]
      · simp only [if_neg k, Int.add_zero]
    | some v =>
      have ec : cl_ m p q = true := by unfold cl_ tt_; rw [e, h.one _ _ e]; rfl
      rw [if_neg (by simp), h.len]
      refine sm2_congr fun i j _ _ => ?_
      rw [cl_set]
      by_cases k : i = p ∧ j = q
      · obtain ⟨rfl, rfl⟩ := k
        simp [ec]
      · rw [if_neg k]
theorem KOk.all {n : Nat} {m : Mp} (h : KOk n m) (hn : n ≤ 6) : ((m.length : Int) == w64 ((n : Int) * w64 ((n : Int) - 1))) = (List.range n).all fun p => (List.range n).all fun q => (p == q) || cl_ m p q := by
  have hb : -6 ≤ (n : Int) * ((n : Int) - 1) ∧ (n : Int) * ((n : Int) - 1) ≤ 36 := by
    have : n = 0 ∨ n = 1 ∨ n = 2 ∨ n = 3 ∨ n = 4 ∨ n = 5 ∨ n = 6 := by omega
    rcases this with rfl | rfl | rfl | rfl | rfl | rfl | rfl <;> decide
  rw [w64_id (x := (n : Int) - 1) (by omega) (by omega), w64_id (by omega) (by omega)]
  have e1 : sm2 n (fun p q => (if (p == q) || cl_ m p q then (0 : Int) else 1)) = (n : Int) * ((n : Int) - 1) - m.length := by
    have e2 : sm2 n (fun p q => (if (p == q) || cl_ m p q then (0 : Int) else 1)) + (sm2 n fun p q => if cl_ m p q then 1 else 0) + sm2 n (fun p q => if q = p then 1 else 0) = sm2 n fun _ _ => 1 := by
      rw [← sm2_add, ← sm2_add]
      refine sm2_congr fun i j hi hj => ?_
      by_cases k : j = i
      · subst k; simp [h.dg j hj]
      · have : (i == j) = false := by simp; omega
        rw [this, Bool.false_or, if_neg k]
        cases cl_ m i j <;> rfl
    rw [← h.len] at e2
    have e3 : sm2 n (fun p q => if q = p then (1 : Int) else 0) = n := by
      unfold sm2
      rw [← Int.mul_one (n : Int), ← sm_const]
      exact sm_congr fun i hi => by rw [sm_one, if_pos hi]
    have e4 : sm2 n (fun _ _ => (1 : Int)) = (n : Int) * n := by
      unfold sm2
      rw [sm_const n (sm n fun _ => 1), sm_const, Int.mul_one]
    rw [e3, e4] at e2
    rw [Int.mul_sub, Int.mul_one]; omega
  have e5 := sm2_null (n := n) (f := fun p q => (if (p == q) || cl_ m p q then (0 : Int) else 1)) fun i j _ _ => by split <;> omega
  rw [Bool.eq_iff_iff, beq_iff_eq, List.all_eq_true]
  constructor
  · intro q p hp
    rw [List.all_eq_true]
    intro r hr
    have := e5.1 (by omega) p r (List.mem_range.1 hp) (List.mem_range.1 hr)
    cases k : (p == r) || cl_ m p r
    · simp only [k] at this; simp at this
    · rfl
  · intro q
    have := e5.2 fun i j hi hj => by
      have := List.all_eq_true.1 (q i (List.mem_range.2 hi)) j (List.mem_range.2 hj)
      simp only [this]; rfl
    omega

/-! ### One step -/
theorem split_way {w : List Thing} {p q i : Nat} {t : Thing} (h : w[i]? = some t) (ha : at_ p q t = true) (hn : ∀ (j : Nat) y, j < i → w[j]? = some y → at_ p q y = false) :
    words w p q = word t :: words (w.eraseIdx i) p q ∧ ∀ p' q', ¬ (p' = p ∧ q' = q) → words (w.eraseIdx i) p' q' = words w p' q' := by
  obtain ⟨hi, rfl⟩ := List.getElem?_eq_some_iff.1 h
  have e : w = w.take i ++ w[i] :: w.drop (i + 1) := by
    have := List.take_append_drop i w
    rw [List.drop_eq_getElem_cons hi] at this
    exact this.symm
  rw [List.eraseIdx_eq_take_drop_succ]
  have e0 : ∀ p q, words w p q = words (w.take i) p q ++ ((bif at_ p q w[i] then [word w[i]] else []) ++ words (w.drop (i + 1)) p q) := fun p q => by
    conv => lhs; rw [e]
    rw [words_app, words_cons]
  have e1 : words (w.take i) p q = [] := words_none fun x hx => by
    obtain ⟨j, hj⟩ := List.mem_iff_getElem?.1 hx
    have hlt := (List.getElem?_eq_some_iff.1 hj).1
    rw [List.length_take] at hlt
    rw [List.getElem?_take_of_lt (by omega)] at hj
    exact hn j x (by omega) hj
  refine ⟨?_, fun p' q' hne => ?_⟩
  · rw [e0, words_app, e1, ha]; rfl
  · have : at_ p' q' w[i] = false := by
      rw [Bool.eq_false_iff]
      intro k
      unfold at_ at k ha
      simp at k ha
      exact hne (by omega)
    rw [e0, words_app, this]; rfl
structure J (n k : Nat) (w : List Thing) (seen shut : Mp) (rc nw : List Int) (LL : List (List Lane)) : Prop where
  N : NOk n k nw
  R : ROk n rc
  wl : w.length ≤ 7 * k
  t : ∀ t ∈ w, TOk n t
  m : Mat n LL (lf w (cl_ shut) (tt_ seen))
  K : KOk n shut
theorem NOk.mono {n k : Nat} {nw : List Int} (h : NOk n k nw) : NOk n (k + 1) nw := ⟨h.len, fun x hx => by have := h.rng x hx; omega⟩
theorem NOk.set {n k : Nat} {nw : List Int} (h : NOk n k nw) {p : Nat} {x : Int} (hx : 0 ≤ x ∧ x ≤ 1000000 * ((k : Int) + 2)) : NOk n (k + 1) (nw.set p x) := ⟨by rw [List.length_set]; exact h.len, fun y hy => by
  rcases mem_set hy with q | q
  · have := h.rng y q; omega
  · omega⟩
theorem word_mark {t : Thing} {n : Nat} (h : TOk n t) : (word t == -1) = t.mark := by
  unfold word
  cases e : t.mark
  · have := h.n0; simp; omega
  · rfl
theorem lf_erase {w : List Thing} {p q i : Nat} {t : Thing} {cl : Nat → Nat → Bool} {tt : Nat → Nat → Int} (h : w[i]? = some t) (ha : at_ p q t = true) (hn : ∀ (j : Nat) y, j < i → w[j]? = some y → at_ p q y = false) (p' q' : Nat) :
    lf (w.eraseIdx i) cl tt p' q' = if p' = p ∧ q' = q then ({ lf w cl tt p q with words := words (w.eraseIdx i) p q } : Lane) else lf w cl tt p' q' := by
  by_cases k : p' = p ∧ q' = q
  · rw [if_pos k]
    obtain ⟨rfl, rfl⟩ := k
    rfl
  · rw [if_neg k]
    unfold lf
    rw [(split_way h ha hn).2 p' q' k]
theorem cut1 {x : Int} {l : List Int} (h : l.length ≤ 2 ^ 20) : cutL (x :: l) 1 ((x :: l).length : Int) = some l := by
  unfold cutL
  rw [if_pos (by simp; omega)]
  simp
theorem ref_idx (w : List Thing) (p q : Nat) (K N : Int) : slices_IndexFunc_partref_thing_partref_thing_Picture_2 w ⟨K, (p : Int), (q : Int), N⟩ = some (idxI (at_ p q) w) :=
  eq_slices_IndexFunc_partref_thing_partref_thing_Picture_2 w ⟨K, (p : Int), (q : Int), N⟩ (at_ p q) fun x _ => by
    unfold partref_Picture_2 at_
    rw [and_some]; rfl
theorem J.next {n k : Nat} {w : List Thing} {seen shut : Mp} {rc nw : List Int} {LL : List (List Lane)} (h : J n k w seen shut rc nw LL) : J n (k + 1) w seen shut rc nw LL :=
  ⟨h.N.mono, h.R, by have := h.wl; omega, h.t, h.m, h.K⟩
theorem step_law {n k : Nat} {w : List Thing} {seen shut : Mp} {rc nw : List Int} {LL : List (List Lane)} (hn : n ≤ 6) (hk : k ≤ 200) (h : J n k w seen shut rc nw LL) {a0 : List Int} {a1 : List Move} (h0 : a0.length = n) {j : Nat} {m : Move} (hm : a1[j]? = some m) (hi : MIn n m) (hne : m.Kind < 3 → m.From ≠ m.To) :
    ∃ w' seen' shut' rc' nw' L, snap_game_move (gm nw rc LL) m = some (nw', rc'.map (max · 0), rc'.map (fun x => decide (0 ≤ x)), L, gm nw' rc' L) ∧ partref_Picture_B0 a0 a1 j (w, seen, shut, rc, nw) = some (w', seen', shut', rc', nw') ∧ J n (k + 1) w' seen' shut' rc' nw' L := by
  obtain ⟨K, F, T, N⟩ := m
  obtain ⟨k1, k3, f0, f1, t0, t1, n0, n1⟩ := hi
  simp only at k1 k3 f0 f1 t0 t1 n0 n1 hne
  obtain ⟨p, rfl⟩ := int_nat f0
  obtain ⟨q, rfl⟩ := int_nat t0
  have hp : p < n := by omega
  have hq : q < n := by omega
  have hpn : p < nw.length := by rw [h.N.len]; exact hp
  have hqn : q < nw.length := by rw [h.N.len]; exact hq
  have hqr : q < rc.length := by rw [h.R.len]; exact hq
  have hwl := h.wl
  have hK : K = 1 ∨ K = 2 ∨ K = 3 := by omega
  unfold snap_game_move partref_Picture_B0
  rw [lat_nat a1, hm, Option.bind_some]
  obtain ⟨r, hr1, hr2, hr3⟩ := row_get h.m hp
  rcases hK with rfl | rfl | rfl
  · have hpq : p ≠ q := by have := hne (by decide); omega
    simp only [show ((1 : Int) == 1) = true from rfl, cond_true, lat_nat nw, List.getElem?_eq_getElem hpn, Option.bind_some]
    have hv := h.N.rng _ (List.getElem_mem hpn)
    by_cases hc : nw[p] ≥ N
    · simp only [decide_eq_true hc, cond_true, hr1, Option.bind_some, hr3 q hq, Let_eq, Int.toNat_natCast]
      have h4 := words_len w p q
      rw [room_ok (by simp only [lf, List.length_singleton]; omega), room_ok (by simp only [List.length_singleton]; omega), Option.bind_some, Option.bind_some]
      refine ⟨w ++ [⟨(p : Int), (q : Int), N, false⟩], seen, shut, rc, nw.set p (w64 (nw[p] - N)), _, rfl, rfl, h.N.set ?_, h.R, ?_, fun t ht => ?_, ?_, h.K⟩
      · rw [w64_id (by omega) (by omega)]; omega
      · rw [List.length_append, List.length_singleton]; omega
      · rcases List.mem_append.1 ht with a | a
        · exact h.t t a
        · obtain rfl := List.mem_singleton.1 a
          exact ⟨by simp, by simp; omega, by simp, by simp; omega, by simp, n0, n1, by simp; omega⟩
      · refine h.m.set hp hr2 fun p' q' _ _ => ?_
        rw [lf_snoc]; rfl
    · simp only [decide_eq_false hc, cond_false]
      exact ⟨w, seen, shut, rc, nw, LL, rfl, rfl, h.next⟩
  · have hpq : p ≠ q := by have := hne (by decide); omega
    simp only [show ((2 : Int) == 1) = false from rfl, show ((2 : Int) == 2) = true from rfl, cond_true, cond_false]
    rw [ref_idx, Option.bind_some]
    unfold snap_game_take
    simp only [hr1, Option.bind_some, hr3 q hq]
    rcases idxI_cases (at_ p q) w with ⟨e, hno⟩ | ⟨i, t, e, hit, hat, hbef⟩
    · rw [e, show decide ((-1 : Int) < 0) = true from rfl, cond_true, show (lf w (cl_ shut) (tt_ seen) p q).words = [] from words_none hno]
      exact ⟨w, seen, shut, rc, nw, LL, rfl, rfl, h.next⟩
    · obtain ⟨hw1, hw2⟩ := split_way hit hat hbef
      have hil := (List.getElem?_eq_some_iff.1 hit).1
      have htok := h.t t (List.mem_of_getElem? hit)
      have hel : (w.eraseIdx i).length = w.length - 1 := by rw [List.length_eraseIdx, if_pos hil]
      have hwe := words_len (w.eraseIdx i) p q
      have het : ∀ x ∈ w.eraseIdx i, TOk n x := fun x hx => h.t x (List.mem_of_mem_eraseIdx hx)
      rw [e, decide_eq_false (show ¬ (i : Int) < 0 by omega), cond_false, show (lf w (cl_ shut) (tt_ seen) p q).words = word t :: words (w.eraseIdx i) p q from hw1]
      rw [show (((word t :: words (w.eraseIdx i) p q).length : Int) == 0) = false from by simp; omega, cond_false]
      rw [show lat (word t :: words (w.eraseIdx i) p q) (0 : Int) = some (word t) from by simp [lat], Option.bind_some, cut1 (by omega), Option.bind_some, word_mark htok]
      rw [lat_nat w, hit, Option.bind_some, eq_slices_Delete_partref_thing_partref_thing hil (by omega), Option.bind_some, Let_eq]
      have hm1 := h.m.set (g := lf (w.eraseIdx i) (cl_ shut) (tt_ seen)) hp hr2 fun p' q' _ _ => lf_erase hit hat hbef p' q'
      cases hmk : t.mark
      · rw [cond_false, cond_false]
        have hwt : word t = t.n := by unfold word; rw [hmk]; rfl
        have hv := h.N.rng _ (List.getElem_mem hqn)
        have hn0 := htok.n0
        have hn1 := htok.n1
        rw [hwt]
        simp only [lat_nat nw, List.getElem?_eq_getElem hqn, Option.bind_some, Let_eq, Int.toNat_natCast, lat_nat rc, List.getElem?_eq_getElem hqr, lat_nat (rc.map fun x => decide (0 ≤ x)), List.getElem?_map, Option.map_some]
        have hN : NOk n (k + 1) (nw.set q (w64 (nw[q] + t.n))) := h.N.set (by rw [w64_id (by omega) (by omega)]; omega)
        obtain ⟨r', hs1, hs2, hs3⟩ := row_get hm1 hp
        by_cases hrec : rc[q] ≥ 0
        · rw [decide_eq_true (show 0 ≤ rc[q] from hrec), cond_true, cond_true]
          simp only [hs1, Option.bind_some, hs3 q hq]
          rw [show (((mget shut (#v[(p : Int), (q : Int)] : Vector Int 2)).getD (0 : Int)) == (0 : Int)) = !(cl_ shut p q) from by unfold cl_ tt_; simp [bne]]
          rw [show (lf (w.eraseIdx i) (cl_ shut) (tt_ seen) p q).closed = cl_ shut p q from rfl]
          cases hcl : cl_ shut p q
          · rw [Bool.not_false, cond_true, cond_true]
            refine ⟨w.eraseIdx i, mset (mset seen (key p q) (tt_ seen p q)) (key p q) (w64 (tt_ seen p q + t.n)), shut, rc, nw.set q (w64 (nw[q] + t.n)), _, rfl, rfl, hN, h.R, by omega, het, ?_, h.K⟩
            refine hm1.set hp hs2 fun p' q' _ _ => ?_
            unfold lf
            rw [tt_set, tt_set]
            by_cases k : p' = p ∧ q' = q
            · rw [if_pos k, if_pos k]
              obtain ⟨rfl, rfl⟩ := k
              rw [hcl]
            · rw [if_neg k, if_neg k, if_neg k]
          · rw [Bool.not_true, cond_false, cond_false]
            exact ⟨w.eraseIdx i, seen, shut, rc, nw.set q (w64 (nw[q] + t.n)), _, rfl, rfl, hN, h.R, by omega, het, hm1, h.K⟩
        · rw [decide_eq_false (show ¬ 0 ≤ rc[q] from hrec), cond_false, cond_false]
          exact ⟨w.eraseIdx i, seen, shut, rc, nw.set q (w64 (nw[q] + t.n)), _, rfl, rfl, hN, h.R, by omega, het, hm1, h.K⟩
      · rw [cond_true, cond_true]
        obtain ⟨rc', w', L, e1, e2, hR, hwl', ht', hm'⟩ := record_law hn h.N h.R (by omega) het hm1 hq
        rw [h0, e2, Option.bind_some]
        simp only [Int.toNat_natCast]
        have e1' : snap_game_record ({ gm nw rc LL with lanes := LL.set p (r.set q ({ lf w (cl_ shut) (tt_ seen) p q with words := words (w.eraseIdx i) p q } : Lane)) } : Game) (q : Int) = some (rc'.map (max · 0), rc'.map (fun x => decide (0 ≤ x)), L, gm nw rc' L) := e1
        rw [e1', Option.bind_some]
        obtain ⟨r', hs1, hs2, hs3⟩ := row_get hm' hp
        simp only [hs1, Option.bind_some, hs3 q hq, Let_eq]
        refine ⟨w', seen, mset shut (key p q) 1, rc', nw, _, rfl, rfl, h.N.mono, hR, by omega, ht', ?_, h.K.set hp hq hpq⟩
        refine hm'.set hp hs2 fun p' q' _ _ => ?_
        unfold lf
        rw [cl_set]
        by_cases k : p' = p ∧ q' = q
        · rw [if_pos k, if_pos k]
          obtain ⟨rfl, rfl⟩ := k
          rfl
        · rw [if_neg k, if_neg k]
  · simp only [show ((3 : Int) == 1) = false from rfl, show ((3 : Int) == 2) = false from rfl, show ((3 : Int) == 3) = true from rfl, cond_true, cond_false]
    obtain ⟨rc', w', L, e1, e2, hR, hwl', ht', hm'⟩ := record_law hn h.N h.R (by omega) h.t h.m hp
    rw [h0, e2, e1, Option.bind_some, Option.bind_some]
    exact ⟨w', seen, shut, rc', nw, L, rfl, rfl, h.N.mono, hR, by omega, ht', hm', h.K⟩

/-! ### The picture -/
def sumW (l : List Int) : Int := (l.map (max · 0)).sum
theorem sumW_snoc (l : List Int) (x : Int) : sumW (l ++ [x]) = sumW l + max x 0 := by unfold sumW; rw [List.map_append, List.sum_append]; simp
theorem sumW_app (l m : List Int) : sumW (l ++ m) = sumW l + sumW m := by unfold sumW; rw [List.map_append, List.sum_append]
theorem words_loop (a0 : Game) (y47 : Picture) (x67 : Lane) (W : Bool) (u : Int) : rangeF (snap_game_picture_B4 a0 y47 x67) x67.words.length 0 ⟨a0.have_, y47.Lanes, W, a0.now, w64 u⟩ = some ⟨a0.have_, y47.Lanes, W, a0.now, w64 (u + sumW x67.words)⟩ := by
  refine Tot.eq (Tot.rangeF (fun i o => o = ⟨a0.have_, y47.Lanes, W, a0.now, w64 (u + sumW (x67.words.take i))⟩) (by simp [sumW]) ?_ fun o ho => ?_)
  · rintro i _ _ hi rfl
    have hi : i < x67.words.length := by omega
    unfold snap_game_picture_B4
    rw [lat_nat, List.getElem?_eq_getElem hi, Option.bind_some, Let_eq, w64_add]
    refine Tot.some_iff.2 ?_
    rw [List.take_add_one, List.getElem?_eq_getElem hi, Option.toList_some, sumW_snoc, Int.add_assoc]
  · rw [Nat.zero_add, List.take_length] at ho; exact ho
theorem row_loop {n : Nat} {w : List Thing} {cl : Nat → Nat → Bool} {tt : Nat → Nat → Int} (hn : n ≤ 6) (a0 : Game) (z : Picture) (p : Nat) {r : List Lane} (hr : LIs r n (lf w cl tt p)) (W : Bool) (u : Int) :
    rangeF (snap_game_picture_B2 a0 z p r) n 0 (⟨a0.have_, z.Lanes, W, a0.now, w64 u⟩, []) =
      some (⟨a0.have_, z.Lanes, W && (List.range n).all (fun q => (p == q) || cl p q), a0.now, w64 (u + sm n fun q => sumW (words w p q))⟩, (List.range n).map (tt p)) := by
  refine Tot.eq (Tot.rangeF (fun i o => o = (⟨a0.have_, z.Lanes, W && (List.range i).all (fun q => (p == q) || cl p q), a0.now, w64 (u + sm i fun q => sumW (words w p q))⟩, (List.range i).map (tt p))) (by simp [sm]) ?_ fun o ho => ?_)
  · rintro i _ _ hi rfl
    have hi : i < n := by omega
    unfold snap_game_picture_B2
    rw [hr.lat hi, Option.bind_some, room_ok (by simp; omega), Option.bind_some]
    simp only
    rw [List.range_succ, List.all_append, List.map_append, sm_succ, ← Int.add_assoc, ← Bool.and_assoc]
    have e1 : ∀ x : Bool, rangeF (snap_game_picture_B4 a0 z (lf w cl tt p i)) (lf w cl tt p i).words.length 0 ⟨a0.have_, z.Lanes, x, a0.now, w64 (u + sm i fun q => sumW (words w p q))⟩ = _ := fun x => words_loop a0 z (lf w cl tt p i) x _
    have e2 : ∀ x : Bool, rangeF (snap_game_picture_B4x a0 z (lf w cl tt p i)) (lf w cl tt p i).words.length 0 ⟨a0.have_, z.Lanes, x, a0.now, w64 (u + sm i fun q => sumW (words w p q))⟩ = _ := e1
    generalize (W && (List.range i).all (fun q => (p == q) || cl p q)) = B
    cases B
    · rw [cond_false, e1, Option.bind_some]
      exact Tot.some_iff.2 rfl
    · rw [cond_true, or_some, Option.bind_some, e2, Option.bind_some, beq_nat]
      refine Tot.some_iff.2 ?_
      rw [Bool.true_and]
      show _ = (Picture.mk _ _ (((p == i) || cl p i) && true) _ _, _)
      rw [Bool.and_true]; rfl
  · rw [Nat.zero_add] at ho; exact ho
def rowsOf (n k : Nat) (tt : Nat → Nat → Int) : List (List Int) := (List.range k).map fun p => (List.range n).map (tt p)
theorem pic_code {n : Nat} {w : List Thing} {cl : Nat → Nat → Bool} {tt : Nat → Nat → Int} {nw rc : List Int} {LL : List (List Lane)} (hn : n ≤ 6) (hm : Mat n LL (lf w cl tt)) :
    snap_game_picture (gm nw rc LL) = some ⟨rc.map (max · 0), rowsOf n n tt, !(rc.map fun x => decide (0 ≤ x)).contains false && (List.range n).all (fun p => (List.range n).all fun q => (p == q) || cl p q), nw, w64 (sm2 n fun p q => sumW (words w p q))⟩ := by
  unfold snap_game_picture
  rw [eq_slices_Contains_bool_bool, Option.bind_some, Let_eq, show (gm nw rc LL).lanes.length = n from hm.len]
  simp only
  have key : rangeF (snap_game_picture_B0 (gm nw rc LL)) n 0 ⟨rc.map (max · 0), [], !(rc.map fun x => decide (0 ≤ x)).contains false, nw, w64 0⟩ = some ⟨rc.map (max · 0), rowsOf n n tt, !(rc.map fun x => decide (0 ≤ x)).contains false && (List.range n).all (fun p => (List.range n).all fun q => (p == q) || cl p q), nw, w64 (sm2 n fun p q => sumW (words w p q))⟩ := by
    refine Tot.eq (Tot.rangeF (fun k o => o = ⟨rc.map (max · 0), rowsOf n k tt, !(rc.map fun x => decide (0 ≤ x)).contains false && (List.range k).all (fun p => (List.range n).all fun q => (p == q) || cl p q), nw, w64 (sm k fun p => sm n fun q => sumW (words w p q))⟩) (by simp [sm, rowsOf]) ?_ fun o ho => ?_)
    · rintro k _ _ hk rfl
      have hk : k < n := by omega
      obtain ⟨r, h1, h2⟩ := hm.row k hk
      unfold snap_game_picture_B0
      rw [lat_nat, show (gm nw rc LL).lanes[k]? = some r from h1, Option.bind_some, h2.1]
      have e := row_loop hn (gm nw rc LL) ⟨rc.map (max · 0), rowsOf n k tt, !(rc.map fun x => decide (0 ≤ x)).contains false && (List.range k).all (fun p => (List.range n).all fun q => (p == q) || cl p q), nw, w64 (sm k fun p => sm n fun q => sumW (words w p q))⟩ k h2 (!(rc.map fun x => decide (0 ≤ x)).contains false && (List.range k).all (fun p => (List.range n).all fun q => (p == q) || cl p q)) (sm k fun p => sm n fun q => sumW (words w p q))
      refine Tot.of_eq (a := ⟨rc.map (max · 0), rowsOf n (k + 1) tt, !(rc.map fun x => decide (0 ≤ x)).contains false && (List.range (k + 1)).all (fun p => (List.range n).all fun q => (p == q) || cl p q), nw, w64 (sm (k + 1) fun p => sm n fun q => sumW (words w p q))⟩) ?_ rfl
      refine (congrArg (Option.bind · _) e).trans ?_
      rw [Option.bind_some]
      simp only
      rw [room_ok (by unfold rowsOf; simp; omega), Option.bind_some, sm_succ]
      unfold rowsOf
      rw [List.range_succ, List.all_append, List.map_append, ← Bool.and_assoc]
      simp
    · rw [Nat.zero_add] at ho; exact ho
  exact (congrArg (Option.bind · _) key).trans rfl
theorem sum_words {n : Nat} {w : List Thing} (h : ∀ t ∈ w, TOk n t) : (sm2 n fun p q => sumW (words w p q)) = (w.map (·.n)).sum := by
  induction w with
  | nil => exact (sm2_null fun _ _ _ _ => Int.le_refl 0).2 fun _ _ _ _ => rfl
  | cons t w ih =>
    have ht := h t (List.mem_cons_self ..)
    rw [List.map_cons, List.sum_cons, ← ih fun x hx => h x (List.mem_cons_of_mem _ hx)]
    obtain ⟨a, ha⟩ := int_nat ht.f0
    obtain ⟨b, hb⟩ := int_nat ht.t0
    have h1 := ht.f1
    have h2 := ht.t1
    have h3 := ht.n0
    have e := sm2_one (n := n) (a := a) (b := b) (by omega) (by omega) t.n
    rw [← e, ← sm2_add]
    refine sm2_congr fun i j _ _ => ?_
    rw [words_cons, sumW_app]
    congr 1
    by_cases k : i = a ∧ j = b
    · have : at_ i j t = true := by unfold at_; rw [ha, hb, k.1, k.2]; simp
      rw [this, if_pos k, cond_true]
      unfold sumW word
      cases hmk : t.mark
      · simp; omega
      · have := ht.mz hmk; simp; omega
    · have : at_ i j t = false := by
        rw [Bool.eq_false_iff]
        intro q
        unfold at_ at q
        simp at q
        exact k (by omega)
      rw [this, if_neg k]; rfl
theorem cells_ref {n : Nat} (hn : n ≤ 6) (seen : Mp) (p : Nat) : rangeF (partref_Picture_B5 seen p) n 0 [] = some ((List.range n).map (tt_ seen p)) := by
  refine Tot.eq (Tot.rangeF (fun i o => o = (List.range i).map (tt_ seen p)) rfl ?_ fun o ho => ?_)
  · rintro i _ _ hi rfl
    unfold partref_Picture_B5
    rw [room_ok (by simp; omega), Option.bind_some, List.range_succ, List.map_append]
    exact Tot.some_iff.2 rfl
  · rw [Nat.zero_add] at ho; exact ho
theorem rows_ref {n : Nat} (hn : n ≤ 6) {a0 rc nw : List Int} (h0 : a0.length = n) (hr : rc.length = n) (seen : Mp) (W : Bool) :
    rangeF (partref_Picture_B3 a0 seen rc nw) n 0 ⟨[], [], W, nw, 0⟩ = some ⟨rc.map (max · 0), rowsOf n n (tt_ seen), W, nw, 0⟩ := by
  refine Tot.eq (Tot.rangeF (fun k o => o = ⟨(rc.take k).map (max · 0), rowsOf n k (tt_ seen), W, nw, 0⟩) (by simp [rowsOf]) ?_ fun o ho => ?_)
  · rintro k _ _ hk rfl
    have hk : k < rc.length := by omega
    unfold partref_Picture_B3
    rw [lat_nat, List.getElem?_eq_getElem hk, Option.bind_some, Let_eq, room_ok (by simp; omega), Option.bind_some, h0, cells_ref hn, Option.bind_some, room_ok (by simp [rowsOf]; omega), Option.bind_some]
    refine Tot.some_iff.2 ?_
    unfold rowsOf
    rw [List.range_succ, List.map_append, List.take_add_one, List.getElem?_eq_getElem hk, Option.toList_some, List.map_append]
    rfl
  · rw [Nat.zero_add, ← hr, List.take_length, hr] at ho; exact ho
theorem sum_ref {nw : List Int} (w : List Thing) (y : Picture) (hy : y.Now = nw) (hu : y.Under = w64 0) : rangeF (partref_Picture_B7 w nw y) w.length 0 y = some ⟨y.Have, y.Lanes, y.Whole, nw, w64 (w.map (·.n)).sum⟩ := by
  obtain ⟨H, Ls, W, N, U⟩ := y
  subst hy hu
  refine Tot.eq (Tot.rangeF (fun i o => o = ⟨H, Ls, W, N, w64 ((w.take i).map (·.n)).sum⟩) (by simp) ?_ fun o ho => ?_)
  · rintro i _ _ hi rfl
    have hi : i < w.length := by omega
    unfold partref_Picture_B7
    rw [lat_nat, List.getElem?_eq_getElem hi, Option.bind_some, Let_eq, w64_add]
    refine Tot.some_iff.2 ?_
    rw [List.take_add_one, List.getElem?_eq_getElem hi, Option.toList_some, List.map_append, List.sum_append]
    simp
  · rw [Nat.zero_add, List.take_length] at ho; exact ho
theorem contains_rec {rc : List Int} (h : ∀ x ∈ rc, -1 ≤ x) : (rc.map fun x => decide (0 ≤ x)).contains false = rc.contains (-1) := by
  rw [Bool.eq_iff_iff, List.contains_iff_mem, List.contains_iff_mem, List.mem_map]
  constructor
  · rintro ⟨x, hx, e⟩
    have := h x hx
    have : x = -1 := by have := of_decide_eq_false e; omega
    exact this ▸ hx
  · intro hx
    exact ⟨-1, hx, rfl⟩

/-! ### Play -/
theorem lanes_code {n : Nat} (hn : n ≤ 6) {a0 : List Int} (h0 : a0.length = n) (l32 : List Bool) (l34 l36 : List Int) :
    rangeF (snap_Play_B0 a0 l32 l34 l36) n 0 (⟨l36, l34, l32, []⟩, []) = some (⟨l36, l34, l32, List.replicate n (List.replicate n Lane.zero)⟩, List.replicate n (List.replicate n Lane.zero)) := by
  refine Tot.eq (Tot.rangeF (fun i o => o = (⟨l36, l34, l32, List.replicate i (List.replicate n Lane.zero)⟩, List.replicate i (List.replicate n Lane.zero))) rfl ?_ fun o ho => ?_)
  · rintro i _ _ hi rfl
    unfold snap_Play_B0
    rw [h0, show mkLen (n : Int) = some n from by unfold mkLen; rw [if_pos (by omega)]; rfl, Option.bind_some, room_ok (by simp; omega), Option.bind_some, Let_eq]
    refine Tot.some_iff.2 ?_
    rw [List.replicate_succ']
  · rw [Nat.zero_add] at ho; exact ho
theorem start {n : Nat} {a0 : List Int} (h0 : a0.length = n) (hv : ∀ x ∈ a0, 0 ≤ x ∧ x ≤ 1000000) : J n 0 [] [] [] (List.replicate n (-1)) a0 (List.replicate n (List.replicate n Lane.zero)) := by
  refine ⟨⟨h0, fun x hx => by have := hv x hx; simp; omega⟩, ⟨by simp, fun x hx => ?_⟩, Nat.le_refl 0, fun t ht => (by cases ht), ⟨by simp, fun p hp => ?_⟩, KOk.nil n⟩
  · rw [List.eq_of_mem_replicate hx]; exact Int.le_refl _
  · exact ⟨List.replicate n Lane.zero, by simp [hp], LIs.rep.to fun q _ => rfl⟩
theorem play_law {a0 : List Int} {a1 : List Move} (h : Right a0 a1) (hc : snap_Check a0 a1 = some 0) : ∃ P, snap_Play a0 a1 = some (P, 0) ∧ partref_Picture 8 a0 a1 = some P := by
  have hn := h.n6
  have hl := h.l200
  have hmk : mkLen (a0.length : Int) = some a0.length := by unfold mkLen; rw [if_pos (by omega)]; rfl
  unfold snap_Play partref_Picture
  rw [hc, Option.bind_some, show ((0 : Int) != 0) = false from rfl, cond_false, eq_slices_Clone_int_int (by omega), Option.bind_some, Option.bind_some, hmk, Option.bind_some, Option.bind_some, Let_eq, eq_slices_Repeat_int_int h.n1 (by omega) (by omega), Option.bind_some]
  simp only
  have e0 := lanes_code hn rfl (List.replicate a0.length false) (List.replicate a0.length (0 : Int)) a0
  rw [show rangeF (snap_Play_B0 a0 (List.replicate a0.length false) (List.replicate a0.length 0) a0) a0.length 0 (({ Game.zero with now := a0, have_ := List.replicate a0.length 0, recorded := List.replicate a0.length false, lanes := ([] : List (List Lane)) } : Game), ([] : List (List Lane))) = _ from e0, Option.bind_some]
  simp only
  obtain ⟨s, t, e1, e2, w, seen, shut, rc, nw, LL, rfl, rfl, hJ⟩ := rangeF_rel (f := snap_Play_B2 a1) (g := partref_Picture_B0 a0 a1)
    (fun j s t => ∃ w seen shut rc nw LL, s = (gm nw rc LL, LL, rc.map (fun x => decide (0 ≤ x)), rc.map (max · 0), nw) ∧ t = (w, seen, shut, rc, nw) ∧ J a0.length j w seen shut rc nw LL)
    a1.length 0 (⟨a0, List.replicate a0.length 0, List.replicate a0.length false, List.replicate a0.length (List.replicate a0.length Lane.zero)⟩, List.replicate a0.length (List.replicate a0.length Lane.zero), List.replicate a0.length false, List.replicate a0.length 0, a0) ([], [], [], List.replicate a0.length (-1), a0)
    ⟨[], [], [], _, _, _, by simp only [gm, List.map_replicate]; rfl, rfl, start rfl h.have_⟩ (by
      rintro j _ _ _ hj ⟨w, seen, shut, rc, nw, LL, rfl, rfl, hJ⟩
      have hj : j < a1.length := by omega
      obtain ⟨hi, hne⟩ := h.mv _ (List.getElem_mem hj)
      obtain ⟨w', seen', shut', rc', nw', L, e1, e2, hJ'⟩ := step_law hn (by omega) hJ (a0 := a0) rfl (List.getElem?_eq_getElem hj) hi hne
      refine ⟨_, _, ?_, e2, w', seen', shut', rc', nw', L, rfl, rfl, hJ'⟩
      unfold snap_Play_B2
      rw [lat_nat, List.getElem?_eq_getElem hj, Option.bind_some]
      exact (congrArg (Option.bind · _) e1).trans rfl)
  rw [e1, e2, Option.bind_some, Option.bind_some]
  have e3 := pic_code (nw := nw) (rc := rc) hn hJ.m
  refine ⟨_, (congrArg (Option.bind · _) e3).trans rfl, ?_⟩
  have e4 : ∀ W : Bool, ((rangeF (partref_Picture_B3 a0 seen rc nw) a0.length 0 ⟨[], [], W, nw, 0⟩).bind fun y => (rangeF (partref_Picture_B7 w nw y) w.length 0 ({ y with Now := nw } : Picture)).bind fun y2 => some ({ y2 with Have := y.Have, Lanes := y.Lanes, Now := nw } : Picture)) = some ⟨rc.map (max · 0), rowsOf a0.length a0.length (tt_ seen), W, nw, w64 (w.map (·.n)).sum⟩ := fun W => by
    rw [rows_ref hn rfl hJ.R.len, Option.bind_some]
    exact (congrArg (Option.bind · _) (sum_ref w _ rfl rfl)).trans rfl
  rw [hJ.K.all hn, contains_rec hJ.R.rng, sum_words hJ.t, eq_slices_Contains_int_int, Option.bind_some, Let_eq, Let_eq]
  simp only
  cases (List.range a0.length).all fun p => (List.range a0.length).all fun q => (p == q) || cl_ shut p q
  · rw [cond_false, Bool.and_false]
    exact e4 false
  · rw [cond_true, Bool.and_true]
    exact e4 _
theorem equalFunc_eq (l m : List (List Int)) : slices_EqualFunc_int_int_int_int_int_int l m = some (decide (l = m)) := by
  unfold slices_EqualFunc_int_int_int_int_int_int
  refine equal_loop (fun x y => !decide (x = y)) (fun _ _ => rfl) fun j => ?_
  unfold slices_EqualFunc_int_int_int_int_int_int_B0
  simp only [eq_slices_Equal_int_int, Option.bind_some]
theorem same_self (P : Picture) : partref_SamePicture P P = some true := by
  unfold partref_SamePicture
  simp only [eq_slices_Equal_int_int, equalFunc_eq, Option.bind_some, decide_true, cond_true, beq_self_eq_true]
theorem snapplays_law (a0 : List Int) (a1 : List Move) (_ : Rng.ok a0) (_ : Rng.ok a1) : ∃ fu, partlaw_SnapPlays fu a0 a1 = some true := by
  refine ⟨8, ?_⟩
  obtain ⟨c, h1, h2, h3⟩ := codes_law a0 a1
  unfold partlaw_SnapPlays
  rw [h1, Option.bind_some]
  by_cases hc : c = 0
  · subst hc
    obtain ⟨P, e1, e2⟩ := play_law (h3 rfl) h2
    rw [e1, Option.bind_some, h2, Option.bind_some, e2]
    simp only [bne_self_eq_false, cond_false, Option.bind_some, Let_eq]
    have := same_self P
    show ((partref_SamePicture P P).bind _) = _
    rw [this]; rfl
  · have e : snap_Play a0 a1 = some (Picture.zero, c) := by
      unfold snap_Play
      rw [h2, Option.bind_some, show (c != 0) = true from by simpa using hc, cond_true]; rfl
    rw [e, Option.bind_some, h2, Option.bind_some]
    simp only [bne_self_eq_false, cond_false]
    rw [show (c != 0) = true from by simpa using hc, cond_true, same_self, Option.bind_some]
    simp

end Go.Proofs.Ytnkfphbggemlbaa
