/-
  EnterSays: the plain law.
-/
import Derived.Test.YtobikknjaomalaaEnLib
import Derived.Test.YtobikknjaomalaaEnTb8
namespace Go.Proofs.Ytobikknjaomalaa
open Enc

theorem ein_eq (a b c : Int) : enter_in a b c = some (decide (a ≥ b) && decide (a ≤ c)) := by
  unfold enter_in
  rw [and_some, Option.bind_some]
theorem pow_n {n : Nat} (hn : n ≤ 6) : w64 ((1 : Int) * 2 ^ (min n 64)) = ((2 ^ n : Nat) : Int) := by
  have hp : (2 : Int) ^ (min n 64) = ((2 ^ n : Nat) : Int) := by rw [Nat.min_eq_left (by omega)]; push_cast; rfl
  have hb : 2 ^ n ≤ 64 := Nat.pow_le_pow_right (by omega) hn
  rw [hp, Int.one_mul]
  generalize 2 ^ n = m at hb
  exact w64_id (by omega) (by omega)

/-! ### All but one -/
def oth (n p : Nat) : BitVec 8 := (((1 : BitVec 8) <<< n) - (1 : BitVec 8)) &&& ~~~((1 : BitVec 8) <<< p)
theorem others_eq (n p : Nat) : enter_others (n : Int) (p : Int) = some (oth n p) := by
  unfold enter_others
  rw [cnt_n, Option.bind_some, cnt_n, Option.bind_some]; rfl
def othTest (n p y : Nat) : Bool :=
  let Y := BitVec.ofNat 8 y
  ((((Y &&& ~~~oth n p).toNat != 0) == (decide (2 ^ n ≤ y) || tb Y p)) && (((Y &&& ~~~oth n p).toNat != 0) || ((Y != oth n p) == (pcF 8 y != n - 1)))) &&
    (List.range n).all fun q => q == p || (((Y &&& ~~~oth n p).toNat != 0) || ((Y ||| ((1 : BitVec 8) <<< q)) &&& ~~~oth n p).toNat == 0) && (oth n p ||| ((1 : BitVec 8) <<< q)) == oth n p
theorem oth_all : ((List.range 7).all fun n => (List.range n).all fun p => (List.range 256).all fun y => othTest n p y) = true := by kernel_rfl
theorem oth_test {n p : Nat} (hn : n ≤ 6) (hp : p < n) (Y : BitVec 8) : othTest n p Y.toNat = true := by
  have h1 := List.all_eq_true.1 oth_all n (List.mem_range.2 (by omega))
  have h2 := List.all_eq_true.1 h1 p (List.mem_range.2 hp)
  exact List.all_eq_true.1 h2 Y.toNat (List.mem_range.2 Y.isLt)
theorem ofNat_self (Y : BitVec 8) : BitVec.ofNat 8 Y.toNat = Y := by simp
theorem oth_out {n p : Nat} (hn : n ≤ 6) (hp : p < n) (Y : BitVec 8) : (((Y &&& ~~~oth n p).toNat : Int) != ((0 : BitVec 8).toNat : Int)) = (decide ((Y.toNat : Int) ≥ w64 ((1 : Int) * 2 ^ (min n 64))) || tb Y p) := by
  have h := oth_test hn hp Y
  unfold othTest at h
  simp only [ofNat_self, Bool.and_eq_true, beq_iff_eq] at h
  have h := h.1.1
  rw [pow_n hn, zero8v]
  have e1 : (((Y &&& ~~~oth n p).toNat : Int) != 0) = ((Y &&& ~~~oth n p).toNat != 0) := by
    rw [Bool.eq_iff_iff, bne_iff_ne, bne_iff_ne]; omega
  have e2 : decide ((Y.toNat : Int) ≥ ((2 ^ n : Nat) : Int)) = decide (2 ^ n ≤ Y.toNat) := by
    rw [Bool.eq_iff_iff, decide_eq_true_eq, decide_eq_true_eq]
    generalize 2 ^ n = m
    omega
  rw [e1, e2, h]
theorem oth_size {n p : Nat} (hn : n ≤ 6) (hp : p < n) {Y : BitVec 8} (hY : (Y &&& ~~~oth n p).toNat = 0) : ((Y.toNat : Int) != ((oth n p).toNat : Int)) = ((one8 Y : Int) != (n : Int) - 1) := by
  have h := oth_test hn hp Y
  unfold othTest at h
  simp only [ofNat_self, Bool.and_eq_true, beq_iff_eq, hY] at h
  have h := h.1.2
  simp only [bne_self_eq_false, Bool.false_or, beq_iff_eq] at h
  rw [u_bne, h]
  unfold one8
  rw [Bool.eq_iff_iff, bne_iff_ne, bne_iff_ne]
  generalize pcF 8 Y.toNat = m
  omega
theorem oth_more {n p q : Nat} (hn : n ≤ 6) (hp : p < n) (hq : q < n) (hne : q ≠ p) {Y : BitVec 8} (hY : (Y &&& ~~~oth n p).toNat = 0) : ((Y ||| ((1 : BitVec 8) <<< q)) &&& ~~~oth n p).toNat = 0 ∧ oth n p ||| ((1 : BitVec 8) <<< q) = oth n p := by
  have h := oth_test hn hp Y
  unfold othTest at h
  simp only [ofNat_self, Bool.and_eq_true] at h
  have h := List.all_eq_true.1 h.2 q (List.mem_range.2 hq)
  have e : (q == p) = false := by simpa using hne
  simp only [e, hY, bne_self_eq_false, Bool.false_or, Bool.and_eq_true, beq_iff_eq] at h
  exact h

/-! ### Doors -/
def lbad (n p : Nat) (l : List Int) (j : Nat) (x : Int) : Bool := ((decide (x < 0) || decide (x ≥ (n : Int))) || (x == (p : Int))) || (l.take j).contains x
theorem idx_ne {l : List Int} {j : Nat} {x : Int} (h : l[j]? = some x) : (idxI (x == ·) l != (j : Int)) = (l.take j).contains x := by
  have hj := (List.getElem?_eq_some_iff.1 h).1
  rcases idxI_cases (x == ·) l with ⟨_, h2⟩ | ⟨i, y, h1, h2, h3, h4⟩
  · have := h2 x (List.mem_of_getElem? h); simp at this
  · have hy : x = y := by simpa using h3
    subst hy
    rw [h1, Bool.eq_iff_iff, bne_iff_ne, List.contains_iff_mem]
    constructor
    · intro hne
      have : i < j := by
        rcases Nat.lt_or_ge i j with q | q
        · exact q
        · have : j < i := by omega
          have := h4 j x this h
          simp at this
      exact List.mem_iff_getElem?.2 ⟨i, by rw [List.getElem?_take_of_lt this]; exact h2⟩
    · intro hm e
      obtain ⟨k, hk⟩ := List.mem_iff_getElem?.1 hm
      have hlt := (List.getElem?_eq_some_iff.1 hk).1
      simp only [List.length_take] at hlt
      rw [List.getElem?_take_of_lt (by omega)] at hk
      have := h4 k x (by omega) hk
      simp at this
open Classical in
noncomputable def lw (n p : Nat) (l : List Int) : Bool := decide (∃ (j : Nat) (x : Int), l[j]? = some x ∧ lbad n p l j x = true)
theorem lw_false {n p : Nat} {l : List Int} : lw n p l = false ↔ ∀ (j : Nat) (x : Int), l[j]? = some x → lbad n p l j x = false := by
  unfold lw
  rw [decide_eq_false_iff_not]
  constructor
  · intro h j x hx
    cases q : lbad n p l j x
    · rfl
    · exact absurd ⟨j, x, hx, q⟩ h
  · rintro h ⟨j, x, hx, q⟩
    rw [h j x hx] at q; cases q
open Classical in
theorem lw_true {n p : Nat} {l : List Int} {j : Nat} {x : Int} (hx : l[j]? = some x) (q : lbad n p l j x = true) : lw n p l = true := by
  unfold lw
  rw [decide_eq_true_eq]
  exact ⟨j, x, hx, q⟩
/-- A loop over the numbers that wait. -/
theorem later_loop {τ : Type} {n p : Nat} {l : List Int} {t : τ} {body : Nat → Unit → Option (Ctl Unit τ)} (hb : ∀ (j : Nat) x, l[j]? = some x → body j () = some (bif lbad n p l j x then .ret t else .go ())) : rangeM body l.length 0 () = some (bif lw n p l then .inr t else .inl ()) := by
  refine Tot.eq ?_
  refine all_loop (e := fun j x => bif lbad n p l j x then some t else none) ?_ ?_ ?_
  · intro j x hx
    rw [hb j x hx]
    cases lbad n p l j x <;> rfl
  · intro h
    have : lw n p l = false := lw_false.2 fun j x hx => by
      have := h j x hx
      cases q : lbad n p l j x
      · rfl
      · simp [q] at this
    rw [this]; rfl
  · intro j x t' hx h _
    cases q : lbad n p l j x
    · simp [q] at h
    · simp [q] at h
      rw [lw_true hx q, ← h]; rfl
def d1 (d : Door) : Bool := ((((decide (d.Clock < 0) || decide (d.Clock > 16777215)) || decide (d.Wish < 0)) || decide (d.Wish > d.Clock)) || decide ((d.Later.length : Int) > 6))
def d0 (d : Door) : Bool := (d.Wish == 0) && ((((d.Yes.toNat : Int) != ((0 : BitVec 8).toNat : Int)) || d.In) || decide ((d.Later.length : Int) > 0))
def dout (n p : Nat) (d : Door) : Bool := ((d.Yes &&& ~~~oth n p).toNat : Int) != ((0 : BitVec 8).toNat : Int)
def din (n p : Nat) (d : Door) : Bool := d.In && ((d.Yes.toNat : Int) != ((oth n p).toNat : Int))
noncomputable def dcode (n p : Nat) (d : Door) : Int := bif d1 d then 1 else bif dout n p d || (d0 d || din n p d) then 4 else bif lw n p d.Later then 4 else 0
theorem door_eq {n p : Nat} (hn : n ≤ 6) (hp : p < n) (d : Door) : enter_door d (p : Int) (n : Int) = some (dcode n p d) := by
  unfold enter_door
  have e64 : w64 ((n : Int) - 1) = (n : Int) - 1 := w64_id (by omega) (by omega)
  have hl : rangeM (enter_door_B1 d (p : Int) (n : Int)) d.Later.length 0 () = some (bif lw n p d.Later then .inr 4 else .inl ()) := later_loop fun j x hx => by
    have hj := (List.getElem?_eq_some_iff.1 hx).1
    unfold enter_door_B1
    rw [lat_nat, hx, Option.bind_some, ein_eq, Option.bind_some, or_some, Option.bind_some, cut_take (by omega), Option.bind_some, eq_slices_Contains_int_int, Option.bind_some, or_some, Option.bind_some, e64]
    have e : ((!(decide (x ≥ 0) && decide (x ≤ (n : Int) - 1)) || x == (p : Int)) || (d.Later.take j).contains x) = lbad n p d.Later j x := by
      unfold lbad
      congr 2
      rw [Bool.eq_iff_iff]; simp <;> omega
    rw [e]
    cases lbad n p d.Later j x <;> rfl
  simp only [ein_eq, Option.bind_some, or_some, and_some, others_eq, hl]
  have e1 : ((!(decide (d.Clock ≥ 0) && decide (d.Clock ≤ 16777215)) || !(decide (d.Wish ≥ 0) && decide (d.Wish ≤ d.Clock))) || decide ((d.Later.length : Int) > 6)) = d1 d := by
    unfold d1
    rw [Bool.eq_iff_iff]; simp <;> omega
  rw [e1]
  unfold dcode dout d0 din
  cases d1 d
  · cases ((d.Yes &&& ~~~oth n p).toNat : Int) != ((0 : BitVec 8).toNat : Int)
    · simp only [cond_false, Bool.false_or]
      cases ((d.Wish == 0) && ((((d.Yes.toNat : Int) != ((0 : BitVec 8).toNat : Int)) || d.In) || decide ((d.Later.length : Int) > 0))) || (d.In && ((d.Yes.toNat : Int) != ((oth n p).toNat : Int)))
      · cases lw n p d.Later <;> rfl
      · rfl
    · rfl
  · rfl
theorem row_eq {t : Enter} {fu p : Nat} {d : Door} (hfu : 2 ^ 16 < fu) (hn : t.Doors.length ≤ 6) (hd : t.Doors[p]? = some d) : enter_Check_B0 t p () = some (bif dcode t.Doors.length p d != 0 then .ret (dcode t.Doors.length p d) else .go ()) ∧ partref_EnterErr_B0 fu t p () = some (bif dcode t.Doors.length p d != 0 then .ret (dcode t.Doors.length p d) else .go ()) := by
  have hp := (List.getElem?_eq_some_iff.1 hd).1
  constructor
  · unfold enter_Check_B0
    rw [lat_nat, hd, Option.bind_some, door_eq hn hp, Option.bind_some]
    exact cond_some _ _ _
  · unfold partref_EnterErr_B0
    have e64 : w64 ((t.Doors.length : Int) - 1) = (t.Doors.length : Int) - 1 := w64_id (by omega) (by omega)
    have hl : rangeM (partref_EnterErr_B2 t p d) d.Later.length 0 () = some (bif lw t.Doors.length p d.Later then .inr (.ret 4) else .inl ()) := later_loop fun j x hx => by
      unfold partref_EnterErr_B2
      rw [lat_nat, hx, Option.bind_some, or_some, Option.bind_some, or_some, Option.bind_some, eq_slices_Index_int_int, Option.bind_some, or_some, Option.bind_some, idx_ne hx]
      show (bif lbad t.Doors.length p d.Later j x then _ else _) = _
      cases lbad t.Doors.length p d.Later j x <;> rfl
    simp only [lat_nat, hd, Option.bind_some, or_some, and_some, cnt_n, tb_mod, pos8, size8 hfu, hl]
    rw [← oth_out hn hp, e64]
    unfold dcode
    show (bif d1 d then _ else _) = _
    cases h1 : d1 d
    · cases h2 : dout t.Doors.length p d
      · have hz : (d.Yes &&& ~~~oth t.Doors.length p).toNat = 0 := by
          unfold dout at h2; rw [zero8v] at h2; simpa using h2
        unfold dout at h2
        rw [h2, ← oth_size hn hp hz]
        simp only [cond_false, Bool.false_or]
        show (bif d0 d || din t.Doors.length p d then _ else _) = _
        cases d0 d || din t.Doors.length p d
        · cases lw t.Doors.length p d.Later <;> rfl
        · rfl
      · unfold dout at h2
        rw [h2]; rfl
    · rfl
structure DOk (n p : Nat) (d : Door) : Prop where
  clock : 0 ≤ d.Clock ∧ d.Clock ≤ 16777215
  wish : 0 ≤ d.Wish ∧ d.Wish ≤ d.Clock
  later : d.Later.length ≤ 6
  out : (d.Yes &&& ~~~oth n p).toNat = 0
  zero : d.Wish = 0 → d.Yes = 0 ∧ d.In = false ∧ d.Later = []
  full : d.In = true → d.Yes = oth n p
theorem dcode_ok {n p : Nat} {d : Door} (h : dcode n p d = 0) : DOk n p d := by
  unfold dcode at h
  cases h1 : d1 d
  · rw [h1] at h
    cases h2 : dout n p d || (d0 d || din n p d)
    · simp only [Bool.or_eq_false_iff] at h2
      obtain ⟨h2, h3, h4⟩ := h2
      unfold d1 at h1
      simp only [Bool.or_eq_false_iff, decide_eq_false_iff_not] at h1
      unfold dout at h2
      unfold d0 at h3
      unfold din at h4
      refine ⟨by omega, by omega, by omega, by rw [zero8v] at h2; simpa using h2, fun hw => ?_, fun hi => ?_⟩
      · rw [hw] at h3
        simp only [beq_self_eq_true, Bool.true_and, Bool.or_eq_false_iff, decide_eq_false_iff_not, u_bne] at h3
        refine ⟨by simpa using h3.1.1, h3.1.2, List.eq_nil_of_length_eq_zero (by omega)⟩
      · rw [hi, Bool.true_and, u_bne] at h4
        simpa using h4
    · rw [h2] at h; simp only [cond_true, cond_false] at h; omega
  · rw [h1] at h; simp only [cond_true] at h; omega

/-! ### Words -/
theorem word_eq {t : Enter} {i : Nat} {w : Word} (hw : t.Way[i]? = some w) (hn : t.Doors.length ≤ 6) : ∃ c : Int, partref_wordsErr_B0 (t.Doors.length : Int) t.Way 16777215 i () = some (bif c != 0 then .ret c else .go ()) ∧ enter_Check_B2 t i () = some (bif c != 0 then .ret c else .go ()) ∧
    (c = 0 → (0 ≤ w.From ∧ w.From < t.Doors.length) ∧ (0 ≤ w.To ∧ w.To < t.Doors.length) ∧ (0 ≤ w.At ∧ w.At ≤ 16777215) ∧ w.From ≠ w.To) := by
  unfold partref_wordsErr_B0 enter_Check_B2
  have e64 : w64 ((t.Doors.length : Int) - 1) = (t.Doors.length : Int) - 1 := w64_id (by omega) (by omega)
  simp only [lat_nat, hw, ein_eq, e64, Option.bind_some, or_some]
  have a1 : (decide (min w.From w.To < 0) || decide (max w.From w.To ≥ (t.Doors.length : Int))) = (!(decide (w.From ≥ 0) && decide (w.From ≤ (t.Doors.length : Int) - 1)) || !(decide (w.To ≥ 0) && decide (w.To ≤ (t.Doors.length : Int) - 1))) := by
    rw [Bool.eq_iff_iff]; simp <;> omega
  have a2 : (decide (w.At < 0) || decide (w.At > 16777215)) = !(decide (w.At ≥ 0) && decide (w.At ≤ 16777215)) := by
    rw [Bool.eq_iff_iff]; simp <;> omega
  rw [a1, a2, show decide ((16777215 : Int) > 1) = true from by decide, cond_true]
  cases h1 : (!(decide (w.From ≥ 0) && decide (w.From ≤ (t.Doors.length : Int) - 1)) || !(decide (w.To ≥ 0) && decide (w.To ≤ (t.Doors.length : Int) - 1)))
  · cases h2 : !(decide (w.At ≥ 0) && decide (w.At ≤ 16777215))
    · have h3 : decide (w.At < 0) = false ∧ decide (w.At > 16777215) = false := by rw [← a2, Bool.or_eq_false_iff] at h2; exact h2
      rw [h3.1, h3.2, Bool.or_false, Bool.or_false]
      cases h4 : w.From == w.To
      · refine ⟨0, rfl, rfl, fun _ => ?_⟩
        simp only [Bool.or_eq_false_iff, Bool.not_eq_false', Bool.and_eq_true, decide_eq_true_eq] at h1 h2
        have : w.From ≠ w.To := by simpa using h4
        omega
      · exact ⟨4, rfl, rfl, fun h => by cases h⟩
    · exact ⟨1, rfl, rfl, fun h => by cases h⟩
  · exact ⟨1, rfl, rfl, fun h => by cases h⟩

/-! ### The codes -/
theorem code_loop {k : Nat} {f g : Nat → Unit → Option (Ctl Unit Int)} {P : Nat → Prop} (h : ∀ j, j < k → ∃ c : Int, f j () = some (bif c != 0 then .ret c else .go ()) ∧ g j () = some (bif c != 0 then .ret c else .go ()) ∧ (c = 0 → P j)) :
    ∃ o, rangeM f k 0 () = some o ∧ rangeM g k 0 () = some o ∧ ((o = .inl () ∧ ∀ j, j < k → P j) ∨ ∃ c, c ≠ 0 ∧ o = .inr c) := by
  have hs : rangeM g k 0 () = rangeM f k 0 () := same_loop fun j _ hj => by
    obtain ⟨c, h1, h2, _⟩ := h j (by omega)
    rw [h1, h2]
  have ht : Tot (rangeM f k 0 ()) fun o => (o = .inl () ∧ ∀ j, j < k → P j) ∨ ∃ c, c ≠ 0 ∧ o = .inr c := by
    refine Tot.rangeM (fun i _ => ∀ j, j < i → P j) (fun j hj => by omega) ?_ ?_
    · intro j _ _ hj hI
      obtain ⟨c, h1, _, h3⟩ := h j (by omega)
      rw [h1, Tot.some_iff]
      by_cases e : c = 0
      · subst e
        intro i hi
        by_cases q : i = j
        · subst q; exact h3 rfl
        · exact hI i (by omega)
      · have : (c != 0) = true := by simpa using e
        rw [this]
        exact .inr ⟨c, e, rfl⟩
    · intro _ hI
      exact .inl ⟨rfl, fun j hj => hI j (by omega)⟩
  obtain ⟨o, h1, h2⟩ := ht
  exact ⟨o, h1, hs.trans h1, h2⟩
structure WOk (n : Nat) (w : Word) : Prop where
  fr : 0 ≤ w.From ∧ w.From < n
  to : 0 ≤ w.To ∧ w.To < n
  at' : 0 ≤ w.At ∧ w.At ≤ 16777215
  ne : w.From ≠ w.To
structure EOk (t : Enter) : Prop where
  n : 1 ≤ t.Doors.length ∧ t.Doors.length ≤ 6
  way : t.Way.length ≤ 100
  door : ∀ (p : Nat) d, t.Doors[p]? = some d → DOk t.Doors.length p d
  word : ∀ (i : Nat) w, t.Way[i]? = some w → WOk t.Doors.length w
theorem codes_law {fu : Nat} (hfu : 2 ^ 16 < fu) (t : Enter) : ∃ c, enter_Check t = some c ∧ partref_EnterErr fu t = some c ∧ (c = 0 → EOk t) := by
  unfold enter_Check partref_EnterErr
  rw [ein_eq, Option.bind_some, or_some, Option.bind_some]
  have e1 : (decide ((t.Doors.length : Int) < 1) || decide ((t.Doors.length : Int) > 6)) = !(decide ((t.Doors.length : Int) ≥ 1) && decide ((t.Doors.length : Int) ≤ 6)) := by
    rw [Bool.eq_iff_iff]; simp <;> omega
  rw [e1]
  cases hb : !(decide ((t.Doors.length : Int) ≥ 1) && decide ((t.Doors.length : Int) ≤ 6))
  · have hn : 1 ≤ t.Doors.length ∧ t.Doors.length ≤ 6 := by simp at hb; omega
    obtain ⟨o, o1, o2, o3⟩ := code_loop (f := enter_Check_B0 t) (g := partref_EnterErr_B0 fu t) (k := t.Doors.length) (P := fun p => ∀ d, t.Doors[p]? = some d → DOk t.Doors.length p d) fun p hp => by
      have hd : t.Doors[p]? = some t.Doors[p] := by simp [hp]
      obtain ⟨h1, h2⟩ := row_eq hfu hn.2 hd
      refine ⟨_, h1, h2, fun h d hd' => ?_⟩
      rw [hd] at hd'; cases hd'
      exact dcode_ok h
    rw [o1, o2]
    rcases o3 with ⟨rfl, hd⟩ | ⟨c, hc, rfl⟩
    · have hw : ∀ (i : Nat), i < t.Way.length → ∃ c : Int, enter_Check_B2 t i () = some (bif c != 0 then .ret c else .go ()) ∧ partref_wordsErr_B0 (t.Doors.length : Int) t.Way 16777215 i () = some (bif c != 0 then .ret c else .go ()) ∧ (c = 0 → ∀ w, t.Way[i]? = some w → WOk t.Doors.length w) := fun i hi => by
        have hx : t.Way[i]? = some t.Way[i] := by simp [hi]
        obtain ⟨c, h1, h2, h3⟩ := word_eq hx hn.2
        refine ⟨c, h2, h1, fun h w hw => ?_⟩
        rw [hx] at hw; cases hw
        obtain ⟨q1, q2, q3, q4⟩ := h3 h
        exact ⟨q1, q2, q3, q4⟩
      obtain ⟨o, p1, p2, p3⟩ := code_loop hw
      show ∃ c, (bif decide ((t.Way.length : Int) > 100) then _ else _) = some c ∧ (partref_wordsErr _ _ _).bind _ = some c ∧ _
      unfold partref_wordsErr
      rw [p1, p2]
      cases hl : decide ((t.Way.length : Int) > 100)
      · rcases p3 with ⟨rfl, hw⟩ | ⟨c, hc, rfl⟩
        · exact ⟨0, rfl, rfl, fun _ => ⟨hn, by have := of_decide_eq_false hl; omega, fun p d h => hd p (List.getElem?_eq_some_iff.1 h).1 d h, fun i w h => hw i (List.getElem?_eq_some_iff.1 h).1 w h⟩⟩
        · exact ⟨c, rfl, rfl, fun h => absurd h hc⟩
      · exact ⟨2, rfl, rfl, fun h => by cases h⟩
    · exact ⟨c, rfl, rfl, fun h => absurd h hc⟩
  · exact ⟨1, rfl, rfl, fun h => by cases h⟩

/-! ### Copies and sameness -/
theorem door_len {t : Enter} (h : EOk t) {j : Nat} (hj : j < t.Doors.length) : t.Doors[j].Later.length ≤ 6 := (h.door j _ (by simp [hj])).later
theorem copy_body {t z : Enter} {j : Nat} (h : EOk t) (hj : j < t.Doors.length) (hz : z.Doors.length ≤ 6) : enter_clone_B0 t t.Way j z = some { z with Doors := z.Doors ++ [t.Doors[j]], Way := t.Way } ∧ partref_enterCopy_B0 t t.Way j z = some { z with Doors := z.Doors ++ [t.Doors[j]], Way := t.Way } := by
  have hx : t.Doors[j]? = some t.Doors[j] := by simp [hj]
  have hl := door_len h hj
  have hr : ∀ x : Door, room z.Doors [x] = some () := fun x => by unfold room; rw [if_pos]; simp; omega
  unfold enter_clone_B0 partref_enterCopy_B0
  simp only [lat_nat, hx, Option.bind_some, eq_slices_Clone_int_int (show t.Doors[j].Later.length ≤ 2 ^ 40 by omega), hr]
  constructor <;> first | trivial | rfl
theorem clone_eq {t : Enter} (h : EOk t) : enter_clone t = some t ∧ partref_enterCopy t = some t := by
  have hw := h.way
  have key : ∀ (f : Nat → Enter → Option Enter), (∀ j z, (hj : j < t.Doors.length) → z.Doors.length ≤ 6 → f j z = some { z with Doors := z.Doors ++ [t.Doors[j]], Way := t.Way }) → rangeF f t.Doors.length 0 ({ Enter.zero with Doors := ([] : List Door), Way := t.Way } : Enter) = some t := by
    intro f hf
    refine Tot.eq ?_
    refine Tot.rangeF (fun j z => z = ({ Doors := t.Doors.take j, Way := t.Way } : Enter)) rfl ?_ ?_
    · rintro j z _ hj rfl
      have hj : j < t.Doors.length := by omega
      have hx : t.Doors[j]? = some t.Doors[j] := by simp [hj]
      have hn := h.n
      rw [hf j _ hj (by simp; omega), Tot.some_iff, List.take_add_one, hx]; rfl
    · rintro z rfl
      rw [Nat.zero_add, List.take_length]
  unfold enter_clone partref_enterCopy
  rw [eq_slices_Clone_api_Word_api_Word (by omega), Option.bind_some, Option.bind_some, key _ (fun j z hj hz => (copy_body h hj hz).1), key _ (fun j z hj hz => (copy_body h hj hz).2)]
  exact ⟨rfl, rfl⟩
theorem same1_eq (a b : Door) : partref_SameEnter_1 a b = some (decide (a = b)) := by
  unfold partref_SameEnter_1
  simp only [and_some, Option.bind_some, eq_slices_Equal_int_int, u_beq]
  congr 1
  cases a; cases b
  rw [Bool.eq_iff_iff]; simp
  constructor
  · rintro ⟨⟨⟨⟨a, b⟩, c⟩, d⟩, e⟩; exact ⟨a, b, c, d, e⟩
  · rintro ⟨a, b, c, d, e⟩; exact ⟨⟨⟨⟨a, b⟩, c⟩, d⟩, e⟩
theorem same_eq (a b : Enter) : partref_SameEnter a b = some (decide (a = b)) := by
  unfold partref_SameEnter slices_EqualFunc_api_Door_api_Door_api_Door_api_Door_SameEnter_1
  rw [equal_loop (l := a.Doors) (m := b.Doors) (fun x y => !decide (x = y)) (fun _ _ => rfl) (fun j => by
    unfold slices_EqualFunc_api_Door_api_Door_api_Door_api_Door_SameEnter_1_B0
    simp only [same1_eq, Option.bind_some])]
  rw [Option.bind_some, eq_slices_Equal_api_Word_api_Word, Option.bind_some, and_some, Option.bind_some]
  congr 1
  cases a; cases b
  rw [Bool.eq_iff_iff]; simp

/-! ### Taking -/
theorem lat_put {α : Type} {l : List α} {i : Nat} {x y : α} (h : l[i]? = some x) : lat (l.set i y) (i : Int) = some y := by
  rw [lat_nat, List.getElem?_set_self (List.getElem?_eq_some_iff.1 h).1]
theorem full_eq {n p q : Nat} {d : Door} (hn : n ≤ 6) (hp : p < n) (hq : q < n) (hne : q ≠ p) (h : DOk n p d) : (((d.Yes ||| ((1 : BitVec 8) <<< q)).toNat : Int) == ((oth n p).toNat : Int)) = (d.In || ((one8 (d.Yes ||| ((1 : BitVec 8) <<< q)) : Int) == (n : Int) - 1)) := by
  obtain ⟨h1, h2⟩ := oth_more hn hp hq hne h.out
  have h3 := oth_size hn hp h1
  cases hi : d.In
  · rw [Bool.false_or]
    have := congrArg (! ·) h3
    simpa [bne] using this
  · rw [h.full hi, h2, Bool.true_or, beq_self_eq_true]
theorem take_eq {t : Enter} {k fu : Nat} (hfu : 2 ^ 16 < fu) (h : EOk t) (hc : enter_Check t = some 0) (hk : k < t.Way.length) : ∃ r, partref_EnterTake fu t (k : Int) = some r ∧ enter_Take t (k : Int) = some (r, 0) := by
  have hw : t.Way[k]? = some t.Way[k] := by simp [hk]
  have hwk := h.word k _ hw
  generalize t.Way[k] = w at hw hwk
  obtain ⟨fr, to, at'⟩ := w
  obtain ⟨q, rfl⟩ := int_nat hwk.fr.1
  obtain ⟨p, rfl⟩ := int_nat hwk.to.1
  have hq : q < t.Doors.length := by have := hwk.fr.2; simp only at this; omega
  have hp : p < t.Doors.length := by have := hwk.to.2; simp only at this; omega
  have hne : q ≠ p := by have := hwk.ne; simp only at this; omega
  have hat := hwk.at'
  simp only at hat
  have hd : t.Doors[p]? = some t.Doors[p] := by simp [hp]
  have hdo := h.door p _ hd
  generalize t.Doors[p] = d at hd hdo
  have hn := h.n
  have hl := h.way
  have e64 : w64 ((t.Doors.length : Int) - 1) = (t.Doors.length : Int) - 1 := w64_id (by omega) (by omega)
  have f64 : w64 ((t.Way.length : Int) - 1) = (t.Way.length : Int) - 1 := w64_id (by omega) (by omega)
  have k64 : w64 ((k : Int) + 1) = ((k + 1 : Nat) : Int) := by rw [w64_id (by omega) (by omega)]; omega
  have eg : (decide ((k : Int) ≥ 0) && decide ((k : Int) ≤ (t.Way.length : Int) - 1)) = true := by simp; omega
  have c1 : cutL t.Way 0 (k : Int) = some (t.Way.take k) := cut_take (by omega)
  have c2 : cutL t.Way ((k + 1 : Nat) : Int) (t.Way.length : Int) = some (t.Way.drop (k + 1)) := by
    unfold cutL; rw [if_pos (by omega)]
    congr 1
    rw [Int.toNat_natCast, Int.toNat_natCast, List.take_of_length_le (by simp)]
  have c3 : slices_Concat_api_Word_api_Word [t.Way.take k, t.Way.drop (k + 1)] = some (t.Way.eraseIdx k) := by
    rw [eq_slices_Concat_api_Word_api_Word (by simp; omega), List.eraseIdx_eq_take_drop_succ]
  have r1 : ∀ x : Word, room (t.Way.eraseIdx k) [x] = some () := fun x => by
    unfold room; rw [if_pos]
    have := List.length_eraseIdx_le t.Way k
    simp; omega
  have r2 : ∀ x : Int, room d.Later [x] = some () := fun x => by unfold room; rw [if_pos]; have := hdo.later; simp; omega
  have hdel : slices_Delete_api_Word_api_Word t.Way (k : Int) ((k + 1 : Nat) : Int) = some (t.Way.eraseIdx k) := by
    rw [← k64]; exact eq_slices_Delete_api_Word_api_Word hk (by omega)
  have hws := hdo.wish
  have hfull := full_eq hn.2 hp hq hne hdo
  unfold partref_EnterTake enter_Take
  rw [hc, Option.bind_some, ein_eq, f64, eg, (clone_eq h).1, (clone_eq h).2]
  simp only [bne_self_eq_false, cond_false, Bool.not_true, Option.bind_some, lat_nat, hw, hdel, c1, k64, c2, c3, hd, Int.toNat_natCast, cnt_n, Let, or_some, and_some]
  have hset : ∀ y : Door, (t.Doors.set p y)[p]? = some y := fun y => by rw [List.getElem?_set_self hp]
  have hset2 : ∀ y z : Door, (t.Doors.set p y).set p z = t.Doors.set p z := fun y z => List.set_set ..
  cases ha : at' == 0
  · have e1 : decide (d.Wish > 0) = (d.Wish != 0) := by rw [Bool.eq_iff_iff, decide_eq_true_eq, bne_iff_ne]; omega
    simp only [cond_false, hset, hset2, Option.bind_some, or_some, and_some, e1, r1, r2, eq_slices_Contains_int_int, Int.max_comm at' d.Clock]
    cases !d.In && !((d.Wish != 0) && (decide (d.Wish < at') || ((d.Wish == at') && decide ((p : Int) < (q : Int)))))
    · cases !d.Later.contains (q : Int)
      · exact ⟨_, rfl, rfl⟩
      · exact ⟨_, rfl, rfl⟩
    · exact ⟨_, rfl, rfl⟩
  · have e1 : decide (d.Wish > 0) = !(d.Wish == 0) := by rw [Bool.eq_iff_iff]; simp; omega
    simp only [cond_true, hset, hset2, Option.bind_some, or_some, and_some, e1, List.length_set, others_eq, size8 hfu, e64, hfull]
    cases d.Wish == 0
    · exact ⟨_, rfl, rfl⟩
    · exact ⟨_, rfl, rfl⟩

/-! ### Wishing -/
theorem grow_loop {k : Nat} {a : Enter} {f : Nat → Enter × List Word → Option (Enter × List Word)} (ha : a.Way.length ≤ 1000) (hk : k ≤ 1000) (h : ∀ j z, j < k → z.2.length ≤ 1000 + j → Tot (f j z) fun y => y.2.length ≤ 1000 + (j + 1)) : ∃ r, rangeF f k 0 (a, a.Way) = some r := by
  obtain ⟨r, h1, _⟩ : Tot (rangeF f k 0 (a, a.Way)) fun _ => True := Tot.rangeF (fun j z => z.2.length ≤ 1000 + j) (by simp only; omega) (fun j z _ hj hz => h j z (by omega) hz) (fun _ _ => trivial)
  exact ⟨r, h1⟩
theorem room_one {l : List Word} {x : Word} (h : l.length ≤ 2000) : room l [x] = some () := by unfold room; rw [if_pos]; simp; omega
theorem wish_eq {t : Enter} (h : EOk t) (hc : enter_Check t = some 0) {p : Nat} (hp : p < t.Doors.length) : ∃ r, partref_EnterWish t (p : Int) = some r ∧ enter_Wish t (p : Int) = some r := by
  have hd : t.Doors[p]? = some t.Doors[p] := by simp [hp]
  have hdo := h.door p _ hd
  generalize t.Doors[p] = d at hd hdo
  have hn := h.n
  have hl := h.way
  have hws := hdo.wish
  have hcl := hdo.clock
  have e64 : w64 ((t.Doors.length : Int) - 1) = (t.Doors.length : Int) - 1 := w64_id (by omega) (by omega)
  have s64 : w64 ((t.Way.length : Int) + (t.Doors.length : Int)) = (t.Way.length : Int) + (t.Doors.length : Int) := w64_id (by omega) (by omega)
  have r64 : w64 ((t.Way.length : Int) + (t.Doors.length : Int) - 1) = (t.Way.length : Int) + (t.Doors.length : Int) - 1 := w64_id (by omega) (by omega)
  have eg : (decide ((p : Int) ≥ 0) && decide ((p : Int) ≤ (t.Doors.length : Int) - 1)) = true := by simp; omega
  have ef : decide ((t.Way.length : Int) + (t.Doors.length : Int) - 1 > 100) = decide ((t.Way.length : Int) + (t.Doors.length : Int) > 101) := by
    rw [Bool.eq_iff_iff, decide_eq_true_eq, decide_eq_true_eq]; omega
  have e1 : decide (d.Wish > 0) = (d.Wish != 0) := by rw [Bool.eq_iff_iff, decide_eq_true_eq, bne_iff_ne]; omega
  have hset : ∀ y : Door, (t.Doors.set p y)[p]? = some y := fun y => by rw [List.getElem?_set_self hp]
  have hset2 : ∀ y z : Door, (t.Doors.set p y).set p z = t.Doors.set p z := fun y z => List.set_set ..
  unfold partref_EnterWish enter_Wish
  rw [hc, Option.bind_some, ein_eq, e64, eg, (clone_eq h).1, (clone_eq h).2]
  simp only [bne_self_eq_false, cond_false, Bool.not_true, Option.bind_some, lat_nat, hd, Int.toNat_natCast, Let, or_some, e1, hset, hset2, s64, r64, ef]
  cases hw0 : d.Wish != 0
  · have hw : d.Wish = 0 := by simpa using hw0
    obtain ⟨z1, z2, z3⟩ := hdo.zero hw
    have ed : ({ d with Clock := w64 (d.Clock + 1), Wish := w64 (d.Clock + 1), In := (t.Doors.length : Int) == 1 } : Door) = { Door.zero with Clock := w64 (d.Clock + 1), Wish := w64 (d.Clock + 1), In := (t.Doors.length : Int) == 1 } := by
      rw [z1, z3]; rfl
    cases (d.Clock == 16777215) || decide ((t.Way.length : Int) + (t.Doors.length : Int) > 101)
    · simp only [cond_false]
      rw [ed]
      generalize hP : t.Doors.set p ({ Door.zero with Clock := w64 (d.Clock + 1), Wish := w64 (d.Clock + 1), In := (t.Doors.length : Int) == 1 } : Door) = P
      have hPp : lat P (p : Int) = some ({ Door.zero with Clock := w64 (d.Clock + 1), Wish := w64 (d.Clock + 1), In := (t.Doors.length : Int) == 1 } : Door) := by rw [← hP]; exact lat_put hd
      have hb : ∀ j z, enter_Wish_B1 (p : Int) P j z = partref_EnterWish_B0 (p : Int) d P j z := fun j z => by
        unfold enter_Wish_B1 partref_EnterWish_B0
        rw [hPp]; rfl
      have hf : rangeF (enter_Wish_B1 (p : Int) P) t.Doors.length 0 (({ t with Doors := P } : Enter), t.Way) = rangeF (partref_EnterWish_B0 (p : Int) d P) t.Doors.length 0 (({ t with Doors := P } : Enter), t.Way) := rangeF_congr _ _ _ fun j z _ _ => hb j z
      obtain ⟨r, hr⟩ := grow_loop (a := ({ t with Doors := P } : Enter)) (k := t.Doors.length) (f := partref_EnterWish_B0 (p : Int) d P) (show t.Way.length ≤ 1000 by omega) (by omega) fun j z hj hz => by
        unfold partref_EnterWish_B0
        rw [room_one (by omega), Tot.ite_iff]
        refine ⟨fun _ => ?_, fun _ => ?_⟩
        · rw [Option.bind_some, Tot.some_iff]; simp; omega
        · rw [Tot.some_iff]; simp only; omega
      rw [hf]
      have hr' : rangeF (partref_EnterWish_B0 (p : Int) d P) t.Doors.length 0 (({ t with Doors := P } : Enter), t.Way) = some r := hr
      rw [hr']
      exact ⟨_, rfl, rfl⟩
    · exact ⟨_, rfl, rfl⟩
  · exact ⟨_, rfl, rfl⟩
theorem leave_eq {t : Enter} (h : EOk t) (hc : enter_Check t = some 0) {p : Nat} (hp : p < t.Doors.length) : ∃ r, partref_EnterLeave t (p : Int) = some r ∧ enter_Leave t (p : Int) = some r := by
  have hd : t.Doors[p]? = some t.Doors[p] := by simp [hp]
  have hdo := h.door p _ hd
  generalize t.Doors[p] = d at hd hdo
  have hn := h.n
  have hl := h.way
  have hla := hdo.later
  have e64 : w64 ((t.Doors.length : Int) - 1) = (t.Doors.length : Int) - 1 := w64_id (by omega) (by omega)
  have eg : (decide ((p : Int) ≥ 0) && decide ((p : Int) ≤ (t.Doors.length : Int) - 1)) = true := by simp; omega
  unfold partref_EnterLeave enter_Leave
  rw [hc, Option.bind_some, ein_eq, e64, eg, (clone_eq h).1, (clone_eq h).2]
  simp only [bne_self_eq_false, cond_false, Bool.not_true, Option.bind_some, lat_nat, hd, Int.toNat_natCast, Let]
  cases !d.In
  · cases decide (w64 ((t.Way.length : Int) + (d.Later.length : Int)) > 100)
    · simp only [cond_false]
      have hf : rangeF (enter_Leave_B1 (p : Int) t d) d.Later.length 0 (t, t.Way) = rangeF (partref_EnterLeave_B0 (p : Int) t d) d.Later.length 0 (t, t.Way) := rfl
      obtain ⟨r, hr⟩ := grow_loop (a := t) (k := d.Later.length) (f := partref_EnterLeave_B0 (p : Int) t d) (by omega) (by omega) fun j z hj hz => by
        unfold partref_EnterLeave_B0
        rw [lat_nat, show d.Later[j]? = some d.Later[j] by simp [hj], Option.bind_some, room_one (by omega), Option.bind_some, Tot.some_iff]
        simp; omega
      rw [hf, hr]
      exact ⟨_, rfl, rfl⟩
    · exact ⟨_, rfl, rfl⟩
  · exact ⟨_, rfl, rfl⟩

/-! ### The law -/
theorem entersays_law (a0 : Enter) (a1 a2 a3 : Int) (h0 : Rng.ok a0) (h1 : Rng.ok a1) (h2 : Rng.ok a2) (h3 : Rng.ok a3) : ∃ fu, partlaw_EnterSays fu a0 a1 a2 a3 = some true := by
  refine ⟨2 ^ 17, ?_⟩
  have hfu : 2 ^ 16 < 2 ^ 17 := by omega
  obtain ⟨c, hc, hr, hok⟩ := codes_law hfu a0
  have g0 : a0.Way.length ≤ 2 ^ 63 - 1 := h0.2.1
  have g1 : a0.Doors.length ≤ 2 ^ 63 - 1 := h0.1.1
  have hnew : ∃ b : Bool, (decide (a1 < 1) || decide (a1 > 6)) = b ∧ ((b = true ∧ enter_New a1 = some (Enter.zero, 1)) ∨ (b = false ∧ ∃ m : Nat, mkLen a1 = some m ∧ enter_New a1 = some ({ Enter.zero with Doors := List.replicate m Door.zero }, 0))) := by
    refine ⟨_, rfl, ?_⟩
    have e1 : (decide (a1 < 1) || decide (a1 > 6)) = !(decide (a1 ≥ 1) && decide (a1 ≤ 6)) := by rw [Bool.eq_iff_iff]; simp <;> omega
    rw [e1]
    unfold enter_New
    rw [ein_eq, Option.bind_some]
    cases hb : decide (a1 ≥ 1) && decide (a1 ≤ 6)
    · exact .inl ⟨rfl, rfl⟩
    · refine .inr ⟨rfl, ?_⟩
      have : 1 ≤ a1 ∧ a1 ≤ 6 := by simp at hb; omega
      obtain ⟨m, hm, _⟩ : Tot (mkLen a1) fun _ => True := by rw [Tot.mkLen_iff]; exact ⟨by omega, trivial⟩
      exact ⟨m, hm, by rw [hm]; rfl⟩
  obtain ⟨b, hb, hnew⟩ := hnew
  have fin : ∀ (w k l : Enter × Int), enter_Wish a0 a2 = some w → enter_Take a0 a3 = some k → enter_Leave a0 a2 = some l →
      ((c ≠ 0 → w = (Enter.zero, c) ∧ k = (Enter.zero, c) ∧ l = (Enter.zero, c)) ∧
       (c = 0 → ((decide (a3 < 0) || decide (a3 ≥ (a0.Way.length : Int))) = true ∧ k = (Enter.zero, 6) ∨ (decide (a3 < 0) || decide (a3 ≥ (a0.Way.length : Int))) = false ∧ ∃ r, partref_EnterTake (2 ^ 17) a0 a3 = some r ∧ k = (r, 0)) ∧
                 ((decide (a2 < 0) || decide (a2 ≥ (a0.Doors.length : Int))) = true ∧ w = (Enter.zero, 1) ∧ l = (Enter.zero, 1) ∨ (decide (a2 < 0) || decide (a2 ≥ (a0.Doors.length : Int))) = false ∧ partref_EnterWish a0 a2 = some w ∧ partref_EnterLeave a0 a2 = some l))) →
      partlaw_EnterSays (2 ^ 17) a0 a1 a2 a3 = some true := by
    intro w k l hw hk hl hh
    unfold partlaw_EnterSays
    rw [hr, Option.bind_some]
    by_cases hc0 : c = 0
    · subst hc0
      obtain ⟨ht, hp⟩ := hh.2 rfl
      rcases hnew with ⟨rfl, hn⟩ | ⟨rfl, m, hm, hn⟩ <;> rcases ht with ⟨t1, rfl⟩ | ⟨t1, r, t2, rfl⟩ <;> rcases hp with ⟨p1, rfl, rfl⟩ | ⟨p1, p2, p3⟩
      all_goals
        rw [hn, Option.bind_some, hw, Option.bind_some, hk, Option.bind_some, hl, Option.bind_some]
        simp only [same_eq, or_some, and_some, hb, hc, Option.bind_some, t1, p1, cond_true, cond_false, *, Let, decide_true, Bool.not_true, Bool.false_or, Bool.true_and, bne_self_eq_false, beq_self_eq_true, andThen]
        try rfl
    · obtain ⟨rfl, rfl, rfl⟩ := hh.1 hc0
      have hne : (c != 0) = true := by simpa using hc0
      rcases hnew with ⟨rfl, hn⟩ | ⟨rfl, m, hm, hn⟩
      all_goals
        rw [hn, Option.bind_some, hw, Option.bind_some, hk, Option.bind_some, hl, Option.bind_some]
        simp only [same_eq, or_some, and_some, hb, hc, Option.bind_some, cond_true, cond_false, *, Let, decide_true, Bool.not_true, Bool.false_or, Bool.true_and, bne_self_eq_false, beq_self_eq_true, andThen]
        try rfl
  by_cases hc0 : c = 0
  · subst hc0
    have h := hok rfl
    have hn := h.n
    have hwl := h.way
    have ek : ∃ k, enter_Take a0 a3 = some k ∧ ((decide (a3 < 0) || decide (a3 ≥ (a0.Way.length : Int))) = true ∧ k = (Enter.zero, 6) ∨ (decide (a3 < 0) || decide (a3 ≥ (a0.Way.length : Int))) = false ∧ ∃ r, partref_EnterTake (2 ^ 17) a0 a3 = some r ∧ k = (r, 0)) := by
      by_cases hq : 0 ≤ a3 ∧ a3 < a0.Way.length
      · obtain ⟨k, rfl⟩ := int_nat hq.1
        obtain ⟨r, h1, h2⟩ := take_eq hfu h hc (k := k) (by omega)
        exact ⟨_, h2, .inr ⟨by rw [Bool.eq_false_iff]; simp; omega, r, h1, rfl⟩⟩
      · refine ⟨_, ?_, .inl ⟨by simp; omega, rfl⟩⟩
        unfold enter_Take
        rw [hc, Option.bind_some, ein_eq, w64_id (by omega) (by omega)]
        have : (decide (a3 ≥ 0) && decide (a3 ≤ (a0.Way.length : Int) - 1)) = false := by rw [Bool.eq_false_iff]; simp; omega
        rw [this]; rfl
    have ew : ∃ w l, enter_Wish a0 a2 = some w ∧ enter_Leave a0 a2 = some l ∧ ((decide (a2 < 0) || decide (a2 ≥ (a0.Doors.length : Int))) = true ∧ w = (Enter.zero, 1) ∧ l = (Enter.zero, 1) ∨ (decide (a2 < 0) || decide (a2 ≥ (a0.Doors.length : Int))) = false ∧ partref_EnterWish a0 a2 = some w ∧ partref_EnterLeave a0 a2 = some l) := by
      by_cases hq : 0 ≤ a2 ∧ a2 < a0.Doors.length
      · obtain ⟨p, rfl⟩ := int_nat hq.1
        obtain ⟨w, h1, h2⟩ := wish_eq h hc (p := p) (by omega)
        obtain ⟨l, h3, h4⟩ := leave_eq h hc (p := p) (by omega)
        exact ⟨w, l, h2, h4, .inr ⟨by rw [Bool.eq_false_iff]; simp; omega, h1, h3⟩⟩
      · have e : (decide (a2 ≥ 0) && decide (a2 ≤ (a0.Doors.length : Int) - 1)) = false := by rw [Bool.eq_false_iff]; simp; omega
        refine ⟨_, _, ?_, ?_, .inl ⟨by simp; omega, rfl, rfl⟩⟩
        · unfold enter_Wish
          rw [hc, Option.bind_some, ein_eq, w64_id (by omega) (by omega), e]; rfl
        · unfold enter_Leave
          rw [hc, Option.bind_some, ein_eq, w64_id (by omega) (by omega), e]; rfl
    obtain ⟨k, k1, k2⟩ := ek
    obtain ⟨w, l, w1, l1, w2⟩ := ew
    exact fin w k l w1 k1 l1 ⟨fun q => absurd rfl q, fun _ => ⟨k2, w2⟩⟩
  · have hne : (c != 0) = true := by simpa using hc0
    refine fin (Enter.zero, c) (Enter.zero, c) (Enter.zero, c) ?_ ?_ ?_ ⟨fun _ => ⟨rfl, rfl, rfl⟩, fun q => absurd q hc0⟩
    · unfold enter_Wish; rw [hc, Option.bind_some, hne]; rfl
    · unfold enter_Take; rw [hc, Option.bind_some, hne]; rfl
    · unfold enter_Leave; rw [hc, Option.bind_some, hne]; rfl
end Go.Proofs.Ytobikknjaomalaa
