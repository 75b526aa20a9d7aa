/-
  TurnSays: the plain law.
-/
import Derived.Test.YtobikknjaomalaaTuLib
namespace Go.Proofs.Ytobikknjaomalaa
open Enc

/-- A loop that looks for a round of which something is true. -/
theorem range_any {τ : Type} {n : Nat} {bad : Nat → Bool} {t : τ} {body : Nat → Unit → Option (Ctl Unit τ)} (hb : ∀ j, j < n → body j () = some (bif bad j then .ret t else .go ())) : rangeM body n 0 () = some (bif (List.range n).any bad then .inr t else .inl ()) := by
  rcases rangeM_look (body := body) n 0 (fun j _ hj => by
    rw [hb j (by omega)]
    cases bad j
    · exact .inl rfl
    · exact .inr ⟨t, rfl⟩) with ⟨h1, h2⟩ | ⟨m, u, _, hm, _, h4, h5⟩
  · have : (List.range n).any bad = false := by
      rw [List.any_eq_false]
      intro j hj
      have hj := List.mem_range.1 hj
      have := h2 j (by omega) (by omega)
      rw [hb j hj] at this
      revert this
      cases bad j <;> simp
    rw [h1, this]; rfl
  · have hm : m < n := by omega
    rw [hb m hm] at h4
    have : bad m = true ∧ u = t := by
      revert h4
      cases bad m <;> simp [eq_comm]
    have h6 : (List.range n).any bad = true := List.any_eq_true.2 ⟨m, List.mem_range.2 hm, this.1⟩
    rw [h5, h6, this.2]; rfl
theorem any_loop {α τ : Type} {l : List α} {p : α → Bool} {t : τ} {body : Nat → Unit → Option (Ctl Unit τ)} (hb : ∀ (j : Nat) x, l[j]? = some x → body j () = some (bif p x then .ret t else .go ())) : rangeM body l.length 0 () = some (bif l.any p then .inr t else .inl ()) := by
  rw [range_any (bad := fun j => (l[j]?).any p) (t := t) fun j hj => by
    have : l[j]? = some l[j] := by simp [hj]
    rw [hb j _ this, this]; rfl]
  have : (List.range l.length).any (fun j => (l[j]?).any p) = l.any p := by
    rw [Bool.eq_iff_iff, List.any_eq_true, List.any_eq_true]
    constructor
    · rintro ⟨j, hj, h⟩
      have hj := List.mem_range.1 hj
      rw [List.getElem?_eq_getElem hj] at h
      exact ⟨_, List.getElem_mem hj, h⟩
    · rintro ⟨x, hx, h⟩
      obtain ⟨j, hj⟩ := List.getElem?_of_mem hx
      exact ⟨j, List.mem_range.2 (List.getElem?_eq_some_iff.1 hj).1, by rw [hj]; exact h⟩
  rw [this]
theorem cut_take {α : Type} {l : List α} {i : Nat} (h : i ≤ l.length) : cutL l 0 (i : Int) = some (l.take i) := by
  unfold cutL; rw [if_pos (by omega)]; simp

/-! ### Twice -/
def badT (l : List Int) (i : Nat) : Bool := match l[i]? with
  | some x => (decide (x < 0) || decide (x > 29)) || (l.take i).contains x
  | none => false
def tw (l : List Int) : Bool := (List.range l.length).any (badT l)
def TwOk (l : List Int) : Prop := ∀ (i : Nat) x, l[i]? = some x → (0 ≤ x ∧ x ≤ 29) ∧ x ∉ l.take i
theorem tin_eq (a b c : Int) : turn_in a b c = some (decide (a ≥ b) && decide (a ≤ c)) := by
  unfold turn_in
  rw [and_some, Option.bind_some]
theorem tmsg_eq (a : Int) : turn_message a = some (decide (a ≥ 0) && decide (a ≤ 29)) := by
  unfold turn_message
  rw [tin_eq]; rfl
theorem idx_ne {l : List Int} {i : Nat} {x : Int} (hx : l[i]? = some x) : (idxI (x == ·) l != (i : Int)) = (l.take i).contains x := by
  rw [Bool.eq_iff_iff, bne_iff_ne, List.contains_iff_mem]
  have hi := (List.getElem?_eq_some_iff.1 hx).1
  constructor
  · intro h
    refine Classical.byContradiction fun hn => h (idxI_some.2 ⟨x, hx, by simp, fun j y hj hy => ?_⟩)
    rw [beq_eq_false_iff_ne]
    rintro rfl
    exact hn (List.mem_of_getElem? (i := j) (by rw [List.getElem?_take, if_pos hj]; exact hy))
  · intro h e
    obtain ⟨_, _, _, h2⟩ := idxI_some.1 e
    obtain ⟨j, hj⟩ := List.getElem?_of_mem h
    have hji : j < i := by have := (List.getElem?_eq_some_iff.1 hj).1; simp at this; omega
    rw [List.getElem?_take, if_pos hji] at hj
    have := h2 j x hji hj
    simp at this
theorem tw_eq (l : List Int) : turn_twice l = some (tw l) := by
  unfold turn_twice
  rw [range_any (bad := badT l) (t := true) fun j hj => ?_]
  · unfold tw
    cases (List.range l.length).any (badT l) <;> rfl
  · have hx : l[j]? = some l[j] := by simp [hj]
    unfold turn_twice_B0 badT
    rw [lat_nat, hx, Option.bind_some, tmsg_eq, Option.bind_some, cut_take (by omega), Option.bind_some, eq_slices_Contains_int_int, Option.bind_some, or_some, Option.bind_some]
    have e : (!(decide (l[j] ≥ 0) && decide (l[j] ≤ 29))) = (decide (l[j] < 0) || decide (l[j] > 29)) := by rw [Bool.eq_iff_iff]; simp
    rw [e, cond_some]
theorem rtw_eq (l : List Int) : partref_twice l = some (tw l) := by
  unfold partref_twice
  rw [range_any (bad := badT l) (t := true) fun j hj => ?_]
  · unfold tw
    cases (List.range l.length).any (badT l) <;> rfl
  · have hx : l[j]? = some l[j] := by simp [hj]
    unfold partref_twice_B0 badT
    rw [lat_nat, hx, Option.bind_some, or_some, Option.bind_some, eq_slices_Index_int_int, Option.bind_some, or_some, Option.bind_some, idx_ne hx, cond_some]
theorem tw_ok {l : List Int} (h : tw l = false) : TwOk l := by
  intro i x hx
  unfold tw at h
  rw [List.any_eq_false] at h
  have hi := (List.getElem?_eq_some_iff.1 hx).1
  have := h i (List.mem_range.2 hi)
  unfold badT at this
  rw [hx] at this
  simp only [Bool.or_eq_true, decide_eq_true_eq, List.contains_iff_mem, not_or] at this
  exact ⟨by omega, this.2⟩
theorem TwOk.len {l : List Int} (h : TwOk l) : l.length ≤ 30 := by
  have hnd : l.Nodup := by
    unfold List.Nodup
    rw [List.pairwise_iff_getElem]
    intro i j hi hj hij e
    have := (h j l[j] (by simp [hj])).2
    exact this (List.mem_of_getElem? (i := i) (by rw [List.getElem?_take, if_pos hij]; simp [hi, e]))
  have := List.Nodup.length_le_of_subset hnd (l₂ := (List.range 30).map fun i : Nat => (i : Int)) fun x hx => by
    obtain ⟨i, hi⟩ := List.getElem?_of_mem hx
    have := (h i x hi).1
    rw [List.mem_map]
    exact ⟨x.toNat, List.mem_range.2 (by omega), by omega⟩
  simpa using this

/-! ### The code -/
def badW (a : Turn) (i : Nat) : Bool := match a.Want[i]?, a.Told[i]? with
  | some w, some t => ((decide (t < 0) || decide (t > (a.Log.length : Int))) || tw w) || w.any fun x => a.Log.contains x
  | _, _ => false
def tcode (a : Turn) : Int :=
  bif ((decide (a.N < 1) || decide (a.N > 6)) || (decide (a.Has < 0) || decide (a.Has ≥ a.N))) || decide ((a.Log.length : Int) > 100) then 1 else
  bif (((a.Want.length : Int) != a.N) || ((a.Told.length : Int) != a.N)) || tw a.Log then 4 else
  bif (List.range a.Want.length).any (badW a) then 4 else 0
theorem check_eq (a : Turn) : turn_Check a = some (tcode a) := by
  unfold turn_Check tcode
  simp only [tin_eq, Option.bind_some, or_some, tw_eq]
  have e1 : ((!(decide (a.N ≥ 1) && decide (a.N ≤ 6)) || !(decide (a.Has ≥ 0) && decide (a.Has ≤ w64 (a.N - 1)))) || decide ((a.Log.length : Int) > 100)) = (((decide (a.N < 1) || decide (a.N > 6)) || (decide (a.Has < 0) || decide (a.Has ≥ a.N))) || decide ((a.Log.length : Int) > 100)) := by
    congr 1
    by_cases h : 1 ≤ a.N ∧ a.N ≤ 6
    · rw [w64_id (by omega) (by omega), Bool.eq_iff_iff]; simp; omega
    · have e1 : (decide (a.N ≥ 1) && decide (a.N ≤ 6)) = false := by rw [Bool.eq_false_iff]; simp; omega
      have e2 : (decide (a.N < 1) || decide (a.N > 6)) = true := by simp; omega
      rw [e1, e2]; rfl
  rw [e1]
  cases (((decide (a.N < 1) || decide (a.N > 6)) || (decide (a.Has < 0) || decide (a.Has ≥ a.N))) || decide ((a.Log.length : Int) > 100)) with
  | true => rfl
  | false =>
    rw [cond_false, cond_false]
    cases hb : (((a.Want.length : Int) != a.N) || ((a.Told.length : Int) != a.N)) || tw a.Log with
    | true => rfl
    | false =>
      rw [cond_false, cond_false]
      simp only [Bool.or_eq_false_iff, bne_eq_false_iff_eq] at hb
      rw [range_any (bad := badW a) (t := (4 : Int)) fun j hj => ?_]
      · cases (List.range a.Want.length).any (badW a) <;> rfl
      · have hw : a.Want[j]? = some a.Want[j] := by simp [hj]
        have hjt : j < a.Told.length := by omega
        have ht : a.Told[j]? = some a.Told[j] := by simp [hjt]
        unfold turn_Check_B1 badW
        rw [lat_nat, hw, Option.bind_some, lat_nat, ht, Option.bind_some, tin_eq, Option.bind_some, or_some, Option.bind_some, tw_eq, Option.bind_some, or_some, Option.bind_some,
          eq_slices_ContainsFunc_int_int_Check_1 _ _ (fun x => a.Log.contains x) (fun x _ => by unfold turn_Check_1; rw [eq_slices_Contains_int_int]; rfl), Option.bind_some, or_some, Option.bind_some, cond_some]
        congr 2
        simp only
        generalize a.Want[j] = w
        generalize a.Told[j] = t
        have e : (!(decide (t ≥ 0) && decide (t ≤ (a.Log.length : Int)))) = (decide (t < 0) || decide (t > (a.Log.length : Int))) := by rw [Bool.eq_iff_iff]; simp
        rw [e]
        cases htw : tw w with
        | true => simp
        | false =>
          have := (tw_ok htw).len
          rw [decide_eq_false (show ¬ (w.length : Int) > 30 by omega), Bool.or_false]
theorem err_eq (a : Turn) : partref_TurnErr a = some (tcode a) := by
  unfold partref_TurnErr tcode
  simp only [Option.bind_some, or_some, rtw_eq]
  have e1 : ((((decide (a.N < 1) || decide (a.N > 6)) || decide (a.Has < 0)) || decide (a.Has ≥ a.N)) || decide ((a.Log.length : Int) > 100)) = (((decide (a.N < 1) || decide (a.N > 6)) || (decide (a.Has < 0) || decide (a.Has ≥ a.N))) || decide ((a.Log.length : Int) > 100)) := by
    simp only [Bool.or_assoc]
  rw [e1]
  cases hc : (((decide (a.N < 1) || decide (a.N > 6)) || (decide (a.Has < 0) || decide (a.Has ≥ a.N))) || decide ((a.Log.length : Int) > 100)) with
  | true => rfl
  | false =>
    rw [cond_false, cond_false]
    cases hb : (((a.Want.length : Int) != a.N) || ((a.Told.length : Int) != a.N)) || tw a.Log with
    | true => rfl
    | false =>
      rw [cond_false, cond_false]
      simp only [Bool.or_eq_false_iff, bne_eq_false_iff_eq, decide_eq_false_iff_not] at hb hc
      rw [← hb.1.1, upTo_ok (by omega), Option.bind_some, Int.toNat_natCast, range_any (bad := badW a) (t := (4 : Int)) fun j hj => ?_]
      · cases (List.range a.Want.length).any (badW a) <;> rfl
      · have hw : a.Want[j]? = some a.Want[j] := by simp [hj]
        have hjt : j < a.Told.length := by omega
        have ht : a.Told[j]? = some a.Told[j] := by simp [hjt]
        unfold partref_TurnErr_B0 badW
        rw [lat_nat, ht, Option.bind_some, Option.bind_some, or_some, Option.bind_some, lat_nat, hw, Option.bind_some, rtw_eq, Option.bind_some, or_some, Option.bind_some, Option.bind_some, any_loop (p := fun x => a.Log.contains x) (t := (Ctl.ret (4 : Int) : Ctl Unit Int)) fun k x hx => ?_]
        · simp only
          generalize a.Want[j] = w
          generalize a.Told[j] = t
          cases (decide (t < 0) || decide (t > (a.Log.length : Int))) || tw w with
          | true => rfl
          | false => cases w.any fun x => a.Log.contains x <;> rfl
        · unfold partref_TurnErr_B2
          rw [lat_nat, hx, Option.bind_some, eq_slices_Contains_int_int, Option.bind_some, cond_some]
structure TOk (a : Turn) (n : Nat) : Prop where
  nn : a.N = (n : Int)
  n6 : 1 ≤ n ∧ n ≤ 6
  has : 0 ≤ a.Has ∧ a.Has < n
  log : a.Log.length ≤ 100
  wl : a.Want.length = n
  tl : a.Told.length = n
  row : ∀ (i : Nat) w, a.Want[i]? = some w → w.length ≤ 30
  told : ∀ (i : Nat) t, a.Told[i]? = some t → 0 ≤ t ∧ t ≤ a.Log.length
theorem code_ok {a : Turn} (h : tcode a = 0) : ∃ n, TOk a n := by
  unfold tcode at h
  cases hc : (((decide (a.N < 1) || decide (a.N > 6)) || (decide (a.Has < 0) || decide (a.Has ≥ a.N))) || decide ((a.Log.length : Int) > 100)) with
  | true => rw [hc] at h; cases h
  | false =>
    rw [hc, cond_false] at h
    cases hb : (((a.Want.length : Int) != a.N) || ((a.Told.length : Int) != a.N)) || tw a.Log with
    | true => rw [hb] at h; cases h
    | false =>
      rw [hb, cond_false] at h
      cases hw : (List.range a.Want.length).any (badW a) with
      | true => rw [hw] at h; cases h
      | false =>
        simp only [Bool.or_eq_false_iff, bne_eq_false_iff_eq, decide_eq_false_iff_not] at hb hc
        rw [List.any_eq_false] at hw
        have key : ∀ (i : Nat) w t, a.Want[i]? = some w → a.Told[i]? = some t → (0 ≤ t ∧ t ≤ a.Log.length) ∧ TwOk w := by
          intro i w t h1 h2
          have := hw i (List.mem_range.2 (List.getElem?_eq_some_iff.1 h1).1)
          unfold badW at this
          rw [h1, h2] at this
          simp only [Bool.or_eq_true, not_or, decide_eq_true_eq, Bool.not_eq_true] at this
          exact ⟨by omega, tw_ok this.1.2⟩
        refine ⟨a.Want.length, ⟨by omega, by omega, by omega, by omega, rfl, by omega, fun i w hi => ?_, fun i t hi => ?_⟩⟩
        · have hil := (List.getElem?_eq_some_iff.1 hi).1
          have hit : i < a.Told.length := by omega
          exact (key i w a.Told[i] hi (by simp [hit])).2.len
        · have hil := (List.getElem?_eq_some_iff.1 hi).1
          have hiw : i < a.Want.length := by omega
          exact (key i a.Want[i] t (by simp [hiw]) hi).1

/-! ### The step -/
theorem sameT_eq (a b : Turn) : partref_SameTurn a b = some (decide (a = b)) := by
  have e : ∀ x y : List (List Int), slices_EqualFunc_int_int_int_int_int_int x y = some (decide (x = y)) := fun x y => by
    unfold slices_EqualFunc_int_int_int_int_int_int
    refine equal_loop (fun x y => !decide (x = y)) (fun x y => rfl) fun j => ?_
    unfold slices_EqualFunc_int_int_int_int_int_int_B0
    simp only [eq_slices_Equal_int_int, Option.bind_some]
  unfold partref_SameTurn
  simp only [e, eq_slices_Equal_int_int, Option.bind_some, and_some]
  congr 1
  cases a; cases b
  rw [Bool.eq_iff_iff]; simp [and_assoc]
section
variable {a : Turn} {n : Nat} (h : TOk a n)
include h
theorem clone_eq : turn_clone a = some a := by
  have hl := h.log; have ht := h.tl; have hw := h.wl; have h6 := h.n6
  unfold turn_clone
  rw [eq_slices_Clone_int_int (by omega), Option.bind_some, eq_slices_Clone_int_int (by omega), Option.bind_some]
  simp only [Let_eq]
  refine Tot.eq ?_
  rw [Tot.bind_iff]
  refine Tot.rangeF (fun i z => z = (⟨a.N, a.Has, a.Want.take i, a.Log, a.Told⟩ : Turn)) rfl ?_ ?_
  · rintro i _ _ hi rfl
    have hi : i < a.Want.length := by omega
    have hx : a.Want[i]? = some a.Want[i] := by simp [hi]
    have hr := h.row i _ hx
    unfold turn_clone_B0
    rw [lat_nat, hx, Option.bind_some, eq_slices_Clone_int_int (by omega), Option.bind_some]
    simp only [Let_eq]
    rw [room_ok (by simp; omega), Option.bind_some, Tot.some_iff, List.take_add_one, hx]; rfl
  · rintro _ rfl
    rw [Tot.some_iff, Nat.zero_add, List.take_length]
theorem rclone_eq : rangeF (partref_TurnStep_B0 a a.Told a.Log) a.Want.length 0 ({ Turn.zero with N := a.N, Has := a.Has, Want := ([] : List (List Int)), Log := a.Log, Told := a.Told } : Turn) = some a := by
  have hw := h.wl; have h6 := h.n6
  refine Tot.eq ?_
  refine Tot.rangeF (fun i z => z = (⟨a.N, a.Has, a.Want.take i, a.Log, a.Told⟩ : Turn)) rfl ?_ ?_
  · rintro i _ _ hi rfl
    have hi : i < a.Want.length := by omega
    have hx : a.Want[i]? = some a.Want[i] := by simp [hi]
    have hr := h.row i _ hx
    unfold partref_TurnStep_B0
    rw [lat_nat, hx, Option.bind_some, eq_slices_Clone_int_int (by omega), Option.bind_some]
    simp only [Let_eq]
    rw [room_ok (by simp; omega), Option.bind_some, Tot.some_iff, List.take_add_one, hx]; rfl
  · rintro _ rfl
    rw [Nat.zero_add, List.take_length]
/-- The log behind a pass. -/
def logP (a : Turn) (m : List Int) : List Int := a.Log ++ m.take (100 - a.Log.length)
def keepP (L : List Int) (w : List Int) : List Int := w.filter fun x => !L.contains x
theorem log_len {m : List Int} : (logP a m).length ≤ 100 := by
  have := h.log
  unfold logP
  rw [List.length_append, List.length_take]; omega
theorem pass_loop {m : List Int} : Tot (rangeF (turn_pass_B0 a m) m.length 0 (a, a.Log)) fun z => z.2 = logP a m ∧ z.1.N = a.N ∧ z.1.Has = a.Has := by
  have hl := h.log
  refine Tot.rangeF (fun i (z : Turn × List Int) => z.2 = a.Log ++ m.take (min (100 - a.Log.length) i) ∧ z.1.N = a.N ∧ z.1.Has = a.Has) ⟨by simp, rfl, rfl⟩ ?_ ?_
  · rintro i ⟨t, L⟩ _ hi ⟨h1, h2, h3⟩
    have hi : i < m.length := by omega
    have hx : m[i]? = some m[i] := by simp [hi]
    simp only at h1 h2 h3
    subst h1
    unfold turn_pass_B0
    simp only
    rw [lat_nat, hx, Option.bind_some, Tot.ite_iff]
    have hlen : (a.Log ++ m.take (min (100 - a.Log.length) i)).length = a.Log.length + min (100 - a.Log.length) i := by
      rw [List.length_append, List.length_take]; omega
    refine ⟨fun q => ?_, fun q => ?_⟩
    · have q : a.Log.length + min (100 - a.Log.length) i < 100 := by rw [hlen] at q; have := of_decide_eq_true q; omega
      rw [room_ok (by rw [hlen]; simp; omega), Option.bind_some]
      simp only [Let_eq]
      rw [Tot.some_iff]
      refine ⟨?_, h2, h3⟩
      rw [show min (100 - a.Log.length) (i + 1) = i + 1 by omega, show min (100 - a.Log.length) i = i by omega, List.take_add_one, hx, List.append_assoc]; rfl
    · have q : ¬ a.Log.length + min (100 - a.Log.length) i < 100 := by rw [hlen] at q; have := of_decide_eq_false q; omega
      rw [Tot.some_iff]
      refine ⟨?_, h2, h3⟩
      simp only
      rw [show min (100 - a.Log.length) (i + 1) = min (100 - a.Log.length) i by omega]
  · rintro ⟨t, L⟩ ⟨h1, h2, h3⟩
    refine ⟨?_, h2, h3⟩
    simp only at h1 ⊢
    rw [h1, Nat.zero_add]
    unfold logP
    congr 1
    by_cases q : 100 - a.Log.length ≤ m.length
    · rw [Nat.min_eq_left q]
    · rw [List.take_of_length_le (by omega), List.take_of_length_le (by omega)]
theorem without_eq {t : Turn} {fu : Nat} (hfu : 100 ≤ fu) : turn_without_pass_1_v2 fu a.Want t = some (a.Want.map (keepP t.Log)) := by
  have hw := h.wl; have h6 := h.n6
  unfold turn_without_pass_1_v2
  refine Tot.eq ?_
  rw [Tot.bind_iff]
  refine Tot.rangeF (fun i (z : List (List Int)) => z.length = a.Want.length ∧ ∀ j, z[j]? = if j < i then (a.Want[j]?).map (keepP t.Log) else a.Want[j]?) ⟨rfl, fun j => by rw [if_neg (by omega)]⟩ ?_ ?_
  · rintro i z _ hi ⟨h1, h2⟩
    have hi : i < a.Want.length := by omega
    have hx : a.Want[i]? = some a.Want[i] := by simp [hi]
    have hr := h.row i _ hx
    have hz : z[i]? = some a.Want[i] := by rw [h2, if_neg (by omega), hx]
    unfold turn_without_pass_1_v2_B0
    rw [lat_nat, hz, Option.bind_some, eq_slices_DeleteFunc_int_int_pass_1_v2 _ _ (fun x => t.Log.contains x) (fun x _ => by unfold turn_pass_1_v2; rw [eq_slices_Contains_int_int]; rfl) (by omega) (by omega), Option.bind_some, Option.bind_some, Tot.let_iff, Tot.some_iff, Int.toNat_natCast]
    refine ⟨by simpa using h1, fun j => ?_⟩
    by_cases e : j = i
    · subst e
      rw [List.getElem?_set_self (by omega), if_pos (by omega), hx]; rfl
    · rw [List.getElem?_set_ne (Ne.symm e), h2]
      by_cases q : j < i
      · rw [if_pos q, if_pos (by omega)]
      · rw [if_neg q, if_neg (by omega)]
  · rintro z ⟨h1, h2⟩
    rw [Tot.some_iff]
    apply List.ext_getElem?
    intro j
    rw [h2, List.getElem?_map, Nat.zero_add]
    by_cases q : j < a.Want.length
    · rw [if_pos q]
    · rw [if_neg q, List.getElem?_eq_none (by omega)]; rfl
theorem ref_rows {L : List Int} {m : List Int} (hL : L = a.Log ++ m) (z0 : Turn) (hz : z0.N = a.N ∧ z0.Has = a.Has) : Tot (rangeF (partref_TurnStep_B3 a.Told a.Log m) a.Want.length 0 (z0, a.Want)) fun z => z.2 = a.Want.map (keepP L) ∧ z.1.N = a.N ∧ z.1.Has = a.Has := by
  have hw := h.wl; have h6 := h.n6
  refine Tot.rangeF (fun i (z : Turn × List (List Int)) => (z.2.length = a.Want.length ∧ ∀ j, z.2[j]? = if j < i then (a.Want[j]?).map (keepP L) else a.Want[j]?) ∧ z.1.N = a.N ∧ z.1.Has = a.Has) ⟨⟨rfl, fun j => by rw [if_neg (by omega)]⟩, hz⟩ ?_ ?_
  · rintro i ⟨t, z⟩ _ hi ⟨⟨h1, h2⟩, h3⟩
    have hi : i < a.Want.length := by omega
    have hx : a.Want[i]? = some a.Want[i] := by simp [hi]
    have hr := h.row i _ hx
    simp only at h1 h2 h3
    have hz : z[i]? = some a.Want[i] := by rw [h2, if_neg (by omega), hx]
    unfold partref_TurnStep_B3
    simp only
    rw [lat_nat, hz, Option.bind_some, Option.bind_some, Tot.let_iff, Int.toNat_natCast, Tot.bind_iff]
    refine Tot.rangeF (fun k (y : Turn × List (List Int)) => y.2 = z.set i (keepP L (a.Want[i].take k)) ∧ y.1.N = a.N ∧ y.1.Has = a.Has) ⟨rfl, h3⟩ ?_ ?_
    · rintro k ⟨u, y⟩ _ hk ⟨g1, g2⟩
      have hk : k < a.Want[i].length := by omega
      have hxk : a.Want[i][k]? = some a.Want[i][k] := by simp [hk]
      simp only at g1 g2
      subst g1
      have hkl : (keepP L (a.Want[i].take k)).length ≤ 30 := by
        unfold keepP
        have := List.length_filter_le (fun x => !L.contains x) (a.Want[i].take k)
        rw [List.length_take] at this
        omega
      have eg : lat (z.set i (keepP L (a.Want[i].take k))) (i : Int) = some (keepP L (a.Want[i].take k)) := by rw [lat_nat, List.getElem?_set_self (by omega)]
      have ek : keepP L (a.Want[i].take (k + 1)) = bif !L.contains a.Want[i][k] then keepP L (a.Want[i].take k) ++ [a.Want[i][k]] else keepP L (a.Want[i].take k) := by
        unfold keepP
        rw [List.take_add_one, hxk, List.filter_append]
        have e1 : List.filter (fun x => !L.contains x) (some a.Want[i][k]).toList = bif !L.contains a.Want[i][k] then [a.Want[i][k]] else [] := by
          simp only [Option.toList, List.filter_cons, List.filter_nil]
          cases L.contains a.Want[i][k] <;> rfl
        rw [e1]
        cases L.contains a.Want[i][k]
        · rfl
        · exact List.append_nil _
      unfold partref_TurnStep_B5
      simp only
      rw [lat_nat, hxk, Option.bind_some, eq_slices_Contains_int_int, Option.bind_some, ← hL, Tot.ite_iff]
      refine ⟨fun q => ?_, fun q => ?_⟩
      · rw [eg, Option.bind_some, room_ok (by simp; omega), Option.bind_some]
        simp only [Let_eq, Option.bind_some]
        rw [Tot.some_iff, ek, q, cond_true, Int.toNat_natCast, List.set_set]
        exact ⟨rfl, g2⟩
      · rw [Tot.some_iff, ek, q, cond_false]
        exact ⟨rfl, g2⟩
    · rintro ⟨u, y⟩ ⟨g1, g2⟩
      simp only at g1 g2
      subst g1
      rw [Nat.zero_add, List.take_length]
      refine Tot.some_iff.2 ⟨⟨by simpa using h1, fun j => ?_⟩, g2⟩
      simp only
      by_cases e : j = i
      · subst e
        rw [List.getElem?_set_self (by omega), if_pos (by omega), hx]; rfl
      · rw [List.getElem?_set_ne (Ne.symm e), h2]
        by_cases q : j < i
        · rw [if_pos q, if_pos (by omega)]
        · rw [if_neg q, if_neg (by omega)]
  · rintro ⟨t, z⟩ ⟨⟨h1, h2⟩, h3⟩
    refine ⟨?_, h3⟩
    apply List.ext_getElem?
    intro j
    simp only at h2 ⊢
    rw [h2, List.getElem?_map, Nat.zero_add]
    by_cases q : j < a.Want.length
    · rw [if_pos q]
    · rw [if_neg q, List.getElem?_eq_none (by omega)]; rfl
/-- What both steps come to. -/
theorem step_law {b : Beat} {fu : Nat} (hc : tcode a = 0) (hk : 1 ≤ b.Kind ∧ b.Kind ≤ 3) (hw : 0 ≤ b.Who ∧ b.Who < n) (hn : 0 ≤ b.N ∧ b.N ≤ 29) (hfu : 100 ≤ fu) : ∃ r, turn_Step fu a b = some r ∧ partref_TurnStep a b = some r := by
  have hl := h.log; have ht := h.tl; have hwl := h.wl; have h6 := h.n6; have hnn := h.nn; have hh := h.has
  obtain ⟨who, hwho⟩ := int_nat hw.1
  have hwn : who < n := by omega
  have hwx : a.Want[who]? = some (a.Want[who]'(by omega)) := by simp
  generalize a.Want[who]'(by omega) = mine at hwx
  have hml := h.row who mine hwx
  have htx : a.Told[who]? = some (a.Told[who]'(by omega)) := by simp
  generalize a.Told[who]'(by omega) = told at htx
  have htl := h.told who told htx
  unfold turn_Step partref_TurnStep
  rw [check_eq, hc, Option.bind_some]
  simp only [bne_self_eq_false, cond_false]
  rw [tin_eq, tin_eq, tmsg_eq]
  simp only [Option.bind_some, or_some]
  have e0 : ((!(decide (b.Kind ≥ 1) && decide (b.Kind ≤ 3)) || !(decide (b.Who ≥ 0) && decide (b.Who ≤ w64 (a.N - 1)))) || !(decide (b.N ≥ 0) && decide (b.N ≤ 29))) = false := by
    rw [w64_id (by omega) (by omega)]; simp; omega
  rw [e0, cond_false, clone_eq h, Option.bind_some, eq_slices_Clone_int_int (by omega), Option.bind_some, eq_slices_Clone_int_int (by omega), Option.bind_some]
  simp only [Let_eq]
  rw [rclone_eq h, Option.bind_some, hwho, lat_nat, lat_nat, hwx, htx]
  simp only [Option.bind_some]
  rcases (show b.Kind = 1 ∨ b.Kind = 2 ∨ b.Kind = 3 by omega) with k | k | k
  · rw [k, show ((1 : Int) == 1) = true from rfl, cond_true, cond_true]
    rw [eq_slices_Concat_int_int (by omega)]
    simp only [eq_slices_Contains_int_int, Option.bind_some, or_some]
    have ec : (mine ++ a.Log).contains b.N = (a.Log.contains b.N || mine.contains b.N) := by
      rw [Bool.eq_iff_iff]; simp [or_comm]
    rw [ec]
    cases (a.Log.contains b.N || mine.contains b.N) with
    | true => exact ⟨_, rfl, rfl⟩
    | false =>
      rw [cond_false, cond_false, room_ok (by simp; omega)]
      simp only [Option.bind_some, andThen_inl]
      exact ⟨_, rfl, rfl⟩
  · rw [k, show ((2 : Int) == 1) = false from rfl, show ((2 : Int) == 2) = true from rfl, cond_false, cond_false, cond_true, cond_true]
    by_cases e : a.Has = (who : Int)
    · rw [e, bne_self_eq_false, cond_false, cond_false]
      unfold turn_pass
      rw [e, lat_nat, hwx, Option.bind_some]
      obtain ⟨⟨t, L⟩, eL, hL1, hL2, hL3⟩ := pass_loop h (m := mine)
      simp only at hL1 hL2 hL3
      rw [eL, Option.bind_some]
      simp only
      rw [without_eq h hfu, Option.bind_some]
      have enz : nz t.N = some () := by unfold nz; rw [if_neg (by omega)]
      rw [enz, Option.bind_some]
      simp only [Let_eq]
      have hm : cutL mine 0 (min (w64 (100 - (a.Log.length : Int))) (mine.length : Int)) = some (mine.take (100 - a.Log.length)) := by
        rw [w64_id (by omega) (by omega), show min (100 - (a.Log.length : Int)) (mine.length : Int) = ((min (100 - a.Log.length) mine.length : Nat) : Int) by omega, cut_take (by omega)]
        congr 1
        by_cases q : 100 - a.Log.length ≤ mine.length
        · rw [Nat.min_eq_left q]
        · rw [List.take_of_length_le (by omega), List.take_of_length_le (by omega)]
      have hml2 : (mine.take (100 - a.Log.length)).length ≤ 30 := by rw [List.length_take]; omega
      rw [hm]
      simp only [Option.bind_some]
      rw [room_ok (by omega)]
      simp only [Option.bind_some]
      obtain ⟨⟨u, z⟩, eZ, hZ1, hZ2, hZ3⟩ := ref_rows h (L := logP a mine) (m := mine.take (100 - a.Log.length)) rfl (⟨a.N, (who : Int), a.Want, a.Log ++ mine.take (100 - a.Log.length), a.Told⟩ : Turn) ⟨rfl, e.symm⟩
      simp only at hZ1 hZ2 hZ3
      rw [eZ, Option.bind_some]
      simp only
      rw [hL1, hL2, hL3, hZ2, hZ3, e, hnn, w64_id (by omega) (by omega), hZ1]
      by_cases q : who + 1 = n
      · have q' : (((who : Int) + 1) == (n : Int)) = true := by simp; omega
        rw [q', cond_true, andThen_inl, andThen_inl]
        refine ⟨_, rfl, ?_⟩
        have : ((who : Int) + 1).tmod (n : Int) = 0 := by rw [show (who : Int) + 1 = (n : Int) by omega]; simp
        rw [this]; rfl
      · have q' : (((who : Int) + 1) == (n : Int)) = false := by simp; omega
        rw [q', cond_false, andThen_inl, andThen_inl]
        refine ⟨_, rfl, ?_⟩
        have : ((who : Int) + 1).tmod (n : Int) = (who : Int) + 1 := Int.tmod_eq_of_lt (by omega) (by omega)
        rw [this]; rfl
    · have e1 : ((who : Int) != a.Has) = true := by simp; omega
      have e2 : (a.Has != (who : Int)) = true := by simpa using e
      rw [e1, e2]
      exact ⟨_, rfl, rfl⟩
  · rw [k, show ((3 : Int) == 1) = false from rfl, show ((3 : Int) == 2) = false from rfl, show ((3 : Int) == 3) = true from rfl, cond_false, cond_false, cond_false, cond_false, cond_true]
    by_cases e : told = (a.Log.length : Int)
    · have e1 : (told == (a.Log.length : Int)) = true := by simpa using e
      have e2 : decide (told ≥ (a.Log.length : Int)) = true := by simp; omega
      rw [e1, e2]
      exact ⟨_, rfl, rfl⟩
    · have e1 : (told == (a.Log.length : Int)) = false := by simpa using e
      have e2 : decide (told ≥ (a.Log.length : Int)) = false := by simp; omega
      rw [e1, e2, cond_false, cond_false]
      obtain ⟨q, hq⟩ := int_nat htl.1
      have hql : q < a.Log.length := by omega
      rw [hq, lat_nat, List.getElem?_eq_getElem hql]
      exact ⟨_, rfl, rfl⟩
end
theorem turnsays_law (a : Turn) (b : Beat) (_ : Rng.ok a) (_ : Rng.ok b) : ∃ fu, partlaw_TurnSays fu a b = some true := by
  refine ⟨1000, ?_⟩
  unfold partlaw_TurnSays
  rw [err_eq, Option.bind_some, check_eq]
  by_cases h0 : tcode a = 0
  · obtain ⟨n, h⟩ := code_ok h0
    have hnn := h.nn; have h6 := h.n6
    rw [h0]
    simp only [or_some, Option.bind_some, bne_self_eq_false, cond_false, beq_self_eq_true, cond_true]
    cases hb : (((((decide (b.Kind < 1) || decide (b.Kind > 3)) || decide (b.Who < 0)) || decide (b.Who ≥ a.N)) || decide (b.N < 0)) || decide (b.N > 29)) with
    | true =>
      have es : turn_Step 1000 a b = some (Turn.zero, 0, 1) := by
        unfold turn_Step
        rw [check_eq, h0, Option.bind_some]
        simp only [bne_self_eq_false, cond_false]
        rw [tin_eq, tin_eq, tmsg_eq]
        simp only [Option.bind_some, or_some]
        have e0 : ((!(decide (b.Kind ≥ 1) && decide (b.Kind ≤ 3)) || !(decide (b.Who ≥ 0) && decide (b.Who ≤ w64 (a.N - 1)))) || !(decide (b.N ≥ 0) && decide (b.N ≤ 29))) = true := by
          rw [w64_id (by omega) (by omega)]
          simp at hb ⊢; omega
        rw [e0]; rfl
      rw [es]
      simp [sameT_eq]
    | false =>
      simp only [Bool.or_eq_false_iff, decide_eq_false_iff_not] at hb
      obtain ⟨r, e1, e2⟩ := step_law h (b := b) (fu := 1000) h0 (by omega) (by omega) (by omega) (by omega)
      rw [e1, e2]
      simp [sameT_eq]
  · have hne : (tcode a != 0) = true := by simpa using h0
    have hne2 : (tcode a == 0) = false := by simpa using h0
    have es : turn_Step 1000 a b = some (Turn.zero, 0, tcode a) := by
      unfold turn_Step
      rw [check_eq, Option.bind_some, hne]; rfl
    rw [es]
    simp [sameT_eq, hne, hne2]
end Go.Proofs.Ytobikknjaomalaa
