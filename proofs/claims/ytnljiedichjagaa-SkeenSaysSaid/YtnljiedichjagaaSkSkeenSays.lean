/-
  SkeenSays: the plain law.
-/
import Derived.Test.YtnljiedichjagaaSkLib
import Derived.Test.YtnljiedichjagaaSkSortW
namespace Go.Proofs.Ytnljiedichjagaa
open Enc

theorem sin_eq (a b c : Int) : skeen_in a b c = some (decide (a ≥ b) && decide (a ≤ c)) := by
  unfold skeen_in
  rw [and_some, Option.bind_some]
theorem same_eq (a b : Skeen) : partref_SameSkeen a b = some (decide (a = b)) := by
  unfold partref_SameSkeen
  rw [eq_slices_Equal_api_Wait_api_Wait]
  simp only [Option.bind_some, and_some]
  congr 1
  cases a; cases b
  rw [Bool.eq_iff_iff]; simp [and_assoc]

/-! ### The code -/
def wb1 (s : Skeen) (w : Wait) : Bool := (((decide (w.Num_.N < 1) || decide (w.Num_.N > s.Clock)) || decide (w.Num_.By < 0)) || decide (w.Num_.By > 5)) || decide (w.Id < 0)
def wb2 (s : Skeen) (i : Nat) (w : Wait) : Bool := (!w.Fixed && (w.Num_.By != s.Me)) || (match i with
  | 0 => false
  | j + 1 => match s.Wait[j]? with
    | some p => !nlt p.Num_ w.Num_
    | none => false)
def wb3 (s : Skeen) (i : Nat) (w : Wait) : Bool := (s.Wait.take i).any fun x => x.Id == w.Id
def wcode (s : Skeen) (i : Nat) (w : Wait) : Int := bif wb1 s w then 1 else bif wb2 s i w || wb3 s i w then 4 else 0
theorem cut_take {α : Type} {l : List α} {i : Nat} (h : i ≤ l.length) : cutL l 0 (i : Int) = some (l.take i) := by
  unfold cutL; rw [if_pos (by omega)]; simp
theorem wait_eq {s : Skeen} {i : Nat} {w : Wait} (hl : s.Wait.length ≤ 40) (hw : s.Wait[i]? = some w) : skeen_wait s (i : Int) = some (wcode s i w) := by
  have hi := (List.getElem?_eq_some_iff.1 hw).1
  unfold skeen_wait
  rw [lat_nat, hw, Option.bind_some]
  simp only [sin_eq, Option.bind_some]
  rw [cut_take (by omega), Option.bind_some, eq_slices_ContainsFunc_api_Wait_api_Wait_wait_1 _ _ (fun x => x.Id == w.Id) (fun x _ => rfl), Option.bind_some]
  have e2 : ((bif !w.Fixed then (some (w.Num_.By != s.Me)) else some false).bind fun y28 => (bif y28 then (some true) else (bif decide ((i : Int) > (0 : Int)) then ((lat s.Wait (w64 ((i : Int) - (1 : Int)))).bind fun x36 => (skeen_compare w.Num_ x36.Num_).bind fun r39 => some (decide (r39 ≤ (0 : Int)))) else some false).bind fun y34 => some y34)) = some (wb2 s i w) := by
    rw [and_some, Option.bind_some]
    unfold wb2
    cases i with
    | zero =>
      rw [show decide (((0 : Nat) : Int) > 0) = false from rfl, cond_false, Option.bind_some, or_some]
    | succ j =>
      have hj : j < s.Wait.length := by omega
      have ej : w64 (((j + 1 : Nat) : Int) - 1) = (j : Int) := by rw [w64_id (by omega) (by omega)]; omega
      rw [decide_eq_true (by omega), cond_true, ej, lat_nat, List.getElem?_eq_getElem hj, Option.bind_some, ncmp_eq, Option.bind_some, ncmp_le, Option.bind_some, or_some]
      simp only [List.getElem?_eq_getElem hj]
  rw [← Option.bind_assoc] at e2
  have e1 : ((bif !(decide (w.Num_.N ≥ 1) && decide (w.Num_.N ≤ s.Clock)) then (some true) else some (!(decide (w.Num_.By ≥ 0) && decide (w.Num_.By ≤ 5)))).bind fun y13 => (bif y13 then (some true) else some (decide (w.Id < (0 : Int))))) = some (wb1 s w) := by
    rw [or_some, Option.bind_some, or_some]
    congr 1
    unfold wb1
    rw [Bool.eq_iff_iff]
    simp
    omega
  rw [← Option.bind_assoc, e1, Option.bind_some]
  unfold wcode
  cases wb1 s w with
  | true => rfl
  | false =>
    rw [cond_false, cond_false]
    simp only [Option.bind_assoc] at e2 ⊢
    generalize hX : ((bif !w.Fixed then (some (w.Num_.By != s.Me)) else some false).bind fun y28 => (bif y28 then (some true) else (bif decide ((i : Int) > (0 : Int)) then ((lat s.Wait (w64 ((i : Int) - (1 : Int)))).bind fun x36 => (skeen_compare w.Num_ x36.Num_).bind fun r39 => some (decide (r39 ≤ (0 : Int)))) else some false).bind fun y34 => some y34)) = X at e2
    rw [← Option.bind_assoc, hX, e2, Option.bind_some]
    unfold wb3
    cases wb2 s i w <;> cases (s.Wait.take i).any fun x => x.Id == w.Id <;> rfl
theorem ref_eq {s : Skeen} {i : Nat} {w : Wait} (hl : s.Wait.length ≤ 40) (hw : s.Wait[i]? = some w) : partref_SkeenErr_B0 s i () = some (bif wcode s i w != 0 then .ret (wcode s i w) else .go ()) := by
  have hi := (List.getElem?_eq_some_iff.1 hw).1
  unfold partref_SkeenErr_B0
  rw [lat_nat, hw, Option.bind_some]
  rw [cut_take (by omega), Option.bind_some, eq_slices_ContainsFunc_api_Wait_api_Wait_SkeenErr_1 _ _ (fun x => x.Id == w.Id) (fun x _ => rfl), Option.bind_some]
  have e2 : ((bif !w.Fixed then (some (w.Num_.By != s.Me)) else some false).bind fun y50 => (bif y50 then (some true) else (bif decide ((i : Int) > (0 : Int)) then ((lat s.Wait (w64 ((i : Int) - (1 : Int)))).bind fun x58 => (partref_Less x58.Num_ w.Num_).bind fun r61 => some (!r61)) else some false).bind fun y56 => some y56)) = some (wb2 s i w) := by
    rw [and_some, Option.bind_some]
    unfold wb2
    cases i with
    | zero =>
      rw [show decide (((0 : Nat) : Int) > 0) = false from rfl, cond_false, Option.bind_some, or_some]
    | succ j =>
      have hj : j < s.Wait.length := by omega
      have ej : w64 (((j + 1 : Nat) : Int) - 1) = (j : Int) := by rw [w64_id (by omega) (by omega)]; omega
      rw [decide_eq_true (by omega), cond_true, ej, lat_nat, List.getElem?_eq_getElem hj, Option.bind_some, nless_eq, Option.bind_some, Option.bind_some, or_some]
      simp only [List.getElem?_eq_getElem hj]
  generalize hX : ((bif !w.Fixed then (some (w.Num_.By != s.Me)) else some false).bind fun y50 => (bif y50 then (some true) else (bif decide ((i : Int) > (0 : Int)) then ((lat s.Wait (w64 ((i : Int) - (1 : Int)))).bind fun x58 => (partref_Less x58.Num_ w.Num_).bind fun r61 => some (!r61)) else some false).bind fun y56 => some y56)) = X at e2
  simp only [or_some, Option.bind_some]
  unfold wcode wb1
  cases (((decide (w.Num_.N < 1) || decide (w.Num_.N > s.Clock)) || decide (w.Num_.By < 0)) || decide (w.Num_.By > 5)) || decide (w.Id < 0) with
  | true => rfl
  | false =>
    rw [cond_false, cond_false, ← Option.bind_assoc]
    rw [hX, e2, Option.bind_some]
    unfold wb3
    cases wb2 s i w || (s.Wait.take i).any fun x => x.Id == w.Id <;> rfl
structure SkOk (s : Skeen) : Prop where
  me : 0 ≤ s.Me ∧ s.Me ≤ 5
  clock : 0 ≤ s.Clock ∧ s.Clock ≤ 16777215
  len : s.Wait.length ≤ 40
  at' : ∀ (i : Nat) w, s.Wait[i]? = some w → wcode s i w = 0
theorem codes_law (s : Skeen) : ∃ c, skeen_Check s = some c ∧ partref_SkeenErr s = some c ∧ (c = 0 → SkOk s) := by
  have e0 : (!(decide (s.Me ≥ 0) && decide (s.Me ≤ 5)) || !(decide (s.Clock ≥ 0) && decide (s.Clock ≤ 16777215))) = (((decide (s.Me < 0) || decide (s.Me > 5)) || decide (s.Clock < 0)) || decide (s.Clock > 16777215)) := by
    rw [Bool.eq_iff_iff]; simp; omega
  unfold skeen_Check partref_SkeenErr
  simp only [sin_eq, Option.bind_some, or_some, e0]
  cases hb : (((decide (s.Me < 0) || decide (s.Me > 5)) || decide (s.Clock < 0)) || decide (s.Clock > 16777215)) with
  | true => exact ⟨1, rfl, rfl, fun h => by cases h⟩
  | false =>
    simp only [Bool.or_eq_false_iff, decide_eq_false_iff_not] at hb
    rw [cond_false, cond_false]
    by_cases hl : s.Wait.length ≤ 40
    · rw [decide_eq_false (by omega), cond_false, cond_false]
      have hs : rangeM (skeen_Check_B1 s) s.Wait.length 0 () = rangeM (partref_SkeenErr_B0 s) s.Wait.length 0 () := same_loop fun j _ hj => by
        have hj : j < s.Wait.length := by omega
        have hw : s.Wait[j]? = some s.Wait[j] := by simp [hj]
        rw [ref_eq hl hw]
        unfold skeen_Check_B1
        rw [wait_eq hl hw, Option.bind_some, cond_some]
      rw [hs]
      have key : Tot (rangeM (partref_SkeenErr_B0 s) s.Wait.length 0 ()) fun o => (∀ u, o = .inl u → ∀ (i : Nat) w, s.Wait[i]? = some w → wcode s i w = 0) ∧ ∀ t, o = .inr t → t ≠ 0 := by
        refine all_loop (e := fun i w => if wcode s i w = 0 then none else some (wcode s i w)) (fun j x hx => ?_) (fun h => ⟨fun _ _ i w hw => ?_, fun t e => by cases e⟩) (fun j x t _ hx _ => ⟨fun u e => (by cases e), fun t' e => ?_⟩)
        · rw [ref_eq hl hx]
          by_cases h : wcode s j x = 0
          · simp [h]
          · have : (wcode s j x != 0) = true := by simpa using h
            simp [h, this]
        · have := h i w hw
          by_cases hq : wcode s i w = 0
          · exact hq
          · rw [if_neg hq] at this; cases this
        · obtain rfl := Sum.inr.inj e
          by_cases hq : wcode s j x = 0
          · rw [if_pos hq] at hx; cases hx
          · rw [if_neg hq] at hx; exact Option.some.inj hx ▸ hq
      obtain ⟨o, eo, ho⟩ := key
      rw [eo]
      cases o with
      | inr t => exact ⟨t, rfl, rfl, fun h => absurd h (ho.2 t rfl)⟩
      | inl u =>
        rw [andThen_inl]
        have : ∃ c, ((bif decide ((s.Wait.length : Int) > (0 : Int)) then ((lat s.Wait (0 : Int)).bind fun x81 => some x81.Fixed) else some false).bind fun y79 => bif y79 then (some (4 : Int)) else some (0 : Int)) = some c := by
          cases hw : s.Wait with
          | nil => exact ⟨0, rfl⟩
          | cons w l =>
            have e : lat (w :: l) 0 = some w := rfl
            rw [decide_eq_true (by simp), cond_true, e, Option.bind_some, Option.bind_some]
            cases w.Fixed
            · exact ⟨0, rfl⟩
            · exact ⟨4, rfl⟩
        obtain ⟨c, ec⟩ := this
        exact ⟨c, ec, ec, fun _ => ⟨by omega, by omega, hl, ho.1 u rfl⟩⟩
    · rw [decide_eq_true (by omega), cond_true, cond_true]
      exact ⟨2, rfl, rfl, fun h => by cases h⟩

/-! ### Right states -/
section
variable {s : Skeen} (h : SkOk s)
include h
theorem SkOk.prev {i : Nat} {v w : Wait} (hv : s.Wait[i]? = some v) (hw : s.Wait[i + 1]? = some w) : nlt v.Num_ w.Num_ = true := by
  have := h.at' (i + 1) w hw
  unfold wcode at this
  cases h1 : wb1 s w with
  | true => rw [h1] at this; cases this
  | false =>
    rw [h1, cond_false] at this
    cases h2 : wb2 s (i + 1) w with
    | true => rw [h2] at this; cases this
    | false =>
      unfold wb2 at h2
      simp only [hv, Bool.or_eq_false_iff, Bool.not_eq_false'] at h2
      exact h2.2
theorem SkOk.id_ne {i j : Nat} {v w : Wait} (hij : i < j) (hv : s.Wait[i]? = some v) (hw : s.Wait[j]? = some w) : v.Id ≠ w.Id := by
  have := h.at' j w hw
  unfold wcode at this
  cases h1 : wb1 s w with
  | true => rw [h1] at this; cases this
  | false =>
    rw [h1, cond_false] at this
    cases h2 : wb2 s j w with
    | true => rw [h2] at this; cases this
    | false =>
      rw [h2, Bool.false_or] at this
      cases h3 : wb3 s j w with
      | true => rw [h3] at this; cases this
      | false =>
        unfold wb3 at h3
        rw [List.any_eq_false] at h3
        intro e
        refine h3 v (List.mem_of_getElem? (i := i) (by rw [List.getElem?_take, if_pos hij]; exact hv)) (by simp [e])
theorem SkOk.mono {i : Nat} {v : Wait} (hv : s.Wait[i]? = some v) : ∀ (k : Nat) {w : Wait}, s.Wait[i + 1 + k]? = some w → nlt v.Num_ w.Num_ = true
  | 0, w, hw => h.prev hv hw
  | k + 1, w, hw => by
    have hl := (List.getElem?_eq_some_iff.1 hw).1
    have e : s.Wait[i + 1 + k]? = some (s.Wait[i + 1 + k]'(by omega)) := by simp
    have h1 := SkOk.mono hv k e
    have h2 := h.prev e hw
    rw [nlt_iff] at h1 h2 ⊢
    omega
theorem SkOk.lt {i j : Nat} {v w : Wait} (hij : i < j) (hv : s.Wait[i]? = some v) (hw : s.Wait[j]? = some w) : nlt v.Num_ w.Num_ = true :=
  h.mono hv (j - i - 1) (by rw [show i + 1 + (j - i - 1) = j by omega]; exact hw)
end
theorem pw_one {α : Type} {R : α → α → Prop} (hR : ∀ x y, R x y → R y x → False) : ∀ {l m : List α}, l.Pairwise R → m.Pairwise R → (∀ x, x ∈ l ↔ x ∈ m) → l = m
  | [], [], _, _, _ => rfl
  | [], b :: m, _, _, h => by have := (h b).2 (by simp); simp at this
  | a :: l, [], _, _, h => by have := (h a).1 (by simp); simp at this
  | a :: l, b :: m, h1, h2, h => by
    rw [List.pairwise_cons] at h1 h2
    have e : a = b := by
      have k1 := (h a).1 (by simp)
      have k2 := (h b).2 (by simp)
      rw [List.mem_cons] at k1 k2
      rcases k1 with k1 | k1
      · exact k1
      · rcases k2 with k2 | k2
        · exact k2.symm
        · exact (hR a b (h1.1 b k2) (h2.1 a k1)).elim
    subst e
    congr 1
    refine pw_one hR h1.2 h2.2 fun x => ?_
    constructor
    · intro hx
      have := (h x).1 (by simp [hx])
      rw [List.mem_cons] at this
      rcases this with rfl | q
      · exact (hR x x (h1.1 x hx) (h1.1 x hx)).elim
      · exact q
    · intro hx
      have := (h x).2 (by simp [hx])
      rw [List.mem_cons] at this
      rcases this with rfl | q
      · exact (hR x x (h2.1 x hx) (h2.1 x hx)).elim
      · exact q
def WLt (x y : Wait) : Prop := nlt x.Num_ y.Num_ = true
theorem WLt.no (x y : Wait) (h1 : WLt x y) (h2 : WLt y x) : False := by
  unfold WLt at h1 h2; rw [nlt_iff] at h1 h2; omega

/-! ### What is told -/
def fixedW (w : Wait) : Bool := w.Fixed
theorem strip_one : ∀ {l pre post : List Wait}, l = pre ++ post → (∀ x ∈ pre, x.Fixed = true) → (∀ x, post.head? = some x → x.Fixed = false) → pre = l.takeWhile fixedW ∧ post = l.dropWhile fixedW
  | l, [], post, e, _, h2 => by
    obtain rfl : l = post := e
    cases l with
    | nil => exact ⟨rfl, rfl⟩
    | cons x t =>
      have := h2 x rfl
      simp [fixedW, this]
  | l, x :: pre, post, e, h1, h2 => by
    subst e
    have := h1 x (by simp)
    obtain ⟨e1, e2⟩ := strip_one (l := pre ++ post) rfl (fun y hy => h1 y (by simp [hy])) h2
    rw [List.cons_append, List.takeWhile_cons, List.dropWhile_cons, show fixedW x = true from this, if_pos rfl, if_pos rfl]
    exact ⟨by rw [← e1], e2⟩
def stripped (me clock : Int) (l : List Wait) : Skeen × List Int × Int := (⟨me, clock, l.dropWhile fixedW⟩, (l.takeWhile fixedW).map Wait.Id, 0)
theorem prog_strip {me clock : Int} {l : List Wait} {fu : Nat} (hl : l.length ≤ 100) (hfu : 200 ≤ fu) :
    (andThen (whileM (skeen_Fix_B0) fu (({ Skeen.zero with Me := me, Clock := clock, Wait := l } : Skeen), ([] : List Int), l)) fun (y110, l112, l114) =>
      (slices_Clone_api_Wait_api_Wait l114).bind fun r145 => some (({ y110 with Wait := r145 } : Skeen), l112, (0 : Int))) = some (stripped me clock l) := by
  refine Tot.eq ?_
  rw [Tot.andThen_iff]
  refine (Tot.whileM (fun z : Skeen × List Int × List Wait => z.1.Me = me ∧ z.1.Clock = clock ∧ ∃ pre, l = pre ++ z.2.2 ∧ (∀ x ∈ pre, x.Fixed = true) ∧ z.2.1 = pre.map Wait.Id) (fun z => z.2.2.length) (Q := fun o => ∃ z : Skeen × List Int × List Wait, o = .inl z ∧ z.1.Me = me ∧ z.1.Clock = clock ∧ z.2.1 = (l.takeWhile fixedW).map Wait.Id ∧ z.2.2 = l.dropWhile fixedW) ⟨rfl, rfl, [], rfl, fun x hx => by simp at hx, rfl⟩ (by simp only; omega) ?_).mono ?_
  · rintro ⟨o, ids, w⟩ ⟨h1, h2, pre, h3, h4, h5⟩
    simp only at h1 h2 h3 h5
    subst h5
    unfold skeen_Fix_B0
    simp only
    cases w with
    | nil =>
      rw [show decide ((([] : List Wait).length : Int) > 0) = false from rfl, cond_false, Option.bind_some, cond_false]
      obtain ⟨k1, k2⟩ := strip_one h3 h4 (fun x hx => by cases hx)
      exact Tot.some_iff.2 ⟨_, rfl, h1, h2, by rw [← k1], k2⟩
    | cons x t =>
      have hlen : pre.length + (t.length + 1) = l.length := by rw [h3]; simp
      have e0 : lat (x :: t) (0 : Int) = some x := rfl
      have e1 : cutL (x :: t) (1 : Int) (((x :: t).length : Nat) : Int) = some t := by
        unfold cutL; rw [if_pos (by simp; omega)]; simp
      rw [decide_eq_true (by simp), cond_true, e0, Option.bind_some, Option.bind_some]
      cases hf : x.Fixed with
      | true =>
        rw [cond_true, Option.bind_some, room_ok (by simp; omega), Option.bind_some, e1, Option.bind_some]
        exact Tot.some_iff.2 ⟨⟨h1, h2, pre ++ [x], by rw [h3]; simp, fun y hy => by
          rcases List.mem_append.1 hy with hy | hy
          · exact h4 y hy
          · rw [List.mem_singleton.1 hy]; exact hf, by simp⟩, by simp⟩
      | false =>
        rw [cond_false]
        obtain ⟨k1, k2⟩ := strip_one h3 h4 (fun y hy => by simp at hy; rw [← hy]; exact hf)
        exact Tot.some_iff.2 ⟨_, rfl, h1, h2, by rw [← k1], k2⟩
  · rintro _ ⟨⟨o, ids, w⟩, rfl, h1, h2, h3, h4⟩
    simp only at h1 h2 h3 h4
    show Tot ((slices_Clone_api_Wait_api_Wait w).bind _) _
    have hw : w.length ≤ l.length := by rw [h4]; exact (List.dropWhile_sublist _).length_le
    rw [eq_slices_Clone_api_Wait_api_Wait (by omega), Option.bind_some, Tot.some_iff]
    unfold stripped
    rw [h3, h4, ← h1, ← h2]
theorem ref_strip {me clock : Int} {l : List Wait} (hl : l.length ≤ 100) :
    ((andThen (rangeM (partref_Fix_B2 l) l.length 0 (({ Skeen.zero with Me := me, Clock := clock } : Skeen), ([] : List Int))) fun (y99, l103) => some (y99, l103)).bind fun (y92, l96) => some (y92, l96, (0 : Int))) = some (stripped me clock l) := by
  refine Tot.eq ?_
  rw [Tot.bind_iff, Tot.andThen_iff]
  refine (Tot.rangeM (fun i (z : Skeen × List Int) => z = (({ Skeen.zero with Me := me, Clock := clock } : Skeen), (l.take i).map Wait.Id) ∧ ∀ x ∈ l.take i, x.Fixed = true) (Q := fun o => o = .inl ((stripped me clock l).1, (stripped me clock l).2.1)) ⟨rfl, fun x hx => by simp at hx⟩ ?_ ?_).mono ?_
  · rintro i _ _ hi ⟨rfl, h1⟩
    have hi : i < l.length := by omega
    have hx : l[i]? = some l[i] := by simp [hi]
    have htake : l.take (i + 1) = l.take i ++ [l[i]] := by rw [List.take_add_one, hx]; rfl
    have ec : cutL l (i : Int) (l.length : Int) = some (l.drop i) := by
      unfold cutL; rw [if_pos (by omega)]
      simp only [Int.toNat_natCast, Option.some.injEq]
      exact List.take_of_length_le (by simp)
    unfold partref_Fix_B2
    rw [lat_i hi, Option.bind_some, ec, Option.bind_some]
    cases hf : l[i].Fixed with
    | false =>
      rw [Bool.not_false, cond_true]
      obtain ⟨k1, k2⟩ := strip_one (List.take_append_drop i l).symm h1 (fun y hy => by
        rw [List.head?_drop, hx] at hy
        rw [← Option.some.inj hy]; exact hf)
      refine Tot.some_iff.2 ?_
      show _ = _
      unfold stripped
      rw [← k1, ← k2]
    | true =>
      rw [Bool.not_true, cond_false, room_ok (by simp; omega), Option.bind_some]
      refine Tot.some_iff.2 ⟨by rw [htake, List.map_append]; rfl, fun x hx => ?_⟩
      rw [htake] at hx
      rcases List.mem_append.1 hx with hx | hx
      · exact h1 x hx
      · rw [List.mem_singleton.1 hx]; exact hf
  · rintro _ ⟨rfl, h1⟩
    rw [Nat.zero_add, List.take_length] at h1
    obtain ⟨k1, k2⟩ := strip_one (l := l) (pre := l) (post := []) (by simp) h1 (fun y hy => by cases hy)
    rw [Nat.zero_add, List.take_length]
    show _ = _
    unfold stripped
    rw [← k1, ← k2]; rfl
  · rintro _ rfl
    exact Tot.some_iff.2 (Tot.some_iff.2 rfl)

/-! ### The lists in order -/
theorem ids_iff {s : Skeen} (h : SkOk s) {i j : Nat} {v w : Wait} (hv : s.Wait[i]? = some v) (hw : s.Wait[j]? = some w) : v.Id = w.Id ↔ i = j := by
  constructor
  · intro e
    rcases Nat.lt_trichotomy i j with q | q | q
    · exact absurd e (h.id_ne q hv hw)
    · exact q
    · exact absurd e.symm (h.id_ne q hw hv)
  · rintro rfl
    rw [hv] at hw; rw [Option.some.inj hw]
/-- All but the one at k, and the new one: in order. -/
structure InOrd (s : Skeen) (k : Nat) (f : Wait) (l : List Wait) : Prop where
  pw : l.Pairwise WLt
  mem : ∀ x, x ∈ l ↔ x = f ∨ ∃ i, i ≠ k ∧ s.Wait[i]? = some x
theorem InOrd.one {s : Skeen} {k : Nat} {f : Wait} {l m : List Wait} (h1 : InOrd s k f l) (h2 : InOrd s k f m) : l = m :=
  pw_one WLt.no h1.pw h2.pw fun x => (h1.mem x).trans (h2.mem x).symm
/-- No other one has the number. -/
def NoDup (s : Skeen) (k : Nat) (n : Num) : Prop := ∀ (i : Nat) w, i ≠ k → s.Wait[i]? = some w → w.Num_ ≠ n
theorem sort_ord {s : Skeen} (h : SkOk s) {k : Nat} {idI : Int} {n : Num} {fu : Nat} (hk : k < s.Wait.length) (hn : NoDup s k n) (hfu : 200 ≤ fu) :
    Tot (slices_SortFunc_api_Wait_api_Wait_Fix_3 fu (s.Wait.set k ⟨idI, n, true⟩)) fun r => r.length ≤ 40 ∧ InOrd s k ⟨idI, n, true⟩ r := by
  have hlen := h.len
  unfold slices_SortFunc_api_Wait_api_Wait_Fix_3
  obtain ⟨q, eq, _⟩ := len_inst (n := (s.Wait.set k ⟨idI, n, true⟩).length) (by simp; omega)
  rw [eq, Option.bind_some, Tot.bind_iff]
  refine (pdq_inst wlt_swo (by simp; omega) (by simp; omega)).mono ?_
  rintro r ⟨h1, h2⟩
  rw [Tot.some_iff]
  have hl := h1.len
  rw [List.length_set] at hl h2
  have hmem : ∀ x, x ∈ s.Wait.set k ⟨idI, n, true⟩ ↔ x = ⟨idI, n, true⟩ ∨ ∃ i, i ≠ k ∧ s.Wait[i]? = some x := by
    intro x
    constructor
    · intro hx
      obtain ⟨i, hi⟩ := List.getElem?_of_mem hx
      by_cases e : i = k
      · subst e
        rw [List.getElem?_set_self hk] at hi
        exact .inl (Option.some.inj hi).symm
      · rw [List.getElem?_set_ne (Ne.symm e)] at hi
        exact .inr ⟨i, e, hi⟩
    · rintro (rfl | ⟨i, e, hi⟩)
      · exact List.mem_of_getElem? (List.getElem?_set_self hk)
      · exact List.mem_of_getElem? (i := i) (by rw [List.getElem?_set_ne (Ne.symm e)]; exact hi)
  -- all numbers differ
  have hdist : ∀ (i j : Nat) (v w : Wait), i ≠ j → (s.Wait.set k ⟨idI, n, true⟩)[i]? = some v → (s.Wait.set k ⟨idI, n, true⟩)[j]? = some w → v.Num_ ≠ w.Num_ := by
    intro i j v w hij hv hw
    by_cases e1 : i = k
    · subst e1
      rw [List.getElem?_set_self hk] at hv
      rw [List.getElem?_set_ne hij] at hw
      obtain rfl := Option.some.inj hv
      exact fun e => hn j w (Ne.symm hij) hw e.symm
    · rw [List.getElem?_set_ne (Ne.symm e1)] at hv
      by_cases e2 : j = k
      · subst e2
        rw [List.getElem?_set_self hk] at hw
        obtain rfl := Option.some.inj hw
        exact hn i v e1 hv
      · rw [List.getElem?_set_ne (Ne.symm e2)] at hw
        intro e
        rcases Nat.lt_or_gt_of_ne hij with q | q
        · have := h.lt q hv hw; rw [e, nlt_iff] at this; omega
        · have := h.lt q hw hv; rw [e, nlt_iff] at this; omega
  refine ⟨by omega, ?_, fun x => h1.mem.trans (hmem x)⟩
  obtain ⟨_, σ, τ, _, _, s3, s4⟩ := h1
  rw [List.pairwise_iff_getElem]
  intro i j hi hj hij
  have ei : r[i]? = some r[i] := by simp [hi]
  have ej : r[j]? = some r[j] := by simp [hj]
  have k1 := h2 i j r[i] r[j] (by omega) hij (by omega) ei ej
  rw [s4] at ei ej
  have hne : σ i ≠ σ j := fun e => by have := congrArg τ e; rw [(s3 i).2, (s3 j).2] at this; omega
  have k2 := hdist _ _ _ _ hne ei ej
  rw [wlt_eq, nlt_false] at k1
  unfold WLt
  rw [nlt_iff]
  have : ¬ (r[i].Num_.N = r[j].Num_.N ∧ r[i].Num_.By = r[j].Num_.By) := fun e => k2 (num_eq e.1 e.2)
  omega
theorem ref_ord {s : Skeen} (h : SkOk s) {k : Nat} {idI : Int} {n : Num} (hk : k < s.Wait.length) :
    Tot (rangeM (partref_Fix_B0 s idI n (k : Int)) s.Wait.length 0 (false, ([] : List Wait))) fun o => (∃ z, o = .inl z ∧ NoDup s k n ∧ z.2.length ≤ 50 ∧ InOrd s k ⟨idI, n, true⟩ (bif z.1 then z.2 else z.2 ++ [⟨idI, n, true⟩])) ∨ (o = .inr (Skeen.zero, [], 10) ∧ ∃ (i : Nat) (w : Wait), i ≠ k ∧ s.Wait[i]? = some w ∧ w.Num_ = n) := by
  have hlen := h.len
  refine Tot.rangeM (fun j (z : Bool × List Wait) => ((z.1 = false → z.2.length ≤ j) ∧ z.2.length ≤ j + 1) ∧ (∀ (i : Nat) w, i < j → i ≠ k → s.Wait[i]? = some w → w.Num_ ≠ n) ∧ z.2.Pairwise WLt ∧ (∀ x, x ∈ z.2 ↔ (z.1 = true ∧ x = ⟨idI, n, true⟩) ∨ ∃ i, i < j ∧ i ≠ k ∧ s.Wait[i]? = some x) ∧ (z.1 = false → ∀ x ∈ z.2, nlt x.Num_ n = true) ∧ (z.1 = true → ∃ (i : Nat) (w : Wait), i < j ∧ s.Wait[i]? = some w ∧ nlt n w.Num_ = true)) ?_ ?_ ?_
  · exact ⟨⟨fun _ => by simp, by simp⟩, fun i w hi => by omega, .nil, fun x => ⟨fun hx => by simp at hx, fun hx => by
      rcases hx with ⟨hx, _⟩ | ⟨i, hi, _⟩
      · cases hx
      · omega⟩, fun _ x hx => by simp at hx, fun e => by cases e⟩
  · rintro j ⟨p, z⟩ _ hj ⟨h1, h2, h3, h4, h5, h6⟩
    simp only at h1 h3 h4 h5 h6
    have hj : j < s.Wait.length := by omega
    have hw : s.Wait[j]? = some s.Wait[j] := by simp [hj]
    unfold partref_Fix_B0
    rw [lat_i hj, Option.bind_some]
    generalize s.Wait[j] = w at hw
    by_cases ej : j = k
    · subst ej
      rw [show (((j : Nat) : Int) == (j : Int)) = true from by simp, cond_true, Tot.some_iff]
      refine ⟨⟨fun e => by have := h1.1 e; simp only; omega, by have := h1.2; simp only; omega⟩, fun i v hi hne hv => h2 i v (by omega) hne hv, h3, fun x => (h4 x).trans ?_, h5, fun e => ?_⟩
      · constructor
        · rintro (q | ⟨i, i1, i2, i3⟩)
          · exact .inl q
          · exact .inr ⟨i, by omega, i2, i3⟩
        · rintro (q | ⟨i, i1, i2, i3⟩)
          · exact .inl q
          · exact .inr ⟨i, by omega, i2, i3⟩
      · obtain ⟨i, v, i1, i2, i3⟩ := h6 e
        exact ⟨i, v, by omega, i2, i3⟩
    · rw [show (((j : Nat) : Int) == (k : Int)) = false from by simp; omega, cond_false]
      by_cases en : w.Num_ = n
      · rw [decide_eq_true en, cond_true, Tot.some_iff]
        exact .inr ⟨rfl, j, w, ej, hw, en⟩
      · rw [decide_eq_false en, cond_false, nless_eq]
        have hdup : ∀ (i : Nat) v, i < j + 1 → i ≠ k → s.Wait[i]? = some v → v.Num_ ≠ n := fun i v hi hne hv => by
          by_cases e : i = j
          · subst e; rw [hw] at hv; rw [← Option.some.inj hv]; exact en
          · exact h2 i v (by omega) hne hv
        simp only [Option.bind_some]
        rw [and_some, Option.bind_some, room_ok (by simp; omega)]
        simp only [Option.bind_some]
        -- what is in the list is ahead of w
        have hahead : ∀ x ∈ z, nlt x.Num_ w.Num_ = true := by
          intro x hx
          rcases (h4 x).1 hx with ⟨hp, rfl⟩ | ⟨i, i1, i2, i3⟩
          · obtain ⟨i, v, i1, i2, i3⟩ := h6 hp
            have := h.lt i1 i2 hw
            rw [nlt_iff] at this i3 ⊢
            simp only; omega
          · exact h.lt i1 i3 hw
        cases hc : (!p && nlt n w.Num_) with
        | true =>
          simp only [Bool.and_eq_true, Bool.not_eq_true'] at hc
          obtain ⟨rfl, hc⟩ := hc
          rw [cond_true, Option.bind_some, room_ok (by simp; omega), Option.bind_some, Tot.some_iff]
          refine ⟨⟨fun e => (by cases e), by have := h1.1 rfl; simp; omega⟩, hdup, ?_, fun x => ?_, fun e => (by cases e), fun _ => ⟨j, w, by omega, hw, hc⟩⟩
          · rw [List.append_assoc, List.pairwise_append]
            refine ⟨h3, .cons (fun y hy => ?_) (.cons (by simp) .nil), fun x hx y hy => ?_⟩
            · have hy : y = w := by simpa using hy
              rw [hy]; exact hc
            · simp only [List.singleton_append, List.mem_cons, List.not_mem_nil, or_false] at hy
              rcases hy with rfl | rfl
              · exact h5 rfl x hx
              · exact hahead x hx
          · simp only [List.mem_append, List.mem_singleton, h4 x, true_and, Bool.false_eq_true, false_and, false_or]
            constructor
            · rintro ((⟨i, i1, i2, i3⟩ | rfl) | rfl)
              · exact .inr ⟨i, by omega, i2, i3⟩
              · exact .inl rfl
              · exact .inr ⟨j, by omega, ej, hw⟩
            · rintro (rfl | ⟨i, i1, i2, i3⟩)
              · exact .inl (.inr rfl)
              · by_cases e : i = j
                · subst e; rw [hw] at i3; exact .inr (Option.some.inj i3).symm
                · exact .inl (.inl ⟨i, by omega, i2, i3⟩)
        | false =>
          rw [cond_false, Option.bind_some, room_ok (by simp; omega), Option.bind_some, Tot.some_iff]
          refine ⟨⟨fun e => by have := h1.1 e; simp; omega, by have := h1.2; simp; omega⟩, hdup, ?_, fun x => ?_, fun e x hx => ?_, fun e => ?_⟩
          · rw [List.pairwise_append]
            refine ⟨h3, .cons (by simp) .nil, fun x hx y hy => ?_⟩
            rw [List.mem_singleton.1 hy]; exact hahead x hx
          · simp only [List.mem_append, List.mem_singleton, h4 x]
            constructor
            · rintro ((q | ⟨i, i1, i2, i3⟩) | rfl)
              · exact .inl q
              · exact .inr ⟨i, by omega, i2, i3⟩
              · exact .inr ⟨j, by omega, ej, hw⟩
            · rintro (q | ⟨i, i1, i2, i3⟩)
              · exact .inl (.inl q)
              · by_cases e : i = j
                · subst e; rw [hw] at i3; exact .inr (Option.some.inj i3).symm
                · exact .inl (.inr ⟨i, by omega, i2, i3⟩)
          · have e : p = false := e
            subst e
            simp only [Bool.not_false, Bool.true_and] at hc
            rcases List.mem_append.1 hx with hx | hx
            · exact h5 rfl x hx
            · rw [List.mem_singleton.1 hx]
              rw [nlt_false] at hc
              rw [nlt_iff]
              have : ¬ (w.Num_.N = n.N ∧ w.Num_.By = n.By) := fun e => en (num_eq e.1 e.2)
              omega
          · obtain ⟨i, v, i1, i2, i3⟩ := h6 e
            exact ⟨i, v, by omega, i2, i3⟩
  · rintro ⟨p, z⟩ ⟨h1, h2, h3, h4, h5, h6⟩
    simp only at h1 h3 h4 h5 h6
    rw [Nat.zero_add] at h1 h2 h4 h6
    have hin : ∀ {i : Nat} {w : Wait}, s.Wait[i]? = some w → i < s.Wait.length := fun hw => (List.getElem?_eq_some_iff.1 hw).1
    refine .inl ⟨_, rfl, fun i w hne hw => h2 i w (hin hw) hne hw, by have := h1.2; simp only; omega, ?_⟩
    simp only
    cases p with
    | true =>
      rw [cond_true]
      refine ⟨h3, fun x => (h4 x).trans ?_⟩
      simp only [true_and]
      exact or_congr Iff.rfl ⟨fun ⟨i, _, i2, i3⟩ => ⟨i, i2, i3⟩, fun ⟨i, i2, i3⟩ => ⟨i, hin i3, i2, i3⟩⟩
    | false =>
      rw [cond_false]
      refine ⟨?_, fun x => ?_⟩
      · rw [List.pairwise_append]
        refine ⟨h3, .cons (by simp) .nil, fun x hx y hy => ?_⟩
        rw [List.mem_singleton.1 hy]; exact h5 rfl x hx
      · rw [List.mem_append, List.mem_singleton, h4 x]
        simp only [Bool.false_eq_true, false_and, false_or]
        rw [or_comm]
        exact or_congr Iff.rfl ⟨fun ⟨i, _, i2, i3⟩ => ⟨i, i2, i3⟩, fun ⟨i, i2, i3⟩ => ⟨i, hin i3, i2, i3⟩⟩

/-! ### Fix -/
theorem idxI_at {α : Type} {p : α → Bool} {l : List α} {i : Nat} {x : α} (hx : l[i]? = some x) (hp : p x = true) (hu : ∀ (j : Nat) y, j < i → l[j]? = some y → p y = false) : idxI p l = (i : Int) := idxI_some.2 ⟨x, hx, hp, hu⟩
theorem fix_law {s : Skeen} {id : Int} {n : Num} {fu : Nat} (h : SkOk s) (hc : skeen_Check s = some 0) (hn : 1 ≤ n.N ∧ n.N ≤ 16777215 ∧ 0 ≤ n.By ∧ n.By ≤ 5) (hfu : 300 ≤ fu) : ∃ r, skeen_Fix fu s id n = some r ∧ partref_Fix s id n = some r := by
  have hlen := h.len
  unfold skeen_Fix partref_Fix
  rw [hc, Option.bind_some]
  simp only [bne_self_eq_false, cond_false]
  rw [sin_eq, sin_eq, Option.bind_some, Option.bind_some, or_some, Option.bind_some]
  have e0 : (!(decide (n.N ≥ 1) && decide (n.N ≤ 16777215)) || !(decide (n.By ≥ 0) && decide (n.By ≤ 5))) = false := by simp; omega
  rw [e0, cond_false]
  have hp1 : ∀ x ∈ s.Wait, skeen_Fix_1 x id = some ((x.Id == id) && !x.Fixed) := fun x _ => by
    unfold skeen_Fix_1; rw [and_some, Option.bind_some]
  rw [eq_slices_IndexFunc_api_Wait_api_Wait_Fix_1 _ _ _ hp1, eq_slices_IndexFunc_api_Wait_api_Wait_Fix_1_v2 _ _ (fun x => x.Id == id) (fun x _ => rfl), Option.bind_some, Option.bind_some]
  rcases idxI_cases (fun x : Wait => x.Id == id) s.Wait with ⟨e, hno⟩ | ⟨k, w, e, hw, hid, hbef⟩
  · have e1 : idxI (fun x : Wait => (x.Id == id) && !x.Fixed) s.Wait = -1 := idxI_none.2 fun x hx => by rw [hno x hx]; rfl
    rw [e, e1]
    exact ⟨_, rfl, rfl⟩
  · have hk := (List.getElem?_eq_some_iff.1 hw).1
    have hid : w.Id = id := by simpa using hid
    rw [e]
    cases hf : w.Fixed with
    | true =>
      have e1 : idxI (fun x : Wait => (x.Id == id) && !x.Fixed) s.Wait = -1 := idxI_none.2 fun x hx => by
        obtain ⟨j, hj⟩ := List.getElem?_of_mem hx
        by_cases q : x.Id = id
        · have : j = k := (ids_iff h hj hw).1 (by rw [q, hid])
          subst this
          rw [hw] at hj
          rw [← Option.some.inj hj, hf]; simp
        · have : (x.Id == id) = false := by simpa using q
          rw [this]; rfl
      rw [e1, decide_eq_false (show ¬ (k : Int) < 0 by omega), cond_false, lat_nat, hw, Option.bind_some, hf]
      exact ⟨_, rfl, rfl⟩
    | false =>
      have e1 : idxI (fun x : Wait => (x.Id == id) && !x.Fixed) s.Wait = (k : Int) := idxI_at hw (by rw [hf]; simp [hid]) fun j y hj hy => by
        have := hbef j y hj hy
        rw [this]; rfl
      rw [e1, decide_eq_false (show ¬ (k : Int) < 0 by omega), cond_false, cond_false, lat_nat, hw]
      simp only [Option.bind_some, hf, cond_false]
      rw [ncmp_eq, nless_eq, Option.bind_some, Option.bind_some, ncmp_neg]
      cases hlt : nlt n w.Num_ with
      | true => exact ⟨_, rfl, rfl⟩
      | false =>
        rw [cond_false, cond_false]
        have hp2 : ∀ x ∈ s.Wait, skeen_Fix_2 x id n = some ((x.Id != id) && decide (x.Num_ = n)) := fun x _ => by
          unfold skeen_Fix_2; rw [and_some, Option.bind_some]
        rw [eq_slices_ContainsFunc_api_Wait_api_Wait_Fix_2 _ _ _ _ hp2, Option.bind_some, Option.bind_some]
        have hany : (s.Wait.any fun x => (x.Id != id) && decide (x.Num_ = n)) = true ↔ ∃ (i : Nat) (v : Wait), i ≠ k ∧ s.Wait[i]? = some v ∧ v.Num_ = n := by
          rw [List.any_eq_true]
          constructor
          · rintro ⟨x, hx, q⟩
            obtain ⟨j, hj⟩ := List.getElem?_of_mem hx
            simp only [Bool.and_eq_true, bne_iff_ne, ne_eq, decide_eq_true_eq] at q
            refine ⟨j, x, ?_, hj, q.2⟩
            rintro rfl
            rw [hw] at hj
            exact q.1 (by rw [← Option.some.inj hj, hid])
          · rintro ⟨i, v, h1, h2, h3⟩
            refine ⟨v, List.mem_of_getElem? h2, ?_⟩
            simp only [Bool.and_eq_true, bne_iff_ne, ne_eq, decide_eq_true_eq]
            exact ⟨fun q => h1 ((ids_iff h h2 hw).1 (by rw [q, hid])), h3⟩
        obtain ⟨o, eo, ho⟩ := ref_ord h (idI := id) (n := n) hk
        rw [eo]
        rcases ho with ⟨⟨p, z⟩, rfl, hnd, hz, hord⟩ | ⟨rfl, hd⟩
        · simp only at hz hord
          have hfalse : (s.Wait.any fun x => (x.Id != id) && decide (x.Num_ = n)) = false := by
            rw [Bool.eq_false_iff]
            intro q
            obtain ⟨i, v, h1, h2, h3⟩ := hany.1 q
            exact hnd i v h1 h2 h3
          rw [hfalse, cond_false, eq_slices_Clone_api_Wait_api_Wait (by omega), Option.bind_some]
          simp only [Let_eq]
          rw [lat_nat, hw, Option.bind_some, Int.toNat_natCast, lat_nat, List.getElem?_set_self hk, Option.bind_some, List.set_set]
          obtain ⟨r, er, hr, hro⟩ := sort_ord h (k := k) (idI := id) (n := n) (fu := fu) hk hnd (by omega)
          have ef : ({ ({ w with Num_ := n } : Wait) with Fixed := true } : Wait) = ⟨id, n, true⟩ := by rw [← hid]
          rw [ef, er, Option.bind_some, prog_strip (by omega) (by omega), andThen_inl]
          have ez : (bif !p then ((room z ([({ Wait.zero with Id := id, Num_ := n, Fixed := true } : Wait)] : List Wait)).bind fun u86 => some (z ++ ([({ Wait.zero with Id := id, Num_ := n, Fixed := true } : Wait)] : List Wait))) else some z) = some (bif p then z else z ++ [⟨id, n, true⟩]) := by
            rw [room_ok (by simp; omega)]
            cases p <;> rfl
          rw [ez, Option.bind_some, ← hro.one hord, ref_strip (by omega)]
          exact ⟨_, rfl, rfl⟩
        · rw [hany.2 hd]
          exact ⟨_, rfl, rfl⟩
theorem max_law {l : List Num} {fu : Nat} (hl : l ≠ []) (hn : l.length ≤ 2 ^ 63 - 1) (hfu : l.length + 1 < fu) : Tot (skeen_Most fu l) fun r => r.2 = 0 ∧ r.1 ∈ l ∧ ∀ x ∈ l, nlt r.1 x = false := by
  have hpos : 0 < l.length := List.length_pos_iff.2 hl
  have h0 : l[0]? = some l[0] := by simp [hpos]
  unfold skeen_Most
  rw [show ((l.length : Int) == 0) = false from by simp; exact hl, cond_false, Tot.bind_iff]
  unfold slices_MaxFunc_api_Num_api_Num_skeen_compare
  rw [decide_eq_false (by omega), cond_false]
  have e0 : lat l 0 = some l[0] := by
    have := lat_i (l := l) (i := 0) hpos
    simpa using this
  rw [e0, Option.bind_some, Tot.andThen_iff]
  refine (Tot.whileM (fun z : Int × Num => ∃ i : Nat, z.1 = (i : Int) ∧ i ≤ l.length ∧ z.2 ∈ l ∧ ∀ (j : Nat) x, j < i → l[j]? = some x → nlt z.2 x = false) (fun z => ((l.length : Int) - z.1).toNat) (Q := fun o => ∃ i m, o = .inl (i, m) ∧ m ∈ l ∧ ∀ x ∈ l, nlt m x = false) ⟨1, rfl, by omega, List.getElem_mem hpos, fun j x hj hx => ?_⟩ (by simp only; omega) ?_).mono ?_
  · obtain rfl : j = 0 := by omega
    rw [h0] at hx
    rw [← Option.some.inj hx, nlt_false]; simp only; omega
  · rintro ⟨z, m⟩ ⟨i, rfl, h1, h2, h3⟩
    simp only at h2 h3
    unfold slices_MaxFunc_api_Num_api_Num_skeen_compare_B0
    simp only
    rw [Tot.ite_iff]
    refine ⟨fun q => ?_, fun q => ?_⟩
    · have q : i < l.length := by simpa using q
      have hx : l[i]? = some l[i] := by simp [q]
      rw [lat_i q, Option.bind_some, ncmp_eq, Option.bind_some, ncmp_pos, Option.bind_some, w64_id (by omega) (by omega), Tot.ite_iff]
      refine ⟨fun c => Tot.some_iff.2 ⟨⟨i + 1, by push_cast; rfl, q, List.getElem_mem q, fun j x hj hx' => ?_⟩, by simp only; omega⟩, fun c => Tot.some_iff.2 ⟨⟨i + 1, by push_cast; rfl, q, h2, fun j x hj hx' => ?_⟩, by simp only; omega⟩⟩
      · by_cases e : j = i
        · subst e; rw [hx] at hx'; rw [← Option.some.inj hx', nlt_false]; simp only; omega
        · have := h3 j x (by omega) hx'
          rw [nlt_false] at this ⊢
          rw [nlt_iff] at c
          simp only; omega
      · by_cases e : j = i
        · subst e; rw [hx] at hx'; rw [← Option.some.inj hx']; exact c
        · exact h3 j x (by omega) hx'
    · have q : ¬ i < l.length := by simpa using q
      refine Tot.some_iff.2 ⟨_, _, rfl, h2, fun x hx => ?_⟩
      obtain ⟨j, hj⟩ := List.getElem?_of_mem hx
      exact h3 j x (by have := (List.getElem?_eq_some_iff.1 hj).1; omega) hj
  · rintro _ ⟨i, m, rfl, h1, h2⟩
    exact Tot.some_iff.2 (Tot.some_iff.2 ⟨rfl, h1, h2⟩)
theorem fix_bad {s : Skeen} {id : Int} {n : Num} {fu : Nat} {c : Int} (hc : skeen_Check s = some c) (h0 : c ≠ 0) : skeen_Fix fu s id n = some (Skeen.zero, [], c) := by
  unfold skeen_Fix
  rw [hc, Option.bind_some, show (c != 0) = true by simpa using h0, cond_true]; rfl
theorem offer_bad {s : Skeen} {id : Int} {c : Int} (hc : skeen_Check s = some c) (h0 : c ≠ 0) : skeen_Offer s id = some (Skeen.zero, Num.zero, c) := by
  unfold skeen_Offer
  rw [hc, Option.bind_some, show (c != 0) = true by simpa using h0, cond_true]; rfl
theorem skeensays_law (s : Skeen) (id : Int) (n : Num) (l : List Num) (_ : Rng.ok s) (_ : Rng.ok id) (_ : Rng.ok n) (hl : Rng.ok l) : ∃ fu, partlaw_SkeenSays fu s id n l = some true := by
  have hl40 : l.length ≤ 2 ^ 63 - 1 := hl.1
  refine ⟨l.length + 1000, ?_⟩
  generalize hfu : l.length + 1000 = fu
  obtain ⟨c, ec, ec', hok⟩ := codes_law s
  unfold partlaw_SkeenSays
  -- Most
  have hm : ∃ m g, skeen_Most fu l = some (m, g) ∧ (bif (l.length : Int) == (0 : Int) then ((bif !(decide (m = Num.zero)) then (some true) else some (g != (6 : Int))).bind fun y50 => bif y50 then (some (Sum.inr false : Unit ⊕ Bool)) else some (.inl ())) else
      (bif g != (0 : Int) then (some true) else (slices_Contains_api_Num_api_Num l m).bind fun r58 => some (!r58)).bind fun y56 => bif y56 then (some (.inr false)) else (slices_ContainsFunc_api_Num_api_Num_SkeenSays_1 l m).bind fun r65 => bif r65 then (some (.inr false)) else some (.inl ())) = some (.inl ()) := by
    by_cases h0 : l = []
    · subst h0
      exact ⟨Num.zero, 6, rfl, rfl⟩
    · obtain ⟨⟨m, g⟩, e, h1, h2, h3⟩ := max_law (fu := fu) h0 hl40 (by omega)
      simp only at h1 h2 h3
      subst h1
      refine ⟨m, 0, e, ?_⟩
      rw [show ((l.length : Int) == 0) = false from by simp; exact h0, cond_false, bne_self_eq_false, cond_false, eq_slices_Contains_api_Num_api_Num, Option.bind_some, List.contains_iff_mem.2 h2, Option.bind_some, Bool.not_true, cond_false,
        eq_slices_ContainsFunc_api_Num_api_Num_SkeenSays_1 _ _ (fun x => nlt m x) (fun x _ => by unfold partlaw_SkeenSays_1; rw [nless_eq]; rfl), Option.bind_some]
      have : (l.any fun x => nlt m x) = false := by rw [List.any_eq_false]; intro x hx; rw [h3 x hx]; simp
      rw [this]; rfl
  obtain ⟨m, g, em, hm⟩ := hm
  rw [ec']
  by_cases h0 : c = 0
  · subst h0
    have h := hok rfl
    have hlen := h.len
    -- Offer
    have ho : ∃ w u q, skeen_Offer s id = some (w, u, q) ∧ ((bif decide (id < (0 : Int)) then (some ((1 : Int), Num.zero, s)) else
        (slices_ContainsFunc_api_Wait_api_Wait_SkeenSays_2 s.Wait id).bind fun r118 => bif r118 then (some ((7 : Int), Num.zero, s)) else
        (bif (s.Wait.length : Int) == (40 : Int) then (some true) else some (s.Clock == (16777215 : Int))).bind fun y124 => bif y124 then (some ((8 : Int), Num.zero, s)) else
        (slices_Concat_api_Wait_api_Wait ([s.Wait, ([({ Wait.zero with Id := id, Num_ := ({ Num.zero with N := w64 (s.Clock + (1 : Int)), By := s.Me } : Num) } : Wait)] : List Wait)] : List (List Wait))).bind fun r139 =>
        Let r139 fun l147 => some ((0 : Int), ({ Num.zero with N := w64 (s.Clock + (1 : Int)), By := s.Me } : Num), ({ Skeen.zero with Me := s.Me, Clock := w64 (s.Clock + (1 : Int)), Wait := l147 } : Skeen))).bind fun (y111, y112, y113) =>
        (bif y111 != (0 : Int) then (some Skeen.zero) else some y113).bind fun y169 => some (y169, y112, y111)) = some (w, u, q) := by
      unfold skeen_Offer
      rw [ec, Option.bind_some]
      simp only [bne_self_eq_false, cond_false]
      rw [eq_slices_ContainsFunc_api_Wait_api_Wait_Offer_1 _ _ (fun x => x.Id == id) (fun x _ => rfl), eq_slices_ContainsFunc_api_Wait_api_Wait_SkeenSays_2 _ _ (fun x => x.Id == id) (fun x _ => rfl), Option.bind_some, Option.bind_some, or_some, Option.bind_some, Option.bind_some]
      cases decide (id < 0) with
      | true => exact ⟨_, _, _, rfl, rfl⟩
      | false =>
        rw [cond_false, cond_false]
        cases s.Wait.any fun x => x.Id == id with
        | true => exact ⟨_, _, _, rfl, rfl⟩
        | false =>
          rw [cond_false, cond_false]
          cases (((s.Wait.length : Int) == 40) || (s.Clock == 16777215)) with
          | true => exact ⟨_, _, _, rfl, rfl⟩
          | false =>
            rw [cond_false, cond_false, eq_slices_Clone_api_Wait_api_Wait (by omega), Option.bind_some, room_ok (by simp; omega), Option.bind_some, eq_slices_Concat_api_Wait_api_Wait (by simp; omega), Option.bind_some]
            exact ⟨_, _, _, rfl, rfl⟩
    obtain ⟨w, u, q, eo, ho⟩ := ho
    rw [Option.bind_some, eo, Option.bind_some]
    -- Fix
    by_cases hn : 1 ≤ n.N ∧ n.N ≤ 16777215 ∧ 0 ≤ n.By ∧ n.By ≤ 5
    · obtain ⟨r, er, er'⟩ := fix_law (id := id) (fu := fu) h ec hn (by omega)
      rw [er, Option.bind_some, em, Option.bind_some, ec, Option.bind_some]
      simp only [bne_self_eq_false, cond_false]
      rw [hm, andThen_inl]
      generalize hX : (bif decide (id < (0 : Int)) then (some ((1 : Int), Num.zero, s)) else _ : Option (Int × Num × Skeen)) = X at ho ⊢
      cases X with
      | none => cases ho
      | some x =>
        obtain ⟨y1, y2, y3⟩ := x
        simp only [Option.bind_some] at ho ⊢
        have e0 : (((decide (n.N < 1) || decide (n.N > 16777215)) || decide (n.By < 0)) || decide (n.By > 5)) = false := by simp; omega
        rw [cond_some, Option.bind_some] at ho ⊢
        simp only [Option.some.injEq, Prod.mk.injEq] at ho
        obtain ⟨rfl, rfl, rfl⟩ := ho
        simp only [same_eq, Option.bind_some, decide_true, Bool.not_true, cond_false, or_some, Bool.or_false, bne_self_eq_false, e0, er', eq_slices_Equal_int_int, and_some, beq_self_eq_true, Bool.and_self]
        rfl
    · have e0 : (((decide (n.N < 1) || decide (n.N > 16777215)) || decide (n.By < 0)) || decide (n.By > 5)) = true := by simp; omega
      have er : skeen_Fix fu s id n = some (Skeen.zero, [], 1) := by
        unfold skeen_Fix
        rw [ec, Option.bind_some]
        simp only [bne_self_eq_false, cond_false]
        rw [sin_eq, sin_eq, Option.bind_some, Option.bind_some, or_some, Option.bind_some]
        have e1 : (!(decide (n.N ≥ 1) && decide (n.N ≤ 16777215)) || !(decide (n.By ≥ 0) && decide (n.By ≤ 5))) = true := by simp; omega
        rw [e1]; rfl
      rw [er, Option.bind_some, em, Option.bind_some, ec, Option.bind_some]
      simp only [bne_self_eq_false, cond_false]
      rw [hm, andThen_inl]
      generalize hX : (bif decide (id < (0 : Int)) then (some ((1 : Int), Num.zero, s)) else _ : Option (Int × Num × Skeen)) = X at ho ⊢
      cases X with
      | none => cases ho
      | some x =>
        obtain ⟨y1, y2, y3⟩ := x
        simp only [Option.bind_some] at ho ⊢
        rw [cond_some, Option.bind_some] at ho ⊢
        simp only [Option.some.injEq, Prod.mk.injEq] at ho
        obtain ⟨rfl, rfl, rfl⟩ := ho
        simp only [same_eq, Option.bind_some, decide_true, Bool.not_true, cond_false, or_some, Bool.or_false, bne_self_eq_false, e0, cond_true, and_some, beq_self_eq_true, Bool.and_self]
        rfl
  · rw [Option.bind_some, offer_bad ec h0, Option.bind_some, fix_bad ec h0, Option.bind_some, em, Option.bind_some, ec, Option.bind_some]
    simp only [bne_self_eq_false, cond_false]
    rw [hm, andThen_inl, show (c != 0) = true by simpa using h0, cond_true]
    simp [same_eq]
end Go.Proofs.Ytnljiedichjagaa
