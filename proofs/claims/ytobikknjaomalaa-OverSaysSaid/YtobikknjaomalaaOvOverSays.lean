/-
  OverSays: the plain law.
-/
import Derived.Test.YtobikknjaomalaaOvLib
namespace Go.Proofs.Ytobikknjaomalaa
open Enc

structure GoodO (t : Over) : Prop where
  n1 : 1 ≤ t.Hands.length
  n6 : t.Hands.length ≤ 6
  hands : ∀ (i : Nat) h, t.Hands[i]? = some h → 0 ≤ h.Owed ∧ h.Owed ≤ 16777215
  way : t.Way.length ≤ 100
  words : ∀ (i : Nat) w, t.Way[i]? = some w → 0 ≤ w.From ∧ w.From < t.Hands.length ∧ 0 ≤ w.To ∧ w.To < t.Hands.length
theorem oin_eq (a b c : Int) : over_in a b c = some (decide (a ≥ b) && decide (a ≤ c)) := by
  unfold over_in; simp only [cond_some, Option.bind_some, Bool.cond_false_right]
theorem hand_eq {t : Over} {i : Nat} (hi : i < t.Hands.length) (hn : t.Hands.length ≤ 6) : partref_OverErr_B0 t i () = over_Check_B0 t i () := by
  unfold partref_OverErr_B0 over_Check_B0 over_hand
  have e64 : w64 ((t.Hands.length : Int) - 1) = (t.Hands.length : Int) - 1 := w64_id (by omega) (by omega)
  have hx : lat t.Hands (i : Int) = some t.Hands[i] := by rw [lat_nat]; simp [hi]
  simp only [hx, oin_eq, e64, Option.bind_some, cond_some, Bool.cond_true_left, Bool.cond_false_right]
  generalize t.Hands[i] = x
  obtain ⟨busy, boss, owed⟩ := x
  simp only
  have a1 : (decide (boss < -1) || decide (boss ≥ (t.Hands.length : Int)) || decide (owed < 0) || decide (owed > 16777215)) = (!(decide (boss ≥ -1) && decide (boss ≤ (t.Hands.length : Int) - 1)) || !(decide (owed ≥ 0) && decide (owed ≤ 16777215))) := by
    rw [Bool.eq_iff_iff]; simp <;> omega
  rw [a1]
  cases hc : (!(decide (boss ≥ -1) && decide (boss ≤ (t.Hands.length : Int) - 1)) || !(decide (owed ≥ 0) && decide (owed ≤ 16777215))) with
  | true => rfl
  | false =>
    have ho : 0 ≤ owed := by simp at hc; omega
    have a2 : (owed != 0) = decide (owed > 0) := by rw [Bool.eq_iff_iff]; simp <;> omega
    simp only [cond_false, a2]
    simp only [bne]
    cases boss == (i : Int) <;> cases (i : Int) == 0 <;> cases boss == (-1 : Int) <;> cases busy <;> cases decide (owed > 0) <;> rfl
theorem hand_ok {t : Over} {i : Nat} (hi : i < t.Hands.length) (hn : t.Hands.length ≤ 6) : (over_Check_B0 t i () = some (.go ()) ∧ 0 ≤ t.Hands[i].Owed ∧ t.Hands[i].Owed ≤ 16777215) ∨ ∃ c, c ≠ 0 ∧ over_Check_B0 t i () = some (.ret c) := by
  unfold over_Check_B0 over_hand
  have e64 : w64 ((t.Hands.length : Int) - 1) = (t.Hands.length : Int) - 1 := w64_id (by omega) (by omega)
  have hx : lat t.Hands (i : Int) = some t.Hands[i] := by rw [lat_nat]; simp [hi]
  simp only [hx, oin_eq, e64, Option.bind_some, cond_some, Bool.cond_true_left, Bool.cond_false_right]
  generalize t.Hands[i] = x
  obtain ⟨busy, boss, owed⟩ := x
  simp only
  cases hc : (!(decide (boss ≥ -1) && decide (boss ≤ (t.Hands.length : Int) - 1)) || !(decide (owed ≥ 0) && decide (owed ≤ 16777215))) with
  | true => exact .inr ⟨1, by decide, rfl⟩
  | false =>
    have ho : 0 ≤ owed ∧ owed ≤ 16777215 := by simp at hc; omega
    simp only [ho, and_self, and_true, bne, cond_false]
    cases boss == (i : Int) <;> cases (i : Int) == 0 <;> cases boss == (-1 : Int) <;> cases busy <;> cases decide (owed > 0) <;> first | exact .inl rfl | exact .inr ⟨4, by decide, rfl⟩
theorem word_eq {t : Over} {i : Nat} (hi : i < t.Way.length) (hn : t.Hands.length ≤ 6) (hn1 : 1 ≤ t.Hands.length) : partref_wordsErr_B0 (t.Hands.length : Int) t.Way 1 i () = over_Check_B2 t i () := by
  unfold partref_wordsErr_B0 over_Check_B2
  have e64 : w64 ((t.Hands.length : Int) - 1) = (t.Hands.length : Int) - 1 := w64_id (by omega) (by omega)
  have hx : lat t.Way (i : Int) = some t.Way[i] := by rw [lat_nat]; simp [hi]
  simp only [hx, oin_eq, e64, Option.bind_some, cond_some, Bool.cond_true_left, Bool.cond_false_right]
  generalize t.Way[i] = x
  obtain ⟨fr, to, at'⟩ := x
  simp only
  have a1 : (decide (min fr to < 0) || decide (max fr to ≥ (t.Hands.length : Int))) = (!(decide (fr ≥ 0) && decide (fr ≤ (t.Hands.length : Int) - 1)) || !(decide (to ≥ 0) && decide (to ≤ (t.Hands.length : Int) - 1))) := by
    rw [Bool.eq_iff_iff]; simp <;> omega
  have a2 : (fr == to || decide (at' < 0) || decide (at' > 1)) = (fr == to || !(decide (at' ≥ 0) && decide (at' ≤ 1))) := by
    rw [Bool.eq_iff_iff]; simp <;> omega
  rw [a1, show decide ((1 : Int) > 1) = false from by decide, cond_false, a2]
theorem word_ok {t : Over} {i : Nat} (hi : i < t.Way.length) (hn : t.Hands.length ≤ 6) (hn1 : 1 ≤ t.Hands.length) : (over_Check_B2 t i () = some (.go ()) ∧ 0 ≤ t.Way[i].From ∧ t.Way[i].From < t.Hands.length ∧ 0 ≤ t.Way[i].To ∧ t.Way[i].To < t.Hands.length) ∨ ∃ c, c ≠ 0 ∧ over_Check_B2 t i () = some (.ret c) := by
  unfold over_Check_B2
  have e64 : w64 ((t.Hands.length : Int) - 1) = (t.Hands.length : Int) - 1 := w64_id (by omega) (by omega)
  have hx : lat t.Way (i : Int) = some t.Way[i] := by rw [lat_nat]; simp [hi]
  simp only [hx, oin_eq, e64, Option.bind_some, cond_some, Bool.cond_true_left, Bool.cond_false_right]
  generalize t.Way[i] = x
  obtain ⟨fr, to, at'⟩ := x
  simp only
  cases hc : (!(decide (fr ≥ 0) && decide (fr ≤ (t.Hands.length : Int) - 1)) || !(decide (to ≥ 0) && decide (to ≤ (t.Hands.length : Int) - 1))) with
  | true => exact .inr ⟨1, by decide, rfl⟩
  | false =>
    have ho : 0 ≤ fr ∧ fr < t.Hands.length ∧ 0 ≤ to ∧ to < t.Hands.length := by simp at hc; omega
    cases (fr == to || !(decide (at' ≥ 0) && decide (at' ≤ 1))) with
    | true => exact .inr ⟨4, by decide, rfl⟩
    | false => exact .inl ⟨rfl, ho⟩
theorem check_eq (t : Over) : partref_OverErr t = over_Check t := by
  unfold partref_OverErr over_Check
  rw [oin_eq]
  simp only [cond_some, Option.bind_some, Bool.cond_true_left]
  have a1 : (decide ((t.Hands.length : Int) < 1) || decide ((t.Hands.length : Int) > 6)) = !(decide ((t.Hands.length : Int) ≥ 1) && decide ((t.Hands.length : Int) ≤ 6)) := by
    rw [Bool.eq_iff_iff]; simp <;> omega
  rw [a1]
  cases hc : (!(decide ((t.Hands.length : Int) ≥ 1) && decide ((t.Hands.length : Int) ≤ 6))) with
  | true => rfl
  | false =>
    have hn : 1 ≤ t.Hands.length ∧ t.Hands.length ≤ 6 := by simp at hc; omega
    rw [cond_false, cond_false, rangeM_congr t.Hands.length 0 () fun j _ _ hj => hand_eq (by omega) hn.2]
    unfold partref_wordsErr
    congr 1
    funext _
    rw [rangeM_congr t.Way.length 0 () fun j _ _ hj => word_eq (t := t) (by omega) hn.2 hn.1]
    cases decide ((t.Way.length : Int) > 100) with
    | true => rfl
    | false =>
      try rw [cond_false, cond_false]
      generalize rangeM _ t.Way.length 0 () = o
      cases o with
      | none => rfl
      | some o => cases o <;> rfl
theorem check_law (t : Over) : Tot (over_Check t) fun c => c = 0 → GoodO t := by
  unfold over_Check
  rw [oin_eq]
  simp only [Option.bind_some]
  rw [Tot.ite_iff]
  refine ⟨fun _ => Tot.some_iff.2 fun h => (by cases h), fun hc => ?_⟩
  have hn : 1 ≤ t.Hands.length ∧ t.Hands.length ≤ 6 := by simp at hc; omega
  rw [Tot.andThen_iff]
  refine Tot.rangeM (fun i _ => ∀ (j : Nat) h, j < i → t.Hands[j]? = some h → 0 ≤ h.Owed ∧ h.Owed ≤ 16777215) (fun j h hj => by omega) ?_ ?_
  · intro i _ _ hi hI
    have hi' : i < t.Hands.length := by omega
    rcases hand_ok hi' hn.2 with ⟨e, h1⟩ | ⟨c, h0, e⟩
    · rw [e]
      refine Tot.some_iff.2 fun j h hj hh => ?_
      by_cases k : j = i
      · subst k; rw [List.getElem?_eq_getElem hi'] at hh; obtain rfl := Option.some.inj hh; exact h1
      · exact hI j h (by omega) hh
    · rw [e]
      exact Tot.some_iff.2 fun k => absurd k h0
  · intro _ hI
    rw [Nat.zero_add] at hI
    rw [Tot.inl_iff, Tot.ite_iff]
    refine ⟨fun _ => Tot.some_iff.2 fun h => (by cases h), fun hw => ?_⟩
    have hw' : t.Way.length ≤ 100 := by have := of_decide_eq_false hw; omega
    rw [Tot.andThen_iff]
    refine Tot.rangeM (fun i _ => ∀ (j : Nat) w, j < i → t.Way[j]? = some w → 0 ≤ w.From ∧ w.From < t.Hands.length ∧ 0 ≤ w.To ∧ w.To < t.Hands.length) (fun j h hj => by omega) ?_ ?_
    · intro i _ _ hi hJ
      have hi' : i < t.Way.length := by omega
      rcases word_ok hi' hn.2 hn.1 with ⟨e, h1⟩ | ⟨c, h0, e⟩
      · rw [e]
        refine Tot.some_iff.2 fun j h hj hh => ?_
        by_cases k : j = i
        · subst k; rw [List.getElem?_eq_getElem hi'] at hh; obtain rfl := Option.some.inj hh; exact h1
        · exact hJ j h (by omega) hh
      · rw [e]
        exact Tot.some_iff.2 fun k => absurd k h0
    · intro _ hJ
      rw [Nat.zero_add] at hJ
      refine Tot.some_iff.2 fun _ => ⟨hn.1, hn.2, fun i h hh => hI i h (List.getElem?_eq_some_iff.1 hh).1 hh, hw', fun i w hh => hJ i w (List.getElem?_eq_some_iff.1 hh).1 hh⟩
theorem same_eq (a b : Over) : partref_SameOver a b = some (decide (a = b)) := by
  unfold partref_SameOver
  simp only [eq_slices_Equal_api_Hand_api_Hand, eq_slices_Equal_api_Word_api_Word, Option.bind_some, cond_some, Bool.cond_false_right]
  congr 1
  rw [Bool.eq_iff_iff]
  cases a; cases b
  simp
theorem oclone_eq {t : Over} (h : GoodO t) : over_clone t = some t := by
  unfold over_clone
  rw [eq_slices_Clone_api_Hand_api_Hand (by have := h.n6; omega), Option.bind_some, Let_eq]
  show (slices_Clone_api_Word_api_Word t.Way).bind _ = _
  rw [eq_slices_Clone_api_Word_api_Word (by have := h.way; omega)]
  rfl
theorem give_eq {t : Over} {p q : Int} (hc : over_Check t = some 0) (h : GoodO t) (hp : 0 ≤ p ∧ p < t.Hands.length) (hq : 0 ≤ q ∧ q < t.Hands.length) (hne : p ≠ q) : ∃ r, over_Give t p q = some r ∧ partref_OverGive t p q = some r := by
  have h6 := h.n6; have hw := h.way
  have e64 : w64 ((t.Hands.length : Int) - 1) = (t.Hands.length : Int) - 1 := w64_id (by omega) (by omega)
  unfold over_Give partref_OverGive
  rw [hc, oclone_eq h, eq_slices_Clone_api_Hand_api_Hand (by omega), eq_slices_Clone_api_Word_api_Word (by omega)]
  simp only [oin_eq, e64, Option.bind_some, bne_self_eq_false, cond_false, cond_some, Bool.cond_true_left]
  rw [show (!(decide (p ≥ 0) && decide (p ≤ (t.Hands.length : Int) - 1)) || !(decide (q ≥ 0) && decide (q ≤ (t.Hands.length : Int) - 1)) || p == q) = false from by simp; omega, cond_false]
  obtain ⟨p, rfl⟩ := int_nat hp.1
  have hl : lat t.Hands (p : Int) = some t.Hands[p] := by rw [lat_nat]; simp [show p < t.Hands.length by omega]
  have hroom : room t.Way ([({ Word.zero with From := (p : Int), To := q, At := (1 : Int) } : Word)] : List Word) = some () := room_ok (by simp; omega)
  simp only [hl, hroom, Let_eq, Option.bind_some]
  cases !t.Hands[p].Busy with
  | true => exact ⟨_, rfl, rfl⟩
  | false =>
    cases (t.Hands[p].Owed == 16777215 || (t.Way.length : Int) == 100) with
    | true => exact ⟨_, rfl, rfl⟩
    | false => exact ⟨_, rfl, rfl⟩
theorem give_arg {t : Over} {p q : Int} (hc : over_Check t = some 0) (h : GoodO t) (hb : ¬ (0 ≤ p ∧ p < t.Hands.length ∧ 0 ≤ q ∧ q < t.Hands.length ∧ p ≠ q)) : over_Give t p q = some (Over.zero, 1) := by
  have h6 := h.n6; have h1 := h.n1
  have e64 : w64 ((t.Hands.length : Int) - 1) = (t.Hands.length : Int) - 1 := w64_id (by omega) (by omega)
  unfold over_Give
  rw [hc]
  simp only [oin_eq, e64, Option.bind_some, bne_self_eq_false, cond_false, cond_some, Bool.cond_true_left]
  rw [show (!(decide (p ≥ 0) && decide (p ≤ (t.Hands.length : Int) - 1)) || !(decide (q ≥ 0) && decide (q ≤ (t.Hands.length : Int) - 1)) || p == q) = true from by simp; omega, cond_true]
  rfl
theorem thanks_eq {t : Over} {p : Nat} (hp : p < t.Hands.length) (hw : t.Way.length ≤ 200) (h0 : ∀ h, t.Hands[p]? = some h → 0 ≤ h.Owed) : ((over_detach t (p : Int)).bind fun r => some ({ r.2.2 with Hands := r.1, Way := r.2.1 } : Over)) = partref_overThanks t (p : Int) := by
  have hx : lat t.Hands (p : Int) = some t.Hands[p] := by rw [lat_nat]; simp [hp]
  have h0' := h0 t.Hands[p] (by simp [hp])
  unfold over_detach partref_overThanks
  simp only [hx, Option.bind_some, cond_some, Bool.cond_true_left, Bool.cond_false_right]
  generalize t.Hands[p] = x at h0'
  obtain ⟨busy, boss, owed⟩ := x
  simp only at h0' ⊢
  have hroom : room t.Way ([({ Word.zero with From := (p : Int), To := boss } : Word)] : List Word) = some () := room_ok (by simp; omega)
  rw [hroom]
  have a1 : (((p : Int) != 0 && boss != -1) && !busy && owed == 0) = !((p : Int) == 0 || boss == -1 || busy || decide (owed > 0)) := by
    have : decide (owed > 0) = !(owed == 0) := by rw [Bool.eq_iff_iff]; simp <;> omega
    rw [this]
    simp only [bne]
    cases (p : Int) == 0 <;> cases boss == (-1 : Int) <;> cases busy <;> cases owed == (0 : Int) <;> rfl
  rw [a1]
  cases ((p : Int) == 0 || boss == -1 || busy || decide (owed > 0)) <;> rfl
theorem thanks_some {t : Over} {p : Nat} (hp : p < t.Hands.length) (hw : t.Way.length ≤ 200) : ∃ r, partref_overThanks t (p : Int) = some r := by
  have hx : lat t.Hands (p : Int) = some t.Hands[p] := by rw [lat_nat]; simp [hp]
  unfold partref_overThanks
  simp only [hx, Option.bind_some, cond_some, Bool.cond_false_right]
  have hroom : ∀ b, room t.Way ([({ Word.zero with From := (p : Int), To := b } : Word)] : List Word) = some () := fun b => room_ok (by simp; omega)
  rw [hroom]
  cases ((p : Int) != 0 && t.Hands[p].Boss != -1 && !t.Hands[p].Busy && t.Hands[p].Owed == 0) with
  | true => exact ⟨_, rfl⟩
  | false => exact ⟨_, rfl⟩
theorem take_eq {t : Over} {k : Nat} (hc : over_Check t = some 0) (h : GoodO t) (hk : k < t.Way.length) : ∃ o, over_Take t (k : Int) = some (o, 0) ∧ partref_OverTake t (k : Int) = some o := by
  have h6 := h.n6; have hw := h.way
  have e64 : w64 ((t.Way.length : Int) - 1) = (t.Way.length : Int) - 1 := w64_id (by omega) (by omega)
  have e65 : w64 ((k : Int) + 1) = ((k + 1 : Nat) : Int) := by rw [w64_id (by omega) (by omega)]; rfl
  have hx : lat t.Way (k : Int) = some t.Way[k] := by rw [lat_nat]; simp [hk]
  obtain ⟨f1, f2, f3, f4⟩ := h.words k t.Way[k] (by simp [hk])
  unfold over_Take partref_OverTake
  rw [hc, oclone_eq h, eq_slices_Clone_api_Hand_api_Hand (by omega)]
  simp only [oin_eq, e64, Option.bind_some, bne_self_eq_false, cond_false, hx]
  rw [show (!(decide ((k : Int) ≥ 0) && decide ((k : Int) ≤ (t.Way.length : Int) - 1))) = false from by simp; omega, cond_false, eq_slices_Delete_api_Word_api_Word hk (by omega), Option.bind_some]
  have c1 : cutL t.Way 0 (k : Int) = some (t.Way.take k) := by unfold cutL; rw [if_pos (by omega)]; simp
  have c2 : cutL t.Way (w64 ((k : Int) + 1)) (t.Way.length : Int) = some (t.Way.drop (k + 1)) := by
    rw [e65]; unfold cutL; rw [if_pos (by omega)]
    simp only [Int.toNat_natCast, Option.some.injEq]
    rw [List.take_of_length_le (by simp)]
  rw [c1, c2]
  simp only [Option.bind_some]
  rw [eq_slices_Concat_api_Word_api_Word (by simp; omega), Option.bind_some, ← List.eraseIdx_eq_take_drop_succ]
  have hlen : (t.Way.eraseIdx k).length ≤ 100 := by rw [List.length_eraseIdx]; split <;> omega
  generalize t.Way.eraseIdx k = way at hlen
  generalize t.Way[k] = x at f1 f2 f3 f4
  obtain ⟨fr, to, at'⟩ := x
  simp only at f1 f2 f3 f4 ⊢
  obtain ⟨p, rfl⟩ := int_nat f3
  have hp : p < t.Hands.length := by omega
  rw [Let_eq]
  simp only
  have hl : lat t.Hands (p : Int) = some t.Hands[p] := by rw [lat_nat]; simp [hp]
  obtain ⟨g1, g2⟩ := h.hands p t.Hands[p] (by simp [hp])
  rw [hl]
  simp only [Option.bind_some]
  generalize t.Hands[p] = y at g1 g2 hl ⊢
  obtain ⟨busy, boss, owed⟩ := y
  simp only at g1 g2 ⊢
  have hset : ∀ z : Hand, lat (t.Hands.set p z) (p : Int) = some z := fun z => by rw [lat_nat, List.getElem?_set_self hp]
  cases at' == (0 : Int) with
  | true =>
    simp only [cond_true, Let_eq, Int.toNat_natCast]
    have e66 : w64 (owed - 1) = owed - 1 := w64_id (by omega) (by omega)
    have key : ∀ z : Hand, 0 ≤ z.Owed → ((over_detach (⟨t.Hands.set p z, way⟩ : Over) (p : Int)).bind fun r => some ({ r.2.2 with Hands := r.1, Way := r.2.1 } : Over)) = partref_overThanks (⟨t.Hands.set p z, way⟩ : Over) (p : Int) := fun z hz =>
      thanks_eq (by simpa using hp) (by simp only; omega) fun h hh => by simp only [List.getElem?_set_self hp] at hh; obtain rfl := Option.some.inj hh; exact hz
    have conv : ∀ z : Hand, 0 ≤ z.Owed → ∃ o, ((over_detach (⟨t.Hands.set p z, way⟩ : Over) (p : Int)).bind fun r50 => some (({ r50.2.2 with Hands := r50.1, Way := r50.2.1 } : Over), (0 : Int))) = some (o, 0) ∧ ((partref_overThanks (⟨t.Hands.set p z, way⟩ : Over) (p : Int)).bind fun r => some r) = some o := fun z hz => by
      have hk := key z hz
      obtain ⟨r, hr⟩ := thanks_some (t := ⟨t.Hands.set p z, way⟩) (p := p) (by simpa using hp) (by simp only; omega)
      rw [hr] at hk ⊢
      refine ⟨r, ?_, rfl⟩
      generalize over_detach (⟨t.Hands.set p z, way⟩ : Over) (p : Int) = o at hk
      cases o with
      | none => cases hk
      | some o =>
        rw [Option.bind_some] at hk ⊢
        rw [Option.some.inj hk]
    by_cases ho : owed > 0
    · rw [show decide (owed > 0) = true from decide_eq_true ho, cond_true, e66, show max (owed - 1) 0 = owed - 1 by omega]
      simp only [Option.bind_some]
      exact conv ⟨busy, boss, owed - 1⟩ (by simp only; omega)
    · have h0 : owed = 0 := by omega
      subst h0
      rw [show decide ((0 : Int) > 0) = false from by decide, cond_false, e66, show max ((0 : Int) - 1) 0 = 0 by omega]
      simp only [Option.bind_some]
      have hs : t.Hands.set p ⟨busy, boss, 0⟩ = t.Hands := by
        have hl' : t.Hands[p]? = some ⟨busy, boss, 0⟩ := by rw [← lat_nat]; exact hl
        apply List.ext_getElem?
        intro i
        by_cases e : p = i
        · subst e; rw [List.getElem?_set_self hp, hl']
        · rw [List.getElem?_set_ne e]
      have := conv ⟨busy, boss, 0⟩ (by simp)
      rw [hs] at this ⊢
      exact this
  | false =>
    simp only [cond_false, Let_eq, Int.toNat_natCast, hset, Option.bind_some, cond_some, Bool.cond_false_right]
    have hroom : room way ([({ Word.zero with From := (p : Int), To := fr } : Word)] : List Word) = some () := room_ok (by simp; omega)
    rw [hroom]
    cases ((p : Int) != 0 && boss == -1) <;> exact ⟨_, rfl, rfl⟩
theorem take_arg {t : Over} {k : Int} (hc : over_Check t = some 0) (h : GoodO t) (hb : ¬ (0 ≤ k ∧ k < t.Way.length)) : over_Take t k = some (Over.zero, 6) := by
  have hw := h.way
  unfold over_Take
  rw [hc]
  simp only [oin_eq, Option.bind_some, bne_self_eq_false, cond_false]
  by_cases h0 : t.Way.length = 0
  · rw [h0]
    rw [show (!(decide (k ≥ 0) && decide (k ≤ w64 (((0 : Nat) : Int) - 1)))) = true from by rw [w64_id (by omega) (by omega)]; simp; omega, cond_true]
    rfl
  · rw [show (!(decide (k ≥ 0) && decide (k ≤ w64 ((t.Way.length : Int) - 1)))) = true from by rw [w64_id (by omega) (by omega)]; simp; omega, cond_true]
    rfl
theorem rest_eq {t : Over} {p : Nat} (hc : over_Check t = some 0) (h : GoodO t) (hp : p < t.Hands.length) : ∃ r, over_Rest t (p : Int) = some r ∧ partref_OverRest t (p : Int) = some r := by
  have h6 := h.n6; have hw := h.way
  have e64 : w64 ((t.Hands.length : Int) - 1) = (t.Hands.length : Int) - 1 := w64_id (by omega) (by omega)
  have hl : lat t.Hands (p : Int) = some t.Hands[p] := by rw [lat_nat]; simp [hp]
  obtain ⟨g1, g2⟩ := h.hands p t.Hands[p] (by simp [hp])
  unfold over_Rest partref_OverRest
  rw [hc, oclone_eq h, eq_slices_Clone_api_Hand_api_Hand (by omega), eq_slices_Clone_api_Word_api_Word (by omega)]
  simp only [oin_eq, e64, Option.bind_some, bne_self_eq_false, cond_false, hl]
  rw [show (!(decide ((p : Int) ≥ 0) && decide ((p : Int) ≤ (t.Hands.length : Int) - 1))) = false from by simp; omega, cond_false]
  simp only [Let_eq, hl, Option.bind_some, Int.toNat_natCast]
  generalize t.Hands[p] = y at g1 g2
  obtain ⟨busy, boss, owed⟩ := y
  simp only at g1 g2 ⊢
  have key := thanks_eq (t := ⟨t.Hands.set p ⟨false, boss, owed⟩, t.Way⟩) (p := p) (by simpa using hp) (by simp only; omega) fun h hh => by simp only [List.getElem?_set_self hp] at hh; obtain rfl := Option.some.inj hh; exact g1
  cases busy with
  | false => exact ⟨_, rfl, rfl⟩
  | true =>
    simp only [Bool.not_true, cond_false]
    cases (t.Way.length : Int) == 100 with
    | true => exact ⟨_, rfl, rfl⟩
    | false =>
      rw [cond_false, cond_false]
      obtain ⟨r, hr⟩ := thanks_some (t := ⟨t.Hands.set p ⟨false, boss, owed⟩, t.Way⟩) (p := p) (by simpa using hp) (by simp only; omega)
      rw [hr] at key
      refine ⟨(r, 0), ?_, ?_⟩
      · show (over_detach (⟨t.Hands.set p ⟨false, boss, owed⟩, t.Way⟩ : Over) (p : Int)).bind _ = _
        generalize over_detach _ _ = o at key
        cases o with
        | none => cases key
        | some o =>
          rw [Option.bind_some] at key ⊢
          rw [Option.some.inj key]
      · show (partref_overThanks (⟨t.Hands.set p ⟨false, boss, owed⟩, t.Way⟩ : Over) (p : Int)).bind _ = _
        rw [hr]; rfl
theorem rest_arg {t : Over} {p : Int} (hc : over_Check t = some 0) (h : GoodO t) (hb : ¬ (0 ≤ p ∧ p < t.Hands.length)) : over_Rest t p = some (Over.zero, 1) := by
  have h6 := h.n6; have h1 := h.n1
  have e64 : w64 ((t.Hands.length : Int) - 1) = (t.Hands.length : Int) - 1 := w64_id (by omega) (by omega)
  unfold over_Rest
  rw [hc]
  simp only [oin_eq, e64, Option.bind_some, bne_self_eq_false, cond_false]
  rw [show (!(decide (p ≥ 0) && decide (p ≤ (t.Hands.length : Int) - 1))) = true from by simp; omega, cond_true]
  rfl
theorem new_arg {n : Int} {fu : Nat} (h : n < 1 ∨ n > 6) : over_New fu n = some (Over.zero, 1) := by
  unfold over_New
  simp only [oin_eq, Option.bind_some]
  rw [show (!(decide (n ≥ 1) && decide (n ≤ 6))) = true from by simp; omega, cond_true]
  rfl
theorem new_eq {n : Nat} {fu : Nat} (h1 : 1 ≤ n) (h6 : n ≤ 6) (hf : 10 ≤ fu) : over_New fu (n : Int) = some (⟨(List.replicate n (⟨false, -1, 0⟩ : Hand)).set 0 ⟨true, -1, 0⟩, []⟩, 0) ∧
    slices_Repeat_api_Hand_api_Hand fu [({ Hand.zero with Boss := (-1 : Int) } : Hand)] (n : Int) = some (List.replicate n (⟨false, -1, 0⟩ : Hand)) := by
  have hr : slices_Repeat_api_Hand_api_Hand fu [({ Hand.zero with Boss := (-1 : Int) } : Hand)] (n : Int) = some (List.replicate n (⟨false, -1, 0⟩ : Hand)) := eq_slices_Repeat_api_Hand_api_Hand h1 (by omega) (by omega)
  refine ⟨?_, hr⟩
  unfold over_New
  simp only [oin_eq, Option.bind_some]
  rw [show (!(decide ((n : Int) ≥ 1) && decide ((n : Int) ≤ 6))) = false from by simp; omega, cond_false, hr, Option.bind_some]
  have h0 : lat (List.replicate n (⟨false, -1, 0⟩ : Hand)) 0 = some ⟨false, -1, 0⟩ := by
    rw [show (0 : Int) = ((0 : Nat) : Int) from rfl, lat_nat, List.getElem?_replicate, if_pos (by omega)]
  rw [h0]
  rfl
theorem bad_all {t : Over} {c : Int} (hc : over_Check t = some c) (h0 : c ≠ 0) (p q k : Int) : over_Give t p q = some (Over.zero, c) ∧ over_Take t k = some (Over.zero, c) ∧ over_Rest t p = some (Over.zero, c) ∧ over_Done t = some (false, c) := by
  have hb : (c != 0) = true := by simpa using h0
  refine ⟨?_, ?_, ?_, ?_⟩
  · unfold over_Give; rw [hc, Option.bind_some, hb, cond_true]; rfl
  · unfold over_Take; rw [hc, Option.bind_some, hb, cond_true]; rfl
  · unfold over_Rest; rw [hc, Option.bind_some, hb, cond_true]; rfl
  · unfold over_Done; rw [hc, Option.bind_some, hb, cond_true]
theorem done_eq {t : Over} (hc : over_Check t = some 0) (h : GoodO t) : ∃ x, lat t.Hands 0 = some x ∧ over_Done t = some (!x.Busy && x.Owed == 0, 0) := by
  have h1 := h.n1
  have hl : lat t.Hands 0 = some t.Hands[0] := by rw [show (0 : Int) = ((0 : Nat) : Int) from rfl, lat_nat]; simp
  refine ⟨_, hl, ?_⟩
  unfold over_Done
  rw [hc]
  simp only [Option.bind_some, bne_self_eq_false, cond_false, hl, cond_some, Bool.cond_false_right]
theorem new_part (n : Int) : ∃ r, over_New 100 n = some r ∧ ((bif decide (n < (1 : Int)) then (some true) else some (decide (n > (6 : Int)))).bind fun y65 =>
      bif y65 then ((partref_SameOver r.1 Over.zero).bind fun r70 => (bif !r70 then (some true) else some (r.2 != (1 : Int))).bind fun y75 => bif y75 then (some (.inr false)) else some (.inl ())) else
      (slices_Repeat_api_Hand_api_Hand 100 ([({ Hand.zero with Boss := (-1 : Int) } : Hand)] : List Hand) n).bind fun r82 =>
      (lat r82 (0 : Int)).bind fun x88 => Let (r82.set (0 : Int).toNat ({ x88 with Busy := true } : Hand)) fun p91 =>
      (partref_SameOver r.1 ({ Over.zero with Hands := p91 } : Over)).bind fun r93 => (bif !r93 then (some true) else some (r.2 != (0 : Int))).bind fun y98 => bif y98 then (some (.inr false)) else some (.inl ())) = (some (.inl ()) : Option (Unit ⊕ Bool)) := by
  simp only [same_eq, Option.bind_some, cond_some, Bool.cond_true_left]
  by_cases hn : n < 1 ∨ n > 6
  · refine ⟨_, new_arg hn, ?_⟩
    rw [show (decide (n < 1) || decide (n > 6)) = true from by simp; omega]
    simp
  · obtain ⟨m, rfl⟩ := int_nat (show 0 ≤ n by omega)
    obtain ⟨e1, e2⟩ := new_eq (n := m) (fu := 100) (by omega) (by omega) (by omega)
    refine ⟨_, e1, ?_⟩
    rw [show (decide ((m : Int) < 1) || decide ((m : Int) > 6)) = false from by simp; omega, cond_false, e2, Option.bind_some]
    have h0 : lat (List.replicate m (⟨false, -1, 0⟩ : Hand)) 0 = some ⟨false, -1, 0⟩ := by
      rw [show (0 : Int) = ((0 : Nat) : Int) from rfl, lat_nat, List.getElem?_replicate, if_pos (by omega)]
    rw [h0, Option.bind_some, Let_eq]
    have : (({ Over.zero with Hands := (List.replicate m (⟨false, -1, 0⟩ : Hand)).set (0 : Int).toNat ({ (⟨false, -1, 0⟩ : Hand) with Busy := true } : Hand) } : Over)) = ⟨(List.replicate m (⟨false, -1, 0⟩ : Hand)).set 0 ⟨true, -1, 0⟩, []⟩ := rfl
    rw [this]
    simp
theorem take_part {t : Over} (k : Int) (hc : over_Check t = some 0) (h : GoodO t) : ∃ r, over_Take t k = some r ∧ ((bif decide (k < (0 : Int)) then (some true) else some (decide (k ≥ (t.Way.length : Int)))).bind fun y177 =>
      bif y177 then ((partref_SameOver r.1 Over.zero).bind fun r182 => (bif !r182 then (some true) else some (r.2 != (6 : Int))).bind fun y187 => bif y187 then (some (.inr false)) else some (.inl ())) else
      (partref_OverTake t k).bind fun r192 => Let (r192.Hands, r192.Way) fun (l202, l204) =>
      (partref_SameOver r.1 ({ r192 with Hands := l202, Way := l204 } : Over)).bind fun r213 => (bif !r213 then (some true) else some (r.2 != (0 : Int))).bind fun y218 => bif y218 then (some (.inr false)) else some (.inl ())) = (some (.inl ()) : Option (Unit ⊕ Bool)) := by
  simp only [same_eq, Option.bind_some, cond_some, Bool.cond_true_left]
  by_cases hn : 0 ≤ k ∧ k < t.Way.length
  · obtain ⟨m, rfl⟩ := int_nat hn.1
    obtain ⟨o, e1, e2⟩ := take_eq (k := m) hc h (by omega)
    refine ⟨_, e1, ?_⟩
    rw [show (decide ((m : Int) < 0) || decide ((m : Int) ≥ (t.Way.length : Int))) = false from by simp; omega, cond_false, e2, Option.bind_some, Let_eq]
    simp
  · refine ⟨_, take_arg hc h hn, ?_⟩
    rw [show (decide (k < 0) || decide (k ≥ (t.Way.length : Int))) = true from by simp; omega]
    simp
theorem over_law (t : Over) (n p q k : Int) (_ : Rng.ok t) (_ : Rng.ok n) (_ : Rng.ok p) (_ : Rng.ok q) (_ : Rng.ok k) : ∃ fu, partlaw_OverSays fu t n p q k = some true := by
  refine ⟨100, ?_⟩
  have hre := check_eq t
  obtain ⟨c, hc, hgood⟩ := check_law t
  rw [hc] at hre
  obtain ⟨rn, en, hn⟩ := new_part n
  unfold partlaw_OverSays
  rw [hre, Option.bind_some, en, Option.bind_some]
  by_cases h0 : c = 0
  · subst h0
    have h := hgood rfl
    obtain ⟨rt, et, ht⟩ := take_part k hc h
    obtain ⟨x, hx, hd⟩ := done_eq hc h
    rw [et, hd]
    by_cases hp : 0 ≤ p ∧ p < t.Hands.length
    · obtain ⟨m, rfl⟩ := int_nat hp.1
      obtain ⟨rr, e1, e2⟩ := rest_eq (p := m) hc h (by omega)
      by_cases hq : 0 ≤ q ∧ q < t.Hands.length ∧ (m : Int) ≠ q
      · obtain ⟨rg, e3, e4⟩ := give_eq (p := m) (q := q) hc h hp ⟨hq.1, hq.2.1⟩ hq.2.2
        rw [e3, e1]
        simp only [Option.bind_some]
        rw [hn, andThen_inl, hc]
        simp only [Option.bind_some, bne_self_eq_false, cond_false, hx, cond_some, Bool.cond_false_right, Bool.cond_true_left, Bool.or_false, Bool.false_and] at ht ⊢
        rw [ht, andThen_inl, e2, e4]
        rw [show (decide ((m : Int) < 0) || decide ((m : Int) ≥ (t.Hands.length : Int))) = false from by simp; omega, show (decide (q < 0) || decide (q ≥ (t.Hands.length : Int)) || (m : Int) == q) = false from by simp; omega]
        simp [same_eq]
      · have hg := give_arg (p := (m : Int)) (q := q) hc h fun k => hq ⟨k.2.2.1, k.2.2.2.1, k.2.2.2.2⟩
        rw [hg, e1]
        simp only [Option.bind_some]
        rw [hn, andThen_inl, hc]
        simp only [Option.bind_some, bne_self_eq_false, cond_false, hx, cond_some, Bool.cond_false_right, Bool.cond_true_left, Bool.or_false, Bool.false_and] at ht ⊢
        rw [ht, andThen_inl, e2]
        rw [show (decide ((m : Int) < 0) || decide ((m : Int) ≥ (t.Hands.length : Int))) = false from by simp; omega, show (decide (q < 0) || decide (q ≥ (t.Hands.length : Int)) || (m : Int) == q) = true from by simp; omega]
        simp [same_eq]
    · have hg := give_arg (p := p) (q := q) hc h fun k => hp ⟨k.1, k.2.1⟩
      have hr := rest_arg (p := p) hc h hp
      rw [hg, hr]
      simp only [Option.bind_some]
      rw [hn, andThen_inl, hc]
      simp only [Option.bind_some, bne_self_eq_false, cond_false, hx, cond_some, Bool.cond_false_right, Bool.cond_true_left, Bool.or_false, Bool.false_and] at ht ⊢
      rw [ht, andThen_inl]
      rw [show (decide (p < 0) || decide (p ≥ (t.Hands.length : Int))) = true from by simp; omega]
      simp [same_eq]
  · obtain ⟨b1, b2, b3, b4⟩ := bad_all hc h0 p q k
    rw [b1, b2, b3, b4]
    simp only [Option.bind_some]
    rw [hn, andThen_inl, hc]
    simp only [Option.bind_some, bne_self_eq_false, cond_false, show (c != 0) = true by simpa using h0, cond_true]
    simp [same_eq]
end Go.Proofs.Ytobikknjaomalaa
