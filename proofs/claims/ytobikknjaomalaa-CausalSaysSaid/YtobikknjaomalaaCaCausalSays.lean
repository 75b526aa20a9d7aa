/-
  CausalSays: the plain law.
-/
import Derived.Test.YtobikknjaomalaaCaLib
namespace Go.Proofs.Ytobikknjaomalaa
open Enc

theorem cin_eq (a b c : Int) : causal_in a b c = some (decide (a ≥ b) && decide (a ≤ c)) := by
  unfold causal_in; simp only [cond_some, Option.bind_some, Bool.cond_false_right]
theorem csame_eq (a b : Mail) : causal_same a b = partref_sameMail a b := rfl
def FromOk (m : Mail) : Prop := 0 ≤ m.From ∧ m.From ≤ 5
def sameB (a b : Mail) : Bool := (causal_same a b).getD false
theorem same_some {a b : Mail} (ha : FromOk a) (hb : FromOk b) : causal_same a b = some (sameB a b) := by
  have : ∃ r, causal_same a b = some r := by
    unfold causal_same
    obtain ⟨x, hx⟩ := vat_in a.At (i := a.From) ha.1 (by have := ha.2; omega)
    obtain ⟨y, hy⟩ := vat_in b.At (i := b.From) hb.1 (by have := hb.2; omega)
    rw [hx, hy]
    cases a.From == b.From <;> exact ⟨_, rfl⟩
  obtain ⟨r, hr⟩ := this
  unfold sameB; rw [hr]; rfl
theorem ready_eq (s : Vector Int 6) (m : Mail) : causal_deliverable s m = partref_MailReady s m := by
  unfold causal_deliverable partref_MailReady
  rw [rangeM_congr 6 0 () fun j _ _ hj => ?_]
  have hj6 : j < 6 := by omega
  unfold causal_deliverable_B0 partref_MailReady_B0
  rw [vat_lt _ hj6, vat_lt _ hj6]
  simp only [Option.bind_some, cond_some, Bool.cond_false_right, Bool.cond_true_left, bne]
  cases hb : ((j : Int) == m.From) with
  | true => cases (m.At[j] == w64 (s[j] + 1)) <;> rfl
  | false => cases decide (m.At[j] > s[j]) <;> rfl
theorem ready_tot (s : Vector Int 6) (m : Mail) : ∃ r, causal_deliverable s m = some r := by
  unfold causal_deliverable
  obtain ⟨o, ho, _⟩ := look_some (f := causal_deliverable_B0 s m) (k := 6) (i := 0) fun j _ hj => by
    have hj6 : j < 6 := by omega
    unfold causal_deliverable_B0
    rw [vat_lt _ hj6, vat_lt _ hj6]
    simp only [Option.bind_some, cond_some, Bool.cond_false_right]
    cases ((j : Int) == m.From && m.At[j] != w64 (s[j] + 1)) with
    | true => exact .inr ⟨_, rfl⟩
    | false =>
      cases ((j : Int) != m.From && decide (m.At[j] > s[j])) with
      | true => exact .inr ⟨_, rfl⟩
      | false => exact .inl rfl
  rw [ho]
  cases o with
  | inl u => exact ⟨_, rfl⟩
  | inr t => exact ⟨_, rfl⟩
def rdy (s : Vector Int 6) (m : Mail) : Bool := (causal_deliverable s m).getD false
theorem ready_some (s : Vector Int 6) (m : Mail) : causal_deliverable s m = some (rdy s m) := by
  obtain ⟨r, hr⟩ := ready_tot s m
  unfold rdy; rw [hr]; rfl
theorem min_eq (l : List Int) {fu : Nat} (h1 : 1 ≤ l.length) (h2 : l.length ≤ 10) (hf : 20 ≤ fu) : ∃ r, slices_Min_int_int fu l = some r ∧ (0 ≤ r ↔ ∀ x ∈ l, 0 ≤ x) := by
  unfold slices_Min_int_int
  rw [show decide ((l.length : Int) < 1) = false from decide_eq_false (by omega), cond_false, show (0 : Int) = ((0 : Nat) : Int) from rfl, lat_nat, List.getElem?_eq_getElem (by omega), Option.bind_some]
  obtain ⟨r, j, e, h3⟩ := min_loop (l := l) (body := slices_Min_int_int_B0 l) (by omega) (fun m i => rfl) fu 1 l[0] (by omega) (by omega)
  rw [show (1 : Int) = ((1 : Nat) : Int) from rfl, e]
  refine ⟨r, rfl, ?_⟩
  rw [h3]
  have e0 : l = l[0] :: l.drop 1 := by
    cases l with
    | nil => simp at h1
    | cons a l => rfl
  constructor
  · rintro ⟨a, b⟩ x hx
    rw [e0] at hx
    rcases List.mem_cons.1 hx with rfl | hx
    · exact a
    · exact b x hx
  · intro h
    exact ⟨h _ (List.getElem_mem _), fun x hx => h x (List.mem_of_mem_drop hx)⟩
theorem neg1_eq (l : List Int) : slices_ContainsFunc_int_int_formed_1 l = some (l.any fun x => decide (x < 0)) := by
  unfold slices_ContainsFunc_int_int_formed_1
  have : slices_IndexFunc_int_int_formed_1 l = some (idxI (fun x => decide (x < 0)) l) := by
    unfold slices_IndexFunc_int_int_formed_1
    refine index_loop _ fun j x hx => ?_
    unfold slices_IndexFunc_int_int_formed_1_B0 causal_formed_1
    rw [lat_nat, hx, Option.bind_some, Option.bind_some]
    cases decide (x < 0) <;> rfl
  rw [this, Option.bind_some]
  congr 1
  rw [Bool.eq_iff_iff, List.any_eq_true, decide_eq_true_eq]
  rcases idxI_cases (fun x : Int => decide (x < 0)) l with ⟨h, h1⟩ | ⟨i, y, h, h1, h2, _⟩
  · rw [h]
    exact ⟨fun k => by omega, fun ⟨x, hx, k⟩ => by have := h1 x hx; rw [this] at k; cases k⟩
  · rw [h]
    exact ⟨fun _ => ⟨y, List.mem_of_getElem? h1, h2⟩, fun _ => by omega⟩
theorem neg2_eq (l : List Int) : slices_ContainsFunc_int_int_Check_1 l = some (l.any fun x => decide (x < 0)) := neg1_eq l
theorem any_min {v : Vector Int 6} {r : Int} (h : 0 ≤ r ↔ ∀ x ∈ v.toList, 0 ≤ x) : (v.toList.any fun x => decide (x < 0)) = decide (r < 0) := by
  rw [Bool.eq_iff_iff, List.any_eq_true, decide_eq_true_eq]
  constructor
  · rintro ⟨x, hx, k⟩
    have hx0 : x < 0 := of_decide_eq_true k
    rcases Int.lt_or_le r 0 with h1 | h1
    · exact h1
    · have := h.1 h1 x hx; omega
  · intro h1
    refine Classical.byContradiction fun h2 => ?_
    have : 0 ≤ r := h.2 fun x hx => by
      rcases Int.lt_or_le x 0 with h3 | h3
      · exact absurd ⟨x, hx, decide_eq_true h3⟩ h2
      · exact h3
    omega
theorem formed_eq (m : Mail) {fu : Nat} (hf : 20 ≤ fu) : causal_formed m = partref_MailRight fu m := by
  unfold causal_formed partref_MailRight
  obtain ⟨r, e, h⟩ := min_eq m.At.toList (fu := fu) (by simp) (by simp) hf
  rw [cin_eq, neg1_eq, e, any_min h]
  simp only [Option.bind_some, cond_some, Bool.cond_false_right]
  have : (!decide (r < 0)) = decide (r ≥ 0) := by rw [Bool.eq_iff_iff]; simp
  rw [this]
theorem formed_tot (m : Mail) : ∃ b, causal_formed m = some b ∧ (b = true → FromOk m) := by
  unfold causal_formed
  rw [cin_eq, neg1_eq]
  simp only [Option.bind_some, cond_some, Bool.cond_false_right]
  by_cases h : FromOk m
  · obtain ⟨x, hx⟩ := vat_in m.At (i := m.From) h.1 (by have := h.2; omega)
    rw [hx]
    cases (decide (m.From ≥ 0) && decide (m.From ≤ 5) && !(m.At.toList.any fun x => decide (x < 0))) <;> exact ⟨_, rfl, fun _ => h⟩
  · have : (decide (m.From ≥ 0) && decide (m.From ≤ 5)) = false := by
      unfold FromOk at h
      simp <;> omega
    rw [this, Bool.false_and, cond_false]
    exact ⟨false, rfl, fun k => by cases k⟩
theorem check_eq (c : Causal) {fu : Nat} (hf : 20 ≤ fu) : causal_Check c = partref_CausalErr fu c := by
  obtain ⟨r, e, h⟩ := min_eq c.Seen.toList (fu := fu) (by simp) (by simp) hf
  unfold causal_Check partref_CausalErr
  rw [cin_eq, neg2_eq, e, any_min h]
  simp only [Option.bind_some, cond_some, Bool.cond_true_left]
  have a1 : (!(decide (c.Me ≥ 0) && decide (c.Me ≤ 5)) || decide (r < 0)) = (decide (c.Me < 0) || decide (c.Me > 5) || decide (r < 0)) := by
    rw [Bool.eq_iff_iff]; simp <;> omega
  rw [a1]
  rw [rangeM_congr c.Hold.length 0 () fun j _ _ hj => ?_]
  unfold causal_Check_B1 partref_CausalErr_B0
  congr 1
  funext x
  rw [formed_eq x hf, ready_eq]
  rfl
structure GoodC (c : Causal) : Prop where
  me : 0 ≤ c.Me ∧ c.Me ≤ 5
  len : c.Hold.length ≤ 40
  hold : ∀ m ∈ c.Hold, FromOk m
theorem contains_tot {l : List Mail} {x : Mail} (hx : FromOk x) (hl : ∀ m ∈ l, FromOk m) : slices_ContainsFunc_api_Mail_api_Mail_Check_2 l x = some (l.any fun m => sameB m x) := by
  unfold slices_ContainsFunc_api_Mail_api_Mail_Check_2
  have : slices_IndexFunc_api_Mail_api_Mail_Check_2 l x = some (idxI (fun m => sameB m x) l) := by
    unfold slices_IndexFunc_api_Mail_api_Mail_Check_2
    refine index_loop _ fun j y hy => ?_
    unfold slices_IndexFunc_api_Mail_api_Mail_Check_2_B0 causal_Check_2
    rw [lat_nat, hy, Option.bind_some, same_some (hl y (List.mem_of_getElem? hy)) hx]
    simp only [Option.bind_some]
    cases sameB y x <;> rfl
  rw [this, Option.bind_some]
  congr 1
  rw [Bool.eq_iff_iff, List.any_eq_true, decide_eq_true_eq]
  rcases idxI_cases (fun m => sameB m x) l with ⟨h, h1⟩ | ⟨i, y, h, h1, h2, _⟩
  · rw [h]
    exact ⟨fun k => by omega, fun ⟨x, hx, k⟩ => by have := h1 x hx; rw [this] at k; cases k⟩
  · rw [h]
    exact ⟨fun _ => ⟨y, List.mem_of_getElem? h1, h2⟩, fun _ => by omega⟩
theorem check_law (c : Causal) : Tot (causal_Check c) fun r => r = 0 → GoodC c := by
  unfold causal_Check
  rw [cin_eq, neg2_eq]
  simp only [Option.bind_some, cond_some, Bool.cond_true_left]
  rw [Tot.ite_iff]
  refine ⟨fun _ => Tot.some_iff.2 fun h => (by cases h), fun hc => ?_⟩
  have hme : 0 ≤ c.Me ∧ c.Me ≤ 5 := by simp at hc; omega
  rw [Tot.ite_iff]
  refine ⟨fun _ => Tot.some_iff.2 fun h => (by cases h), fun hw => ?_⟩
  have hw' : c.Hold.length ≤ 40 := by have := of_decide_eq_false hw; omega
  rw [Tot.andThen_iff]
  refine Tot.rangeM (fun i _ => ∀ (j : Nat) m, j < i → c.Hold[j]? = some m → FromOk m) (fun j m hj => by omega) ?_ ?_
  · intro i _ _ hi hI
    have hi' : i < c.Hold.length := by omega
    have hx : c.Hold[i]? = some c.Hold[i] := by simp [hi']
    unfold causal_Check_B1
    rw [lat_nat, hx, Option.bind_some]
    generalize c.Hold[i] = x at hx
    obtain ⟨b, eb, hb⟩ := formed_tot x
    rw [eb, Option.bind_some]
    have stop : ∀ (t : Int), t ≠ 0 → (t = 0 → GoodC c) := fun t h k => absurd k h
    cases b with
    | false =>
      simp only [Bool.not_false, cond_true, Option.bind_some]
      exact Tot.some_iff.2 (Tot.some_iff.1 (Tot.some_iff.2 (stop 4 (by decide))))
    | true =>
      have hF := hb rfl
      obtain ⟨u, hu⟩ := vat_in x.At (i := x.From) hF.1 (by have := hF.2; omega)
      obtain ⟨v, hv⟩ := vat_in c.Seen (i := x.From) hF.1 (by have := hF.2; omega)
      have hcut : cutL c.Hold 0 (i : Int) = some (c.Hold.take i) := by unfold cutL; rw [if_pos (by omega)]; simp
      have hct := contains_tot (l := c.Hold.take i) hF fun m hm => by
        obtain ⟨j, hj⟩ := List.getElem?_of_mem hm
        have hji : j < i := by have := (List.getElem?_eq_some_iff.1 hj).1; simp at this; omega
        rw [List.getElem?_take, if_pos hji] at hj
        exact hI j m hji hj
      rw [hu, hv, ready_some, hcut]
      simp only [Bool.not_true, cond_false, Option.bind_some, cond_some, Bool.cond_true_left, hct]
      rw [← cond_some, Tot.ite_iff]
      refine ⟨fun _ => Tot.some_iff.2 (stop 4 (by decide)), fun _ => Tot.some_iff.2 fun j m hj hm => ?_⟩
      by_cases k : j = i
      · subst k; rw [hx] at hm; obtain rfl := Option.some.inj hm; exact hF
      · exact hI j m (by omega) hm
  · intro _ hI
    rw [Nat.zero_add] at hI
    refine Tot.some_iff.2 fun _ => ⟨hme, hw', fun m hm => ?_⟩
    obtain ⟨j, hj⟩ := List.getElem?_of_mem hm
    exact hI j m (List.getElem?_eq_some_iff.1 hj).1 hj
theorem sameC_eq (a b : Causal) : partref_SameCausal a b = some (decide (a = b)) := by
  unfold partref_SameCausal
  simp only [eq_slices_Equal_api_Mail_api_Mail, Option.bind_some, cond_some, Bool.cond_false_right]
  congr 1
  rw [Bool.eq_iff_iff]
  cases a; cases b
  simp [and_assoc]
theorem cclone_eq {c : Causal} (h : GoodC c) : causal_clone c = some c := by
  unfold causal_clone
  rw [eq_slices_Clone_api_Mail_api_Mail (by have := h.len; omega)]
  rfl
/-- The first that is ready. -/
theorem idx2_eq (s : Causal) (l : List Mail) : slices_IndexFunc_api_Mail_api_Mail_Hear_2 l s = some (idxI (rdy s.Seen) l) := by
  unfold slices_IndexFunc_api_Mail_api_Mail_Hear_2
  refine index_loop _ fun j x hx => ?_
  unfold slices_IndexFunc_api_Mail_api_Mail_Hear_2_B0 causal_Hear_2
  rw [lat_nat, hx, Option.bind_some, ready_some]
  simp only [Option.bind_some]
  cases rdy s.Seen x <;> rfl
theorem idx2'_eq (s : Causal) (l : List Mail) : slices_IndexFunc_api_Mail_api_Mail_HearMail_2 l s = some (idxI (rdy s.Seen) l) := by
  unfold slices_IndexFunc_api_Mail_api_Mail_HearMail_2
  refine index_loop _ fun j x hx => ?_
  unfold slices_IndexFunc_api_Mail_api_Mail_HearMail_2_B0 partref_HearMail_2
  rw [lat_nat, hx, Option.bind_some, ← ready_eq, ready_some]
  simp only [Option.bind_some]
  cases rdy s.Seen x <;> rfl
/-- Both go on with the same mails. -/
theorem both {r9 : List Mail} {me : Int} (a b : Nat) : ∀ (fu : Nat) (all : List Mail) (k : Nat) (m : Mail) (seen : Vector Int 6) (h1 h2 : List Mail) (l : List Mail), all.length ≤ fu → all.length ≤ 50 → l.length + all.length ≤ 100 → all[k]? = some m → h1 = all.eraseIdx k → (∀ x ∈ all, FromOk x) →
    ∃ S H m' k' l', whileM causal_Hear_B0 (fu + 1 + a) (⟨me, seen, h1⟩, m, l) = some (.inl (⟨me, S, H⟩, m', l')) ∧ whileM (partref_HearMail_B0 r9) (fu + 2 + b) (all, (k : Int), ⟨me, seen, h2⟩, l) = some (.inl (H, k', ⟨me, S, r9⟩, l')) ∧ H.length ≤ 50 ∧ ∀ x ∈ H, FromOk x
  | 0, all, k, m, seen, h1, h2, l, hf, _, _, hk, _, _ => by
    have := (List.getElem?_eq_some_iff.1 hk).1; omega
  | fu + 1, all, k, m, seen, h1, h2, l, hf, h50, hl, hk, eh1, ho => by
    subst eh1
    have hkl := (List.getElem?_eq_some_iff.1 hk).1
    have hmF := ho m (List.mem_of_getElem? hk)
    obtain ⟨x, hx⟩ := vat_in seen (i := m.From) hmF.1 (by have := hmF.2; omega)
    have hel : (all.eraseIdx k).length + 1 = all.length := by rw [List.length_eraseIdx, if_pos hkl]; omega
    have hroom : room l ([m] : List Mail) = some () := room_ok (by simp; omega)
    have hdel := eq_slices_Delete_api_Mail_api_Mail (l := all) hkl (by omega)
    have hoE : ∀ y ∈ all.eraseIdx k, FromOk y := fun y hy => ho y (List.mem_of_mem_eraseIdx hy)
    have stepR : partref_HearMail_B0 r9 (all, (k : Int), ⟨me, seen, h2⟩, l) = some (.go (all.eraseIdx k, idxI (rdy (seen.setIfInBounds m.From.toNat (w64 (x + 1)))) (all.eraseIdx k), ⟨me, seen.setIfInBounds m.From.toNat (w64 (x + 1)), r9⟩, l ++ [m])) := by
      unfold partref_HearMail_B0
      simp only [show decide ((k : Int) ≥ 0) = true from decide_eq_true (by omega), cond_true, lat_nat, hk, Option.bind_some, hroom, hx, Let_eq, hdel, idx2'_eq]
    have stepP : causal_Hear_B0 (⟨me, seen, all.eraseIdx k⟩, m, l) = bif decide (idxI (rdy (seen.setIfInBounds m.From.toNat (w64 (x + 1)))) (all.eraseIdx k) < 0) then some (.brk (⟨me, seen.setIfInBounds m.From.toNat (w64 (x + 1)), all.eraseIdx k⟩, m, l ++ [m])) else
        (lat (all.eraseIdx k) (idxI (rdy (seen.setIfInBounds m.From.toNat (w64 (x + 1)))) (all.eraseIdx k))).bind fun x98 => (slices_Delete_api_Mail_api_Mail (all.eraseIdx k) (idxI (rdy (seen.setIfInBounds m.From.toNat (w64 (x + 1)))) (all.eraseIdx k)) (w64 (idxI (rdy (seen.setIfInBounds m.From.toNat (w64 (x + 1)))) (all.eraseIdx k) + 1))).bind fun r101 => some (.go (⟨me, seen.setIfInBounds m.From.toNat (w64 (x + 1)), r101⟩, x98, l ++ [m])) := by
      unfold causal_Hear_B0
      simp only [hx, Option.bind_some, Let_eq, hroom, idx2_eq]
    rw [show fu + 1 + 2 + b = (fu + 2 + b) + 1 by omega, show fu + 1 + 1 + a = (fu + 1 + a) + 1 by omega]
    unfold whileM
    rw [stepR, stepP]
    generalize seen.setIfInBounds m.From.toNat (w64 (x + 1)) = seen'
    generalize all.eraseIdx k = all' at hel hoE
    rcases idxI_cases (rdy seen') all' with ⟨e, _⟩ | ⟨i, y, e, hy, _, _⟩
    · rw [e, show decide ((-1 : Int) < 0) = true from rfl, cond_true]
      refine ⟨seen', all', m, -1, l ++ [m], rfl, ?_, by omega, hoE⟩
      rw [Option.bind_some, show fu + 2 + b = (fu + 1 + b) + 1 by omega]
      unfold whileM
      rfl
    · have hil := (List.getElem?_eq_some_iff.1 hy).1
      rw [e, show decide ((i : Int) < 0) = false from decide_eq_false (by omega), cond_false, lat_nat, hy, Option.bind_some, eq_slices_Delete_api_Mail_api_Mail hil (by omega), Option.bind_some, Option.bind_some, Option.bind_some]
      exact both a b fu all' i y seen' (all'.eraseIdx i) r9 (l ++ [m]) (by omega) (by omega) (by simp; omega) hy rfl hoE
def oldB (s : Vector Int 6) (m : Mail) : Bool := (causal_Hear_3_v2 m ⟨0, s, []⟩).getD false
theorem old_some {c : Causal} {m : Mail} (h : FromOk m) : causal_Hear_3_v2 m c = some (oldB c.Seen m) ∧ ∃ u v, vat m.At m.From = some u ∧ vat c.Seen m.From = some v ∧ oldB c.Seen m = decide (u ≤ v) := by
  obtain ⟨u, hu⟩ := vat_in m.At (i := m.From) h.1 (by have := h.2; omega)
  obtain ⟨v, hv⟩ := vat_in c.Seen (i := m.From) h.1 (by have := h.2; omega)
  have e : ∀ d : Causal, d.Seen = c.Seen → causal_Hear_3_v2 m d = some (decide (u ≤ v)) := fun d hd => by
    unfold causal_Hear_3_v2; rw [hu, hd, hv]; rfl
  have e2 : oldB c.Seen m = decide (u ≤ v) := by
    unfold oldB; rw [e ⟨0, c.Seen, []⟩ rfl]; rfl
  exact ⟨by rw [e c rfl, e2], u, v, hu, hv, e2⟩
theorem deletef_eq {c : Causal} {l : List Mail} {fu : Nat} (hl : l.length ≤ 100) (hf : 200 ≤ fu) (ho : ∀ m ∈ l, FromOk m) : slices_DeleteFunc_api_Mail_api_Mail_Hear_3_v2 fu l c = some (l.filter fun m => !oldB c.Seen m) := by
  have hix : slices_IndexFunc_api_Mail_api_Mail_Hear_3_v2 l c = some (idxI (oldB c.Seen) l) := by
    unfold slices_IndexFunc_api_Mail_api_Mail_Hear_3_v2
    refine index_loop _ fun j x hx => ?_
    unfold slices_IndexFunc_api_Mail_api_Mail_Hear_3_v2_B0
    rw [lat_nat, hx, Option.bind_some, (old_some (ho x (List.mem_of_getElem? hx))).1]
    simp only [Option.bind_some]
    cases oldB c.Seen x <;> rfl
  unfold slices_DeleteFunc_api_Mail_api_Mail_Hear_3_v2
  rw [hix, Option.bind_some]
  rcases idxI_cases (oldB c.Seen) l with ⟨e, h1⟩ | ⟨i, y, e, hy, h2, h3⟩
  · rw [e, show ((-1 : Int) == -1) = true from rfl, cond_true]
    congr 1
    exact (List.filter_eq_self.2 fun x hx => by rw [h1 x hx]; rfl).symm
  · have hil := (List.getElem?_eq_some_iff.1 hy).1
    have htk : (l.take i).filter (fun m => !oldB c.Seen m) = l.take i := List.filter_eq_self.2 fun x hx => by
      obtain ⟨j, hj⟩ := List.getElem?_of_mem hx
      have hji : j < i := by have := (List.getElem?_eq_some_iff.1 hj).1; simp at this; omega
      rw [List.getElem?_take, if_pos hji] at hj
      rw [h3 j x hji hj]; rfl
    have htk1 : (l.take (i + 1)).filter (fun m => !oldB c.Seen m) = l.take i := by
      rw [List.take_add_one, hy, List.filter_append, htk]
      simp [h2]
    rw [e, show ((i : Int) == -1) = false from by simp <;> omega, cond_false, w64_id (by omega) (by omega), show ((i : Int) + 1) = ((i + 1 : Nat) : Int) from rfl]
    obtain ⟨k, ys, e1, h4, h5, h6⟩ := delete_loop (l := l) (p := oldB c.Seen) (F := fun m => causal_Hear_3_v2 m c) (body := slices_DeleteFunc_api_Mail_api_Mail_Hear_3_v2_B0 c) (by omega) (fun x hx => (old_some (ho x hx)).1) (fun i j xs => rfl)
      fu i (i + 1) l (by omega) (by omega) (by omega) rfl htk1.symm (by rw [htk1]; simp <;> omega) rfl
    rw [e1, andThen_inl]
    simp only
    have hc1 : ∃ q, cutL ys (k : Int) (ys.length : Int) = some q := ⟨_, by unfold cutL; rw [if_pos (by omega)]⟩
    obtain ⟨q, hq⟩ := hc1
    rw [hq, Option.bind_some, clear_take (by omega), Option.bind_some, h6]
theorem keep_eq {me : Int} {S : Vector Int 6} {H : List Mail} (hl : H.length ≤ 100) (ho : ∀ m ∈ H, FromOk m) :
    rangeF (partref_HearMail_B2x H) H.length 0 ((⟨me, S, []⟩ : Causal), ([] : List Mail)) = some (⟨me, S, H.filter fun m => !oldB S m⟩, H.filter fun m => !oldB S m) := by
  refine Tot.eq (Tot.rangeF (fun j z => z = ((⟨me, S, (H.take j).filter fun m => !oldB S m⟩ : Causal), (H.take j).filter fun m => !oldB S m)) (by simp) ?_ ?_)
  · rintro j z _ hj rfl
    have hj' : j < H.length := by omega
    have hm := ho H[j] (List.getElem_mem hj')
    obtain ⟨_, u, v, hu, hv, he⟩ := old_some (c := ⟨me, S, []⟩) hm
    have htk : H.take (j + 1) = H.take j ++ [H[j]] := by rw [List.take_add_one]; simp [hj']
    have hroom : room ((H.take j).filter fun m => !oldB S m) ([H[j]] : List Mail) = some () := room_ok (by
      have := List.length_filter_le (fun m => !oldB S m) (H.take j)
      simp at this ⊢; omega)
    unfold partref_HearMail_B2x
    rw [lat_nat, List.getElem?_eq_getElem hj', Option.bind_some, hu, Option.bind_some]
    simp only
    rw [hv, Option.bind_some, hroom, htk, List.filter_append]
    simp only at he
    have hc : decide (u > v) = !oldB S H[j] := by rw [he, Bool.eq_iff_iff]; simp
    rw [hc]
    cases ho' : oldB S H[j] with
    | true => simp [ho', Tot.some_iff]
    | false => simp [ho', Tot.some_iff]
  · rintro z rfl
    rw [Nat.zero_add, List.take_length]
theorem contains1_eq (l : List Mail) (x : Mail) : slices_ContainsFunc_api_Mail_api_Mail_Hear_1 l x = slices_ContainsFunc_api_Mail_api_Mail_Check_2 l x := rfl
theorem contains2_eq (l : List Mail) (x : Mail) : slices_ContainsFunc_api_Mail_api_Mail_HearMail_1 l x = slices_ContainsFunc_api_Mail_api_Mail_Check_2 l x := rfl
theorem hear_eq {c : Causal} {m : Mail} (hc : causal_Check c = some 0) (h : GoodC c) (hm : causal_formed m = some true) (hF : FromOk m) : ∃ r, causal_Hear 300 c m = some r ∧ partref_HearMail 300 c m = some r := by
  have hlen := h.len
  obtain ⟨u, hu⟩ := vat_in m.At (i := m.From) hF.1 (by have := hF.2; omega)
  obtain ⟨v, hv⟩ := vat_in c.Seen (i := m.From) hF.1 (by have := hF.2; omega)
  have hcl := eq_slices_Clone_api_Mail_api_Mail (l := c.Hold) (by omega)
  have hroom : room c.Hold ([m] : List Mail) = some () := room_ok (by simp; omega)
  unfold causal_Hear partref_HearMail
  rw [hc, hm, cclone_eq h, hcl]
  simp only [Option.bind_some, bne_self_eq_false, cond_false, Bool.not_true, hu, hv, cond_some, Bool.cond_true_left, contains1_eq, contains2_eq, contains_tot hF h.hold, hcl, Let_eq, hroom, ← ready_eq, ready_some]
  cases (m.From == c.Me || decide (u ≤ v) || c.Hold.any fun y => sameB y m) with
  | true => exact ⟨_, rfl, rfl⟩
  | false =>
    simp only [cond_false]
    cases rdy c.Seen m with
    | false =>
      simp only [Bool.not_false, cond_true]
      by_cases hl : c.Hold.length = 40
      · rw [show ((c.Hold.length : Int) == 40) = true from by simp [hl], show decide (((c.Hold ++ [m]).length : Int) > 40) = true from by simp [hl]]
        exact ⟨_, rfl, rfl⟩
      · rw [show ((c.Hold.length : Int) == 40) = false from by simp <;> omega, show decide (((c.Hold ++ [m]).length : Int) > 40) = false from by simp <;> omega]
        exact ⟨_, rfl, rfl⟩
    | true =>
      simp only [Bool.not_true, cond_false]
      have hlast : (c.Hold ++ [m])[c.Hold.length]? = some m := by simp
      have her : c.Hold = (c.Hold ++ [m]).eraseIdx c.Hold.length := by
        rw [List.eraseIdx_append_of_length_le (Nat.le_refl _)]; simp
      obtain ⟨S, H, m', k', l', e1, e2, h1, h2⟩ := both (r9 := c.Hold) (me := c.Me) (299 - 100) (298 - 100) 100 (c.Hold ++ [m]) c.Hold.length m c.Seen c.Hold c.Hold [] (by simp; omega) (by simp; omega) (by simp; omega) hlast her (by
        intro x hx
        rcases List.mem_append.1 hx with hx | hx
        · exact h.hold x hx
        · simp at hx; subst hx; exact hF)
      have e64 : w64 (((c.Hold ++ [m]).length : Int) - 1) = (c.Hold.length : Int) := by
        rw [w64_id (by simp <;> omega) (by simp <;> omega)]; simp
      rw [e64]
      have e1' : whileM causal_Hear_B0 300 (c, m, []) = some (.inl (⟨c.Me, S, H⟩, m', l')) := e1
      have e2' : whileM (partref_HearMail_B0 c.Hold) 300 (c.Hold ++ [m], (c.Hold.length : Int), ({ c with Hold := c.Hold } : Causal), []) = some (.inl (H, k', ⟨c.Me, S, c.Hold⟩, l')) := e2
      rw [e1', e2', andThen_inl, andThen_inl]
      simp only
      rw [deletef_eq (by omega) (by omega) h2, keep_eq (by omega) h2]
      exact ⟨_, rfl, rfl⟩
theorem hear_arg {c : Causal} {m : Mail} (hc : causal_Check c = some 0) (hm : causal_formed m = some false) : causal_Hear 300 c m = some (Causal.zero, [], 1) := by
  unfold causal_Hear
  rw [hc, hm]
  rfl
theorem cast_part {c : Causal} {t : Str} (hc : causal_Check c = some 0) (h : GoodC c) : ∃ r, causal_Cast c t = some r ∧ ((vat c.Seen c.Me).bind fun x74 =>
    bif decide (x74 ≥ (16777215 : Int)) then ((partref_SameCausal r.1 Causal.zero).bind fun r78 => (bif !r78 then (some true) else some (!(decide (r.2.1 = Mail.zero)))).bind fun y83 => (bif y83 then (some true) else some (r.2.2 != (8 : Int))).bind fun y88 => bif y88 then (some (.inr false)) else some (.inl ())) else
    (vat c.Seen c.Me).bind fun x96 => (vat c.Seen c.Me).bind fun _ => Let (c.Seen.setIfInBounds c.Me.toNat (w64 (x96 + (1 : Int)))) fun p102 =>
    (partref_SameCausal r.1 ({ c with Seen := p102 } : Causal)).bind fun r104 => (bif !r104 then (some true) else some (!(decide (r.2.1 = ({ Mail.zero with From := c.Me, At := p102, Text := t } : Mail))))).bind fun y109 =>
    (bif y109 then (some true) else some (r.2.2 != (0 : Int))).bind fun y114 => bif y114 then (some (.inr false)) else some (.inl ())) = (some (.inl ()) : Option (Unit ⊕ Bool)) := by
  obtain ⟨v, hv⟩ := vat_in c.Seen (i := c.Me) h.me.1 (by have := h.me.2; omega)
  unfold causal_Cast
  rw [hc, hv, cclone_eq h]
  simp only [Option.bind_some, bne_self_eq_false, cond_false, hv, Let_eq, sameC_eq, cond_some, Bool.cond_true_left]
  cases decide (v ≥ 16777215) with
  | true =>
    refine ⟨_, rfl, ?_⟩
    have : (({ Causal.zero with Hold := ([] : List Mail) } : Causal)) = Causal.zero := rfl
    simp [this]
  | false =>
    refine ⟨_, rfl, ?_⟩
    simp
theorem causal_law (c : Causal) (t : Str) (m : Mail) (_ : Rng.ok c) (_ : Rng.ok t) (_ : Rng.ok m) : ∃ fu, partlaw_CausalSays fu c t m = some true := by
  refine ⟨300, ?_⟩
  have hre := check_eq c (fu := 300) (by omega)
  obtain ⟨e, he, hgood⟩ := check_law c
  rw [he] at hre
  unfold partlaw_CausalSays
  rw [← hre, Option.bind_some]
  by_cases h0 : e = 0
  · subst h0
    have h := hgood rfl
    obtain ⟨rc, e1, e2⟩ := cast_part (t := t) he h
    obtain ⟨b, hb, hbF⟩ := formed_tot m
    have hmr := formed_eq m (fu := 300) (by omega)
    rw [hb] at hmr
    cases b with
    | false =>
      rw [e1, hear_arg he hb, he]
      simp only [Option.bind_some, bne_self_eq_false, cond_false]
      rw [e2, andThen_inl, ← hmr]
      simp [sameC_eq]
    | true =>
      obtain ⟨r, g1, g2⟩ := hear_eq he h hb (hbF rfl)
      rw [e1, g1, he]
      simp only [Option.bind_some, bne_self_eq_false, cond_false]
      rw [e2, andThen_inl, ← hmr]
      simp [sameC_eq, g2, eq_slices_Equal_api_Mail_api_Mail]
  · have hb : (e != 0) = true := by simpa using h0
    have g1 : causal_Cast c t = some (Causal.zero, Mail.zero, e) := by unfold causal_Cast; rw [he, Option.bind_some, hb, cond_true]; rfl
    have g2 : causal_Hear 300 c m = some (Causal.zero, [], e) := by unfold causal_Hear; rw [he, Option.bind_some, hb, cond_true]; rfl
    rw [g1, g2, he]
    simp only [Option.bind_some, bne_self_eq_false, cond_false, hb, cond_true]
    simp [sameC_eq]
end Go.Proofs.Ytobikknjaomalaa
