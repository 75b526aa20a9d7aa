import Derived.Test.YtilflhdhcleneaaPuSp
import Derived.Test.YtilflhdhcleneaaGoN
namespace Go.Proofs.Ytilflhdhcleneaa
open Enc
theorem pulse_in_eq (a b c : Int) : pulse_in a b c = some (decide (b ≤ a) && decide (a ≤ c)) := by
  unfold pulse_in
  simp only [and_some, Option.bind_some]
theorem pulse_body (p : Pulse) (i : Nat) (hi : i < 6) : pulse_Check_L14 p i () = partref_PulseErr_L14 p i () := by
  unfold pulse_Check_L14 partref_PulseErr_L14
  simp only [pulse_in_eq, vat_lt _ hi, Option.bind_some, or_some, and_some, bind_id]
  grind
theorem pulse_check (p : Pulse) : pulse_Check p = partref_PulseErr p := by
  unfold pulse_Check partref_PulseErr
  rw [rangeM_congr 6 0 () fun j s _ h => pulse_body p j (by omega)]
  simp only [pulse_in_eq, Option.bind_some, or_some]
  generalize andThen _ _ = z
  grind
structure PulseOk (p : Pulse) : Prop where
  me : 0 ≤ p.Me ∧ p.Me ≤ 5
  now : 0 ≤ p.Now ∧ p.Now ≤ 16777215
  at_ : ∀ (i : Nat) (h : i < 6), 0 ≤ p.Last[i] ∧ p.Last[i] ≤ p.Now ∧ 1 ≤ p.Wait[i] ∧ p.Wait[i] ≤ 1000 ∧ ((i : Int) = p.Me → p.Doubt[i] = false)
theorem pulse_round (p : Pulse) (i : Nat) (hi : i < 6) : (partref_PulseErr_L14 p i () = some (.go ()) ∧ 0 ≤ p.Last[i] ∧ p.Last[i] ≤ p.Now ∧ 1 ≤ p.Wait[i] ∧ p.Wait[i] ≤ 1000 ∧ ((i : Int) = p.Me → p.Doubt[i] = false)) ∨
    ∃ e : Int, partref_PulseErr_L14 p i () = some (.ret e) ∧ (e = 1 ∨ e = 4) ∧ (p.Doubt[i] = false → e = 1) := by
  unfold partref_PulseErr_L14
  simp only [vat_lt _ hi, Option.bind_some, or_some, and_some]
  grind
theorem pulse_err (p : Pulse) : (partref_PulseErr p = some 0 ∧ PulseOk p) ∨ ∃ e, partref_PulseErr p = some e ∧ e ≠ 0 ∧ ((∀ (i : Nat) (h : i < 6), p.Doubt[i] = false) → e = 1) := by
  unfold partref_PulseErr
  simp only [Option.bind_some, or_some]
  by_cases hb : (decide (p.Me < 0) || (decide (p.Me > 5) || (decide (p.Now < 0) || decide (p.Now > 16777215)))) = true
  · right; exact ⟨1, by rw [hb]; rfl, by omega, fun _ => rfl⟩
  · have hb' : (decide (p.Me < 0) || (decide (p.Me > 5) || (decide (p.Now < 0) || decide (p.Now > 16777215)))) = false := by simpa using hb
    rw [hb']
    simp only [Bool.or_eq_false_iff, decide_eq_false_iff_not] at hb'
    rcases rangeM_look (body := partref_PulseErr_L14 p) 6 0 (fun j _ h => (pulse_round p j (by omega)).imp And.left fun ⟨e, h, _⟩ => ⟨e, h⟩) with ⟨h1, h2⟩ | ⟨m, e, h1, h2, h3, h4, h5⟩
    · left
      rw [h1]
      refine ⟨rfl, ⟨by omega, by omega⟩, ⟨by omega, by omega⟩, fun i hi => ?_⟩
      rcases pulse_round p i hi with h | ⟨e, h, _⟩
      · exact h.2
      · rw [h2 i (by omega) (by omega)] at h; cases h
    · right
      rw [h5]
      rcases pulse_round p m (by omega) with h | ⟨e', h, h6, h7⟩
      · rw [h.1] at h4; cases h4
      · rw [h] at h4; cases h4
        exact ⟨e, rfl, by omega, fun hd => h7 (hd m (by omega))⟩
/-- The first that is not doubted. -/
theorem lead_first {p : Pulse} (h : PulseOk p) : ∃ m : Nat, ∃ hm : m < 6, p.Doubt[m] = false ∧ ∀ (j : Nat) (hj : j < m), p.Doubt[j] = true := by
  have key : ∀ (k i : Nat) (_ : i + k = 6), (∀ (j : Nat) (hj : j < i), p.Doubt[j]'(by omega) = true) → ∃ m : Nat, ∃ hm : m < 6, p.Doubt[m] = false ∧ ∀ (j : Nat) (hj : j < m), p.Doubt[j] = true := by
    intro k
    induction k with
    | zero =>
      intro i hi hd
      obtain ⟨m, hm⟩ := Int.eq_ofNat_of_zero_le h.me.1
      have h5 := h.me.2
      have := (h.at_ m (by omega)).2.2.2.2 (by omega)
      rw [hd m (by omega)] at this; cases this
    | succ k ih =>
      intro i hi hd
      cases hdi : p.Doubt[i]'(by omega) with
      | false => exact ⟨i, by omega, hdi, hd⟩
      | true =>
        refine ih (i + 1) (by omega) fun j hj => ?_
        by_cases e : j = i
        · subst e; exact hdi
        · exact hd j (by omega)
  exact key 6 0 rfl (fun j hj => by omega)
theorem lead_loop {p : Pulse} {m : Nat} (hm : m < 6) (h0 : p.Doubt[m] = false) (h1 : ∀ (j : Nat) (hj : j < m), p.Doubt[j] = true) : ∀ (k z x : Nat), z + k = m → whileM (pulse_Lead_L6 p) (k + 1 + x) (z : Int) = some (.inl (m : Int))
  | 0, z, x, e => by
    obtain rfl : z = m := by omega
    rw [show 0 + 1 + x = x + 1 by omega]
    unfold whileM pulse_Lead_L6
    simp [vat_lt _ hm, h0]
  | k + 1, z, x, e => by
    rw [show k + 1 + 1 + x = (k + 1 + x) + 1 by omega]
    unfold whileM pulse_Lead_L6
    have := lead_loop hm h0 h1 k (z + 1) x (by omega)
    simp only [vat_lt _ (show z < 6 by omega), h1 z (by omega), Option.bind_some, cond_true]
    rw [w64_id (by omega) (by omega)]
    exact this
theorem index_first {p : Pulse} {m : Nat} (hm : m < 6) (h0 : p.Doubt[m] = false) (h1 : ∀ (j : Nat) (hj : j < m), p.Doubt[j] = true) : slices_Index_bool_bool p.Doubt.toList false = some (m : Int) := by
  unfold slices_Index_bool_bool
  have hl : p.Doubt.toList.length = 6 := by simp
  have hb : ∀ (j : Nat) (hj : j < 6), slices_Index_bool_bool_L1 p.Doubt.toList false j () = bif p.Doubt[j] then some (.go ()) else some (.ret (j : Int)) := by
    intro j hj
    unfold slices_Index_bool_bool_L1
    rw [lat_nat]
    have : p.Doubt.toList[j]? = some p.Doubt[j] := by simp [hj]
    rw [this, Option.bind_some]
    cases p.Doubt[j] <;> rfl
  rw [hl, rangeM_stop (t := (m : Int)) 6 0 m (by omega) (by omega) (fun j _ hj => by rw [hb j (by omega), h1 j hj]; rfl) (by rw [hb m hm, h0]; rfl)]
  rfl
theorem equal_self (l : List Int) : slices_Equal_int_int l l = some true := by
  unfold slices_Equal_int_int
  rw [rangeM_all]
  · simp [andThen_inl]
  · intro j _ hj
    unfold slices_Equal_int_int_L2
    rw [lat_nat]
    have : l[j]? = some (l[j]'(by omega)) := by simp
    rw [this]
    simp
/-- The loop of Tick, and the law's own. -/
def TickInv (p : Pulse) (i : Nat) (z : List Int × Pulse) : Prop :=
  z.1.length ≤ i ∧ z.2.Me = p.Me ∧ z.2.Now = p.Now + 1 ∧ z.2.Wait = p.Wait ∧ (∀ (j : Nat) (h : j < 6), (j : Int) ≠ p.Me → z.2.Last[j] = p.Last[j]) ∧ ∀ (j : Nat) (h : j < 6), i ≤ j → z.2.Doubt[j] = p.Doubt[j]
theorem tick_round {p : Pulse} {i : Nat} (hi : i < 6) {z : List Int × Pulse} (h : TickInv p i z) : pulse_Tick_L20 i z = partlaw_PulseSays_L85 p i z ∧ ∃ s, partlaw_PulseSays_L85 p i z = some s ∧ TickInv p (i + 1) s := by
  obtain ⟨l, q⟩ := z
  obtain ⟨h1, h2, h3, h4, h5, h6⟩ := h
  simp only at h1 h2 h3 h4 h5 h6
  have hr : room l [(i : Int)] = some () := room_ok (by simp; omega)
  unfold pulse_Tick_L20 partlaw_PulseSays_L85
  simp only [vat_lt _ hi, Option.bind_some, hr, Let_eq, h2, h4, h6 i hi (Nat.le_refl _)]
  by_cases hm : (i : Int) = p.Me
  · simp only [hm, bne_self_eq_false, cond_false, Option.bind_some]
    exact ⟨trivial, _, rfl, by simp; omega, h2, h3, h4, h5, fun j hj hij => h6 j hj (by omega)⟩
  · rw [h5 i hi hm]
    refine ⟨rfl, ?_⟩
    have hne : ((i : Int) != p.Me) = true := by simpa using hm
    rw [hne]
    simp only [cond_true]
    generalize hc : (bif !p.Doubt[i] then some (decide (w64 (q.Now - p.Last[i]) > p.Wait[i])) else some false : Option Bool) = c
    have : ∃ b, c = some b := by rw [← hc, and_some]; exact ⟨_, rfl⟩
    obtain ⟨b, rfl⟩ := this
    cases b with
    | false => exact ⟨_, rfl, by simp; omega, h2, h3, h4, h5, fun j hj hij => h6 j hj (by omega)⟩
    | true =>
      refine ⟨_, rfl, by simp; omega, rfl, h3, rfl, h5, fun j hj hij => ?_⟩
      simp only [Int.toNat_natCast, Vector.getElem_setIfInBounds]
      rw [if_neg (by omega)]
      exact h6 j hj (by omega)
def fresh (a w : Int) : Pulse := ({ ({ Pulse.zero with Me := a } : Pulse) with Wait := (#v[w, w, w, w, w, w] : Vector Int 6) } : Pulse)
theorem new_eq (a w : Int) : pulse_New a w = (partref_PulseErr (fresh a w)).bind fun e => bif e != 0 then some (Pulse.zero, e) else some (fresh a w, 0) := by
  unfold pulse_New
  have : rangeF (pulse_New_L5 w) 6 0 ({ Pulse.zero with Me := a } : Pulse) = some (fresh a w) := by
    rfl
  rw [this, Option.bind_some, pulse_check]
theorem fresh_err (a w : Int) : partref_PulseErr (fresh a w) = some 0 ∨ partref_PulseErr (fresh a w) = some 1 := by
  rcases pulse_err (fresh a w) with ⟨h, _⟩ | ⟨e, h, _, h1⟩
  · exact .inl h
  · refine .inr ?_
    rw [h, h1]
    intro i hi
    simp [fresh, Pulse.zero]
theorem pulse_law (p : Pulse) (a w who : Int) : partlaw_PulseSays 7 p a w who = some true := by
  unfold partlaw_PulseSays
  rw [new_eq, pulse_check]
  have hf : ({ ({ Pulse.zero with Me := a } : Pulse) with Wait := (#v[w, w, w, w, w, w] : Vector Int 6) } : Pulse) = fresh a w := rfl
  rw [hf]
  generalize hfr : partref_PulseErr (fresh a w) = fr
  have hfr2 := fresh_err a w
  rw [hfr] at hfr2
  rcases pulse_err p with ⟨he, ho⟩ | ⟨e, he, h0, _⟩
  · obtain ⟨m, hm, hm0, hm1⟩ := lead_first ho
    have hl : pulse_Lead 7 p = some ((m : Int), 0) := by
      unfold pulse_Lead
      have h7 := lead_loop hm hm0 hm1 m 0 (6 - m) (by omega)
      rw [show m + 1 + (6 - m) = 7 by omega] at h7
      have h7' : whileM (pulse_Lead_L6 p) 7 (0 : Int) = some (.inl (m : Int)) := h7
      rw [pulse_check, he, h7']
      rfl
    have hix := index_first hm hm0 hm1
    have hnow : w64 (p.Now + 1) = p.Now + 1 := by have := ho.now; exact w64_id (by omega) (by omega)
    obtain ⟨xm, hxm⟩ := vat_in p.Last ho.me.1 (show p.Me < (6 : Nat) by have := ho.me.2; omega)
    obtain ⟨hloop, ⟨l, y⟩, hy, _⟩ := rangeF_two (f := pulse_Tick_L20) (g := partlaw_PulseSays_L85 p) (TickInv p) 6 0 (([] : List Int), ({ p with Now := p.Now + 1, Last := p.Last.setIfInBounds p.Me.toNat (p.Now + 1) } : Pulse))
      (by
        refine ⟨by simp, rfl, rfl, rfl, fun j hj hne => ?_, fun j hj _ => rfl⟩
        simp only [Vector.getElem_setIfInBounds]
        rw [if_neg (by have := ho.me.1; omega)])
      (fun j s _ hj hI => tick_round (by omega) hI)
    rw [hy] at hloop
    have ht : pulse_Tick p = some (bif p.Now == 16777215 then (Pulse.zero, [], 8) else (y, l, 0)) := by
      unfold pulse_Tick
      rw [pulse_check, he]
      simp only [Option.bind_some, Let_eq, hnow, hxm, hloop]
      cases p.Now == 16777215 <;> rfl
    by_cases hw : 0 ≤ who ∧ who ≤ 5 ∧ who ≠ p.Me
    · obtain ⟨w0, w5, wm⟩ := hw
      obtain ⟨xl, hxl⟩ := vat_in p.Last w0 (show who < (6 : Nat) by omega)
      obtain ⟨xd, hxd⟩ := vat_in p.Doubt w0 (show who < (6 : Nat) by omega)
      obtain ⟨xw, hxw⟩ := vat_in p.Wait w0 (show who < (6 : Nat) by omega)
      have hin : (bif decide (who < 0) then some true else bif decide (who > 5) then some true else some (who == p.Me)) = some false := by
        rw [or_some, or_some]; congr 1; simp; omega
      have hh : pulse_Hear p who = some (bif !xd then (({ p with Last := p.Last.setIfInBounds who.toNat p.Now } : Pulse), false, 0) else
          (({ p with Last := p.Last.setIfInBounds who.toNat p.Now, Doubt := p.Doubt.setIfInBounds who.toNat false, Wait := p.Wait.setIfInBounds who.toNat (min (w64 (xw + 1)) 1000) } : Pulse), true, 0)) := by
        unfold pulse_Hear
        rw [pulse_check, he]
        have h1 : (who == p.Me) = false := by simpa using wm
        have h2 : (!(decide (0 ≤ who) && decide (who ≤ 5))) = false := by simp; omega
        simp only [Option.bind_some, pulse_in_eq, Let_eq, hxl, hxd, hxw, h1, h2, cond_false]
        cases xd <;> rfl
      rw [he, hl, ht, hh]
      simp only [Option.bind_some, hix, Let_eq, hnow, hxm, hxl, hxd, hxw, hin, hy]
      cases hmx : p.Now == 16777215 <;> cases xd <;> rcases hfr2 with rfl | rfl <;> simp [andThen, equal_self]
    · have hin : (bif decide (who < 0) then some true else bif decide (who > 5) then some true else some (who == p.Me)) = some true := by
        rw [or_some, or_some]; congr 1; simp; omega
      have hh : pulse_Hear p who = some (Pulse.zero, false, 1) := by
        unfold pulse_Hear
        rw [pulse_check, he]
        have h2 : (bif !(decide (0 ≤ who) && decide (who ≤ 5)) then some true else some (who == p.Me)) = some true := by
          rw [or_some]; congr 1; simp; omega
        simp only [Option.bind_some, pulse_in_eq, h2]
        rfl
      rw [he, hl, ht, hh]
      simp only [Option.bind_some, hix, Let_eq, hnow, hxm, hin, hy]
      cases hmx : p.Now == 16777215 <;> rcases hfr2 with rfl | rfl <;> simp [andThen, equal_self]
  · have hne : (e != 0) = true := by simpa using h0
    have ht : pulse_Tick p = some (Pulse.zero, [], e) := by unfold pulse_Tick; rw [pulse_check, he]; simp [hne]
    have hh : pulse_Hear p who = some (Pulse.zero, false, e) := by unfold pulse_Hear; rw [pulse_check, he]; simp [hne]
    have hl : pulse_Lead 7 p = some (0, e) := by unfold pulse_Lead; rw [pulse_check, he]; simp [hne]
    rw [he, ht, hh, hl]
    rcases hfr2 with rfl | rfl <;> simp [hne, andThen]
end Go.Proofs.Ytilflhdhcleneaa
