/-
  Sorting within a range: the smaller parts of a quicksort that does not mind patterns.
-/
import Derived.Test.YtnljiedichjagaaSySort3
namespace Go.Proofs.Ytnljiedichjagaa
open Enc

section
variable {α τ : Type} {lt : α → α → Bool} {P : α → Prop}
/-- What lies just ahead of the range is not greater than what lies in it. -/
def Low (lt : α → α → Bool) (a b : Nat) (l : List α) : Prop := a = 0 ∨ ∃ w, l[a - 1]? = some w ∧ ∀ (k : Nat) u, a ≤ k → k < b → l[k]? = some u → lt u w = false
theorem Low.sp {a b : Nat} {l m : List α} (h : Low lt a b l) (hs : SP a b l m) : Low lt a b m := by
  rcases h with h | ⟨w, h1, h2⟩
  · exact .inl h
  · by_cases h0 : a = 0
    · exact .inl h0
    · exact .inr ⟨w, by rw [hs.out (by omega)]; exact h1, hs.all (P := fun u => lt u w = false) h2⟩
theorem Low.sub {a b c d : Nat} {l : List α} (h : Low lt a b l) (h1 : d ≤ b) (h2 : a = c) : Low lt c d l := by
  subst h2
  rcases h with h | ⟨w, g1, g2⟩
  · exact .inl h
  · exact .inr ⟨w, g1, fun k u k1 k2 => g2 k u k1 (by omega)⟩

/-! ### Some steps of insertion -/
theorem shift_left (hlt : SWO P lt) {a b i fu : Nat} {l : List α} (hai : a ≤ i) (hib : i < b) (hb : b ≤ l.length) (hn : l.length ≤ 2 ^ 40) (hP : AllP P l) (hs : Srt lt a i l) (hlow : Low lt a b l) (hfu : i < fu)
    {body : Int × List α → Option (Ctl (Int × List α) τ)} (hbody : ∀ z, body z = bif decide (z.1 ≥ (1 : Int)) then ((lat z.2 z.1).bind fun x => (lat z.2 (w64 (z.1 - 1))).bind fun y => bif !(lt x y) then some (.brk (z.1, z.2)) else
      (lat z.2 (w64 (z.1 - 1))).bind fun x => (lat z.2 z.1).bind fun y => (lat z.2 z.1).bind fun _ => Let (z.2.set z.1.toNat x) fun p => Let p fun q => (lat q (w64 (z.1 - 1))).bind fun _ => Let (q.set (w64 (z.1 - 1)).toNat y) fun r => some (.go (w64 (z.1 - 1), r))) else some (.brk (z.1, z.2))) :
    Tot (whileM body fu ((i : Int), l)) fun o => ∃ j m, o = .inl (j, m) ∧ SP a (i + 1) l m ∧ Srt lt a (i + 1) m := by
  refine Tot.whileM (fun z : Int × List α => ∃ j : Nat, z.1 = (j : Int) ∧ a ≤ j ∧ j ≤ i ∧ SP a (i + 1) l z.2 ∧ But lt a i j z.2) (fun z => z.1.toNat) ⟨i, rfl, by omega, Nat.le_refl _, SP.refl _ _ _, fun p q x y h1 h2 h3 h4 hx hy => hs p q x y h1 h2 (by omega) hx hy⟩ (by simpa using hfu) ?_
  rintro ⟨z, m⟩ ⟨j, rfl, h1, h2, h3, h4⟩
  simp only at h3 h4
  have hlen := h3.len
  have hPm := h3.allP hP
  have hjm : j < m.length := by omega
  have hj : m[j]? = some m[j] := by simp [hjm]
  have done : (j = a ∨ ∃ x y, a < j ∧ m[j]? = some x ∧ m[j - 1]? = some y ∧ lt x y = false) → ∃ j' m', (Sum.inl ((j : Int), m) : (Int × List α) ⊕ τ) = .inl (j', m') ∧ SP a (i + 1) l m' ∧ Srt lt a (i + 1) m' := by
    intro hd
    refine ⟨_, _, rfl, h3, fun p q x y p1 p2 p3 hx hy => ?_⟩
    by_cases e : q = j
    · subst e
      rcases hd with rfl | ⟨u, v, k1, k2, k3, k4⟩
      · omega
      · rw [hy] at k2
        obtain rfl := Option.some.inj k2
        by_cases e2 : p = q - 1
        · subst e2; rw [hx] at k3; obtain rfl := Option.some.inj k3; exact k4
        · have := h4 p (q - 1) x v p1 (by omega) (by omega) (by omega) hx k3
          exact hlt.ntrans x v y (hPm.at hx) (hPm.at k3) (hPm.at hy) this k4
    · exact h4 p q x y p1 p2 (by omega) e hx hy
  rw [hbody]
  simp only
  rw [Tot.ite_iff]
  refine ⟨fun k => ?_, fun k => ?_⟩
  · have k : 1 ≤ j := by simp at k; omega
    have e1 : w64 ((j : Int) - 1) = ((j - 1 : Nat) : Int) := by rw [w64_id (by omega) (by omega)]; omega
    have hj1m : j - 1 < m.length := by omega
    have hj1 : m[j - 1]? = some m[j - 1] := by simp [hj1m]
    rw [e1, lat_nat m (j - 1), hj1, lat_nat m j, hj, Option.bind_some, Option.bind_some, Tot.ite_iff]
    refine ⟨fun c => ?_, fun c => ?_⟩
    · have c : lt m[j] m[j - 1] = false := by simpa using c
      refine Tot.some_iff.2 (done ?_)
      by_cases e : j = a
      · exact .inl e
      · exact .inr ⟨_, _, by omega, hj, hj1, c⟩
    · have c : lt m[j] m[j - 1] = true := by simpa using c
      have haj : a < j := by
        rcases Nat.lt_or_ge a j with q | q
        · exact q
        · have ea : j = a := by omega
          subst ea
          rcases hlow with h0 | ⟨w, w1, w2⟩
          · omega
          · have ew : m[j - 1]? = some w := by rw [h3.out (by omega)]; exact w1
            rw [hj1] at ew
            obtain rfl := Option.some.inj ew
            have := h3.all (P := fun u => lt u m[j - 1] = false) (fun k u k1 k2 hu => w2 k u k1 (by omega) hu) j _ (Nat.le_refl _) (by omega) hj
            rw [this] at c; cases c
      rw [Option.bind_some, Option.bind_some, Option.bind_some, Tot.let_iff, Tot.let_iff, Int.toNat_natCast, lat_nat, List.getElem?_set_ne (by omega), hj1, Option.bind_some, Tot.let_iff, Int.toNat_natCast, Tot.some_iff]
      have hsw := SP.swap (a := a) (b := i + 1) (l := m) (i := j) (j := j - 1) (by omega) (by omega) hj hj1
      have hat := fun k => swap_at (k := k) hj hj1
      refine ⟨⟨j - 1, rfl, by omega, by omega, h3.trans hsw, fun p q x y p1 p2 p3 p4 hx hy => ?_⟩, ?_⟩
      · simp only at hx hy
        rw [hat] at hx hy
        rw [if_neg p4] at hy
        by_cases e : q = j
        · rw [if_pos e] at hy
          obtain rfl := Option.some.inj hy
          by_cases e2 : p = j - 1
          · rw [if_pos e2] at hx
            obtain rfl := Option.some.inj hx
            exact hlt.asymm _ _ (hPm.at hj) (hPm.at hj1) c
          · rw [if_neg e2, if_neg (by omega)] at hx
            exact h4 p (j - 1) x _ p1 (by omega) (by omega) (by omega) hx hj1
        · rw [if_neg e] at hy
          by_cases e2 : p = j - 1
          · rw [if_pos e2] at hx
            obtain rfl := Option.some.inj hx
            exact h4 j q _ y (by omega) (by omega) p3 e hj hy
          · rw [if_neg e2] at hx
            by_cases e3 : p = j
            · rw [if_pos e3] at hx
              obtain rfl := Option.some.inj hx
              exact h4 (j - 1) q _ y (by omega) (by omega) p3 e hj1 hy
            · rw [if_neg e3] at hx
              exact h4 p q x y p1 p2 p3 e hx hy
      · simp only [Int.toNat_natCast]; omega
  · have k : ¬ 1 ≤ j := by simp at k; omega
    rw [Tot.some_iff]
    exact done (.inl (by omega))
theorem shift_right {i b fu : Nat} {l : List α} (hib : i < b) (hb : b ≤ l.length) (hn : l.length ≤ 2 ^ 40) (hfu : b < fu)
    {body : Int × List α → Option (Ctl (Int × List α) τ)} (hbody : ∀ z, body z = bif decide (z.1 < (b : Int)) then ((lat z.2 z.1).bind fun x => (lat z.2 (w64 (z.1 - 1))).bind fun y => bif !(lt x y) then some (.brk (z.1, z.2)) else
      (lat z.2 (w64 (z.1 - 1))).bind fun x => (lat z.2 z.1).bind fun y => (lat z.2 z.1).bind fun _ => Let (z.2.set z.1.toNat x) fun p => Let p fun q => (lat q (w64 (z.1 - 1))).bind fun _ => Let (q.set (w64 (z.1 - 1)).toNat y) fun r => some (.go (w64 (z.1 + 1), r))) else some (.brk (z.1, z.2))) :
    Tot (whileM body fu (((i + 1 : Nat) : Int), l)) fun o => ∃ j m, o = .inl (j, m) ∧ SP i b l m := by
  refine Tot.whileM (fun z : Int × List α => ∃ j : Nat, z.1 = (j : Int) ∧ i < j ∧ j ≤ b ∧ SP i b l z.2) (fun z => ((b : Int) - z.1).toNat) ⟨i + 1, rfl, by omega, by omega, SP.refl _ _ _⟩ (by simp only; omega) ?_
  rintro ⟨z, m⟩ ⟨j, rfl, h1, h2, h3⟩
  simp only at h3
  have hlen := h3.len
  rw [hbody]
  simp only
  rw [Tot.ite_iff]
  refine ⟨fun k => ?_, fun k => Tot.some_iff.2 ⟨_, _, rfl, h3⟩⟩
  have k : j < b := by simpa using k
  have e1 : w64 ((j : Int) - 1) = ((j - 1 : Nat) : Int) := by rw [w64_id (by omega) (by omega)]; omega
  rw [e1, lat_i (show j < m.length by omega), Option.bind_some, lat_i (show j - 1 < m.length by omega), Option.bind_some, Tot.ite_iff]
  refine ⟨fun _ => Tot.some_iff.2 ⟨_, _, rfl, h3⟩, fun _ => ?_⟩
  have := swap_step (a := i) (b := b) (i := j) (j := j - 1) (m := m) (by omega) (by omega) (by omega) (β := Ctl (Int × List α) τ) (f := fun r => some (.go (w64 ((j : Int) + 1), r)))
    (Q := Tot.CtlOk (fun z : Int × List α => (∃ j : Nat, z.1 = (j : Int) ∧ i < j ∧ j ≤ b ∧ SP i b l z.2) ∧ ((b : Int) - z.1).toNat < ((b : Int) - (j : Int)).toNat) (fun s => ∃ j m, (Sum.inl s : (Int × List α) ⊕ τ) = .inl (j, m) ∧ SP i b l m) (fun t => ∃ j m, (Sum.inr t : (Int × List α) ⊕ τ) = .inl (j, m) ∧ SP i b l m)) (fun x y hx hy hsw => ?_)
  · rw [lat_i (show j - 1 < m.length by omega), lat_i (show j < m.length by omega), Option.bind_some, Option.bind_some, Option.bind_some] at this
    rw [Option.bind_some, Option.bind_some, Option.bind_some]
    exact this
  · rw [Tot.some_iff, w64_id (by omega) (by omega)]
    exact ⟨⟨j + 1, by push_cast; rfl, by omega, by omega, h3.trans hsw⟩, by simp only; omega⟩
theorem partial_law (hlt : SWO P lt) {a b fu : Nat} {l : List α} (hab : a < b) (hb : b ≤ l.length) (hn : l.length ≤ 2 ^ 40) (hP : AllP P l) (hlow : Low lt a b l) (hfu : b + 10 < fu)
    {b2 : List α → Int → Option (Ctl Int (Ctl (Int × Int × List α) (List α × Bool)))} (hb2 : ∀ m z, b2 m z = (bif decide (z < (b : Int)) then ((lat m z).bind fun x => (lat m (w64 (z - 1))).bind fun y => some (!(lt x y))) else some false).bind fun c => bif c then some (.go (w64 (z + 1))) else some (.brk z))
    {b4 : Int × List α → Option (Ctl (Int × List α) (List α))} (hb4 : ∀ z, b4 z = bif decide (z.1 ≥ (1 : Int)) then ((lat z.2 z.1).bind fun x => (lat z.2 (w64 (z.1 - 1))).bind fun y => bif !(lt x y) then some (.brk (z.1, z.2)) else
      (lat z.2 (w64 (z.1 - 1))).bind fun x => (lat z.2 z.1).bind fun y => (lat z.2 z.1).bind fun _ => Let (z.2.set z.1.toNat x) fun p => Let p fun q => (lat q (w64 (z.1 - 1))).bind fun _ => Let (q.set (w64 (z.1 - 1)).toNat y) fun r => some (.go (w64 (z.1 - 1), r))) else some (.brk (z.1, z.2)))
    {b6 : Int × List α → Option (Ctl (Int × List α) (Ctl (Int × Int × List α) (List α × Bool)))} (hb6 : ∀ z, b6 z = bif decide (z.1 < (b : Int)) then ((lat z.2 z.1).bind fun x => (lat z.2 (w64 (z.1 - 1))).bind fun y => bif !(lt x y) then some (.brk (z.1, z.2)) else
      (lat z.2 (w64 (z.1 - 1))).bind fun x => (lat z.2 z.1).bind fun y => (lat z.2 z.1).bind fun _ => Let (z.2.set z.1.toNat x) fun p => Let p fun q => (lat q (w64 (z.1 - 1))).bind fun _ => Let (q.set (w64 (z.1 - 1)).toNat y) fun r => some (.go (w64 (z.1 + 1), r))) else some (.brk (z.1, z.2)))
    {b0 : Int × Int × List α → Option (Ctl (Int × Int × List α) (List α × Bool))} (hb0 : ∀ z, b0 z = bif decide (z.2.1 < (5 : Int)) then (andThen (whileM (b2 z.2.2) fu z.1) fun y => bif y == (b : Int) then (some (.ret (z.2.2, true))) else bif decide ((w64 ((b : Int) - (a : Int))) < (50 : Int)) then (some (.ret (z.2.2, false))) else
      (lat z.2.2 (w64 (y - 1))).bind fun x29 => (lat z.2.2 y).bind fun x32 => (lat z.2.2 y).bind fun _ => Let (z.2.2.set y.toNat x29) fun p38 => Let p38 fun l41 => (lat l41 (w64 (y - 1))).bind fun _ => Let (l41.set (w64 (y - 1)).toNat x32) fun p61 =>
      (bif decide ((w64 (y - (a : Int))) ≥ (2 : Int)) then (andThen (whileM b4 fu (w64 (y - 1), p61)) fun (_, l68) => some l68) else some p61).bind fun l63 =>
      bif decide ((w64 ((b : Int) - y)) ≥ (2 : Int)) then (andThen (whileM b6 fu (w64 (y + 1), l63)) fun (_, l122) => some (.go (y, w64 (z.2.1 + 1), l122))) else some (.go (y, w64 (z.2.1 + 1), l63))) else some (.brk (z.1, z.2.1, z.2.2))) :
    Tot (andThen (whileM b0 fu (w64 ((a : Int) + 1), (0 : Int), l)) fun (_, _, l5) => some (l5, false)) fun r => SP a b l r.1 ∧ (r.2 = true → Srt lt a b r.1) := by
  rw [w64_id (by omega) (by omega), Tot.andThen_iff]
  refine Tot.whileM (fun z : Int × Int × List α => ∃ i s : Nat, z.1 = (i : Int) ∧ z.2.1 = (s : Int) ∧ a < i ∧ i ≤ b ∧ SP a b l z.2.2 ∧ Srt lt a i z.2.2) (fun z => (5 - z.2.1).toNat) ⟨a + 1, 0, by push_cast; rfl, rfl, by omega, by omega, SP.refl _ _ _, fun p q x y p1 p2 p3 => by omega⟩ (by simp only; omega) ?_
  rintro ⟨z, y, m⟩ ⟨i, s, r1, r2, h1, h2, h3, h4⟩
  simp only at r1 r2 h3 h4
  subst r1 r2
  have hlen := h3.len
  have hPm := h3.allP hP
  rw [hb0]
  simp only
  rw [Tot.ite_iff]
  refine ⟨fun k => ?_, fun k => Tot.some_iff.2 (Tot.some_iff.2 ⟨h3, fun e => by cases e⟩)⟩
  have k : (s : Int) < 5 := by simpa using k
  have hat : ∀ q, q < b → m[q]? = some (m[q]?.getD (m[a]'(by omega))) := fun q hq => by
    have : q < m.length := by omega
    simp [this]
  rw [Tot.andThen_iff]
  refine (scan_up (i := i) (test := fun q => !(lt (m[q]?.getD (m[a]'(by omega))) (m[q - 1]?.getD (m[a]'(by omega))))) (J := (b : Int) - 1) (by omega) (by omega) (fun q hq => ⟨fun hqj => ?_, fun hqj => ?_⟩)).mono ?_
  · have e1 : w64 ((q : Int) - 1) = ((q - 1 : Nat) : Int) := by rw [w64_id (by omega) (by omega)]; omega
    rw [hb2, decide_eq_true (show (q : Int) < b by omega), cond_true, e1, lat_nat, hat q (by omega), Option.bind_some, lat_nat, hat (q - 1) (by omega), Option.bind_some, Option.bind_some, w64_id (by omega) (by omega), cond_some]
    rfl
  · rw [hb2, decide_eq_false (show ¬ (q : Int) < b by omega)]; rfl
  · rintro o ⟨i', rfl, g1, g2, g3, g4⟩
    -- sorted up to i'
    have hsrt : Srt lt a i' m := by
      have : ∀ n, i + n ≤ i' → Srt lt a (i + n) m := by
        intro n
        induction n with
        | zero => intro _; exact h4
        | succ n ih =>
          intro hn'
          have ihn := ih (by omega)
          intro p q x y p1 p2 p3 hx hy
          by_cases e : q = i + n
          · subst e
            have ht := g3 (i + n) (by omega) (by omega)
            have ht : lt (m[i + n]?.getD (m[a]'(by omega))) (m[i + n - 1]?.getD (m[a]'(by omega))) = false := by simpa using ht
            have e1 := hat (i + n) (by omega)
            have e2 := hat (i + n - 1) (by omega)
            rw [e1] at hy
            obtain rfl := Option.some.inj hy
            by_cases ep : p = i + n - 1
            · subst ep; rw [e2] at hx; obtain rfl := Option.some.inj hx; exact ht
            · have := ihn p (i + n - 1) x _ p1 (by omega) (by omega) hx e2
              exact hlt.ntrans _ _ _ (hPm.at hx) (hPm.at e2) (hPm.at e1) this ht
          · exact ihn p q x y p1 p2 (by omega) hx hy
      have := this (i' - i) (by omega)
      rwa [show i + (i' - i) = i' by omega] at this
    show Tot (bif (i' : Int) == (b : Int) then _ else _) _
    rw [Tot.ite_iff]
    refine ⟨fun q => ?_, fun q => ?_⟩
    · have q : i' = b := by simp at q; omega
      subst q
      exact Tot.some_iff.2 ⟨h3, fun _ => hsrt⟩
    · have q : i' ≠ b := by intro e; subst e; simp at q
      rw [Tot.ite_iff]
      refine ⟨fun _ => Tot.some_iff.2 ⟨h3, fun e => by cases e⟩, fun _ => ?_⟩
      have e1 : w64 ((i' : Int) - 1) = ((i' - 1 : Nat) : Int) := by rw [w64_id (by omega) (by omega)]; omega
      rw [e1]
      refine swap_step (a := a) (b := b) (i := i') (j := i' - 1) (by omega) (by omega) (by omega) fun x y hx hy hsw => ?_
      have hs1 : SP a b l ((m.set i' y).set (i' - 1) x) := h3.trans hsw
      have sw := fun k => swap_at (k := k) hx hy
      have hl1 := hs1.len
      have hpre : Srt lt a (i' - 1) ((m.set i' y).set (i' - 1) x) := by
        intro p r u v p1 p2 p3 hu hv
        rw [sw, if_neg (by omega), if_neg (by omega)] at hu hv
        exact hsrt p r u v p1 p2 (by omega) hu hv
      generalize (m.set i' y).set (i' - 1) x = m1 at hs1 hl1 hpre
      rw [Tot.bind_iff]
      have hleft : Tot (bif decide ((w64 ((i' : Int) - (a : Int))) ≥ (2 : Int)) then (andThen (whileM b4 fu (((i' - 1 : Nat) : Int), m1)) fun (_, l68) => some l68) else some m1) fun m2 => SP a b l m2 ∧ Srt lt a i' m2 := by
        rw [Tot.ite_iff]
        refine ⟨fun _ => ?_, fun c => Tot.some_iff.2 ⟨hs1, ?_⟩⟩
        · rw [Tot.andThen_iff]
          refine (shift_left hlt (a := a) (b := b) (i := i' - 1) (by omega) (by omega) (by omega) (by omega) (hs1.allP hP) hpre (hlow.sp hs1) (by omega) hb4).mono ?_
          rintro o ⟨j, m2, rfl, k1, k2⟩
          refine Tot.some_iff.2 ⟨hs1.trans (k1.wide (Nat.le_refl _) (by omega)), ?_⟩
          rwa [show i' - 1 + 1 = i' by omega] at k2
        · have c : ¬ (2 : Int) ≤ w64 ((i' : Int) - (a : Int)) := by simpa using c
          rw [w64_id (by omega) (by omega)] at c
          intro p r u v p1 p2 p3; omega
      refine hleft.mono ?_
      rintro m2 ⟨k1, k2⟩
      have hl2 := k1.len
      have e5 : w64 ((s : Int) + 1) = ((s + 1 : Nat) : Int) := by rw [w64_id (by omega) (by omega)]; push_cast; rfl
      rw [Tot.ite_iff]
      refine ⟨fun _ => ?_, fun _ => Tot.some_iff.2 ?_⟩
      · have e6 : w64 ((i' : Int) + 1) = ((i' + 1 : Nat) : Int) := by rw [w64_id (by omega) (by omega)]; push_cast; rfl
        rw [e6, Tot.andThen_iff]
        refine (shift_right (lt := lt) (i := i') (b := b) (by omega) (by omega) (by omega) (by omega) hb6).mono ?_
        rintro o ⟨j, m3, rfl, k3⟩
        show Tot (some _) _
        rw [Tot.some_iff, e5]
        refine ⟨⟨i', s + 1, rfl, rfl, by omega, by omega, k1.trans (k3.wide (by omega) (Nat.le_refl _)), fun p r u v p1 p2 p3 hu hv => ?_⟩, by simp only; omega⟩
        simp only at hu hv
        rw [k3.out (by omega)] at hu hv
        exact k2 p r u v p1 p2 p3 hu hv
      · rw [e5]
        exact ⟨⟨i', s + 1, rfl, rfl, by omega, by omega, k1, k2⟩, by simp only; omega⟩

/-! ### Breaking patterns -/
theorem break_law {a n fu : Nat} {l : List α} {r5 : BitVec 64} {seed : BitVec 64} (h8 : 8 ≤ n) (hb : a + n ≤ l.length) (hn : l.length ≤ 2 ^ 40) (hfu : 10 < fu) (hr5 : (r5 - (1 : BitVec 64)).toNat < 2 * n)
    {nxt : BitVec 64 → Option (BitVec 64 × BitVec 64)} (hnxt : ∀ s, ∃ t, nxt s = some t)
    {b0 : Int × (BitVec 64) × List α → Option (Ctl (Int × (BitVec 64) × List α) (List α))} (hb0 : ∀ z9, b0 z9 = bif decide (z9.1 ≤ (w64 ((w64 ((a : Int) + (w64 ((w64 ((w64 (((a + n : Nat) : Int) - (a : Int))).tdiv (4 : Int))) * (2 : Int))))) + (1 : Int)))) then ((nxt z9.2.1).bind fun r16 =>
      (bif decide ((w64 ((r16.2 &&& (r5 - (1 : BitVec 64))).toNat : Int)) ≥ (w64 (((a + n : Nat) : Int) - (a : Int)))) then (some (w64 ((w64 ((r16.2 &&& (r5 - (1 : BitVec 64))).toNat : Int)) - (w64 (((a + n : Nat) : Int) - (a : Int)))))) else some (w64 ((r16.2 &&& (r5 - (1 : BitVec 64))).toNat : Int))).bind fun y20 =>
      (lat z9.2.2 (w64 ((a : Int) + y20))).bind fun x25 => (lat z9.2.2 z9.1).bind fun x28 => (lat z9.2.2 z9.1).bind fun _ => Let (z9.2.2.set z9.1.toNat x25) fun p34 => Let p34 fun l37 => (lat l37 (w64 ((a : Int) + y20))).bind fun _ => Let (l37.set (w64 ((a : Int) + y20)).toNat x28) fun p57 => some (.go (w64 (z9.1 + (1 : Int)), r16.1, p57))) else some (.brk (z9.1, z9.2.1, z9.2.2))) :
    Tot (andThen (whileM b0 fu (w64 ((w64 ((a : Int) + (w64 ((w64 ((w64 (((a + n : Nat) : Int) - (a : Int))).tdiv (4 : Int))) * (2 : Int))))) - (1 : Int)), seed, l)) fun (_, _, l12) => some l12) fun m => SP a (a + n) l m := by
  have e1 : w64 (((a + n : Nat) : Int) - (a : Int)) = (n : Int) := by rw [w64_id (by omega) (by omega)]; push_cast; omega
  have e2 : w64 ((n : Int).tdiv 4) = ((n / 4 : Nat) : Int) := by
    rw [show (n : Int).tdiv 4 = ((n / 4 : Nat) : Int) from (Int.ofNat_tdiv _ _).symm]
    exact w64_id (by omega) (by omega)
  have e3 : w64 (((n / 4 : Nat) : Int) * 2) = ((n / 4 * 2 : Nat) : Int) := by rw [w64_id (by omega) (by omega)]; push_cast; rfl
  have e4 : w64 ((a : Int) + ((n / 4 * 2 : Nat) : Int)) = ((a + n / 4 * 2 : Nat) : Int) := by rw [w64_id (by omega) (by omega)]; push_cast; rfl
  have e5 : w64 (((a + n / 4 * 2 : Nat) : Int) + 1) = ((a + n / 4 * 2 + 1 : Nat) : Int) := by rw [w64_id (by omega) (by omega)]; push_cast; rfl
  have e6 : w64 (((a + n / 4 * 2 : Nat) : Int) - 1) = ((a + n / 4 * 2 - 1 : Nat) : Int) := by rw [w64_id (by omega) (by omega)]; omega
  simp only [e1, e2, e3, e4, e5] at hb0
  rw [e1, e2, e3, e4, e6, Tot.andThen_iff]
  refine Tot.whileM (fun z : Int × (BitVec 64) × List α => ∃ i : Nat, z.1 = (i : Int) ∧ a ≤ i ∧ a + n / 4 * 2 - 1 ≤ i ∧ i ≤ a + n / 4 * 2 + 2 ∧ SP a (a + n) l z.2.2) (fun z => (((a + n / 4 * 2 + 2 : Nat) : Int) - z.1).toNat) ⟨_, rfl, by omega, Nat.le_refl _, by omega, SP.refl _ _ _⟩ (by simp only; omega) ?_
  rintro ⟨z, sd, m⟩ ⟨i, rfl, h0, h1, h2, h3⟩
  simp only at h3
  have hlen := h3.len
  rw [hb0]
  simp only
  rw [Tot.ite_iff]
  refine ⟨fun k => ?_, fun k => Tot.some_iff.2 (Tot.some_iff.2 h3)⟩
  have k : i ≤ a + n / 4 * 2 + 1 := by simp at k; omega
  obtain ⟨t, ht⟩ := hnxt sd
  rw [ht, Option.bind_some]
  have hand : (t.2 &&& (r5 - (1 : BitVec 64))).toNat < 2 * n := by
    rw [BitVec.toNat_and]
    exact Nat.lt_of_le_of_lt Nat.and_le_right hr5
  generalize (t.2 &&& (r5 - (1 : BitVec 64))).toNat = v at hand
  rw [w64_id (x := (v : Int)) (by omega) (by omega), Tot.bind_iff]
  have hoth : Tot (bif decide ((v : Int) ≥ (n : Int)) then (some (w64 ((v : Int) - (n : Int)))) else some (v : Int)) fun y => ∃ o : Nat, y = (o : Int) ∧ o < n := by
    rw [Tot.ite_iff]
    refine ⟨fun c => Tot.some_iff.2 ⟨v - n, ?_, ?_⟩, fun c => Tot.some_iff.2 ⟨v, rfl, ?_⟩⟩
    · simp at c; rw [w64_id (by omega) (by omega)]; omega
    · simp at c; omega
    · simp at c; omega
  refine hoth.mono ?_
  rintro y ⟨o, rfl, ho⟩
  have e7 : w64 ((a : Int) + (o : Int)) = ((a + o : Nat) : Int) := by rw [w64_id (by omega) (by omega)]; push_cast; rfl
  rw [e7]
  refine swap_step (a := a) (b := a + n) (i := i) (j := a + o) (by omega) (by omega) (by omega) fun x y hx hy hs => ?_
  rw [Tot.some_iff, w64_id (by omega) (by omega)]
  exact ⟨⟨i + 1, by push_cast; rfl, by omega, by omega, by omega, h3.trans hs⟩, by simp only; omega⟩
end
end Go.Proofs.Ytnljiedichjagaa
