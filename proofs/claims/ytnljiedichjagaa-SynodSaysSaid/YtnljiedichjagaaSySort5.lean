/-
  Sorting within a range: the quicksort that does not mind patterns.
-/
import Derived.Test.YtnljiedichjagaaSySort4
namespace Go.Proofs.Ytnljiedichjagaa
open Enc

section
variable {α : Type} {lt : α → α → Bool} {P : α → Prop}
/-- All pairs that are not both within a to b are in order already. -/
def Outer (lt : α → α → Bool) (A B a b : Nat) (m : List α) : Prop := ∀ (p q : Nat) x y, A ≤ p → p < q → q < B → ¬ (a ≤ p ∧ q < b) → m[p]? = some x → m[q]? = some y → lt y x = false
theorem Outer.sp {A B a b : Nat} {m m' : List α} (h : Outer lt A B a b m) (hA : A ≤ a) (hB : b ≤ B) (hs : SP a b m m') : Outer lt A B a b m' := by
  intro p q x y p1 p2 p3 p4 hx hy
  by_cases hp : a ≤ p ∧ p < b
  · have hq : ¬ (a ≤ q ∧ q < b) := by omega
    rw [hs.out hq] at hy
    exact hs.all (P := fun u => lt y u = false) (fun k u k1 k2 hu => h k q u y (by omega) (by omega) p3 (by omega) hu hy) p x hp.1 hp.2 hx
  · rw [hs.out hp] at hx
    by_cases hq : a ≤ q ∧ q < b
    · exact hs.all (P := fun v => lt v x = false) (fun k v k1 k2 hv => h p k x v p1 (by omega) (by omega) (by omega) hx hv) q y hq.1 hq.2 hy
    · rw [hs.out hq] at hy
      exact h p q x y p1 p2 p3 (by omega) hx hy
theorem Outer.done {A B a b : Nat} {m : List α} (h : Outer lt A B a b m) (hs : Srt lt a b m) : Srt lt A B m := by
  intro p q x y p1 p2 p3 hx hy
  by_cases hpq : a ≤ p ∧ q < b
  · exact hs p q x y hpq.1 p2 hpq.2 hx hy
  · exact h p q x y p1 p2 p3 hpq hx hy
theorem Outer.low {A B a b : Nat} {m : List α} (h : Outer lt A B a b m) (hA : A ≤ a) (hab : a ≤ b) (hB : b ≤ B) (hl : B ≤ m.length) (hlow : Low lt A B m) : Low lt a b m := by
  by_cases e : a = A
  · subst e; exact hlow.sub hB rfl
  · refine .inr ⟨m[a - 1]'(by omega), List.getElem?_eq_getElem (by omega), fun k u k1 k2 hu => ?_⟩
    have : m[a - 1]? = some (m[a - 1]'(by omega)) := List.getElem?_eq_getElem (by omega)
    exact h (a - 1) k _ u (by omega) (by omega) (by omega) (by omega) this hu

structure PdqFns (lt : α → α → Bool) (P : α → Prop) (fu : Nat) (ins heap brk rev : List α → Int → Int → Option (List α)) (chs : List α → Int → Int → Option (Int × Int)) (pis : List α → Int → Int → Option (List α × Bool))
    (pe : List α → Int → Int → Int → Option (List α × Int)) (pt : List α → Int → Int → Int → Option (List α × Int × Bool)) : Prop where
  ins : ∀ (m : List α) (a b : Nat), a ≤ b → b ≤ m.length → m.length < 2 ^ 16 → m.length + 10 < fu → AllP P m → Tot (ins m a b) fun r => SP a b m r ∧ Srt lt a b r
  heap : ∀ (m : List α) (a b : Nat), a < b → b ≤ m.length → m.length < 2 ^ 16 → m.length + 10 < fu → AllP P m → Tot (heap m a b) fun r => SP a b m r ∧ Srt lt a b r
  brk : ∀ (m : List α) (a b : Nat), a + 12 < b → b ≤ m.length → m.length < 2 ^ 16 → m.length + 10 < fu → Tot (brk m a b) (SP a b m)
  rev : ∀ (m : List α) (a b : Nat), a + 12 < b → b ≤ m.length → m.length < 2 ^ 16 → m.length + 10 < fu → Tot (rev m a b) (SP a b m)
  chs : ∀ (m : List α) (a b : Nat), a + 12 < b → b ≤ m.length → m.length < 2 ^ 16 → Tot (chs m a b) fun r => ∃ p : Nat, r.1 = (p : Int) ∧ a ≤ p ∧ p < b
  pis : ∀ (m : List α) (a b : Nat), a + 12 < b → b ≤ m.length → m.length < 2 ^ 16 → m.length + 10 < fu → AllP P m → Low lt a b m → Tot (pis m a b) fun r => SP a b m r.1 ∧ (r.2 = true → Srt lt a b r.1)
  pe : ∀ (m : List α) (a b c : Nat), a ≤ c → c < b → b ≤ m.length → m.length < 2 ^ 16 → m.length + 10 < fu → AllP P m → Tot (pe m a b c) fun r => ∃ (p : Nat) (x : α), r.2 = (p : Int) ∧ a < p ∧ p ≤ b ∧ SP a b m r.1 ∧ m[c]? = some x ∧ Equal2 lt a b p x r.1
  pt : ∀ (m : List α) (a b c : Nat), a ≤ c → c < b → b ≤ m.length → m.length < 2 ^ 16 → m.length + 10 < fu → Tot (pt m a b c) fun r => ∃ p : Nat, r.2.1 = (p : Int) ∧ a ≤ p ∧ p < b ∧ SP a b m r.1 ∧ Parted lt a b p r.1
theorem pdq_law (hlt : SWO P lt) {pdq : Nat → List α → Int → Int → Int → Option (List α)}
    {ins heap brk rev : Nat → List α → Int → Int → Option (List α)} {chs : List α → Int → Int → Option (Int × Int)} {pis : Nat → List α → Int → Int → Option (List α × Bool)}
    {pe : Nat → List α → Int → Int → Int → Option (List α × Int)} {pt : Nat → List α → Int → Int → Int → Option (List α × Int × Bool)}
    (hF : ∀ fu, PdqFns lt P fu (ins fu) (heap fu) (brk fu) (rev fu) chs (pis fu) (pe fu) (pt fu))
    {body : Nat → (List α → Int → Int → Int → Option (List α)) → Int × Int × Int × Bool × Bool × List α → Option (Ctl (Int × Int × Int × Bool × Bool × List α) (List α))}
    (hbody : ∀ fu rc z2, body fu rc z2 = bif decide ((w64 (z2.2.1 - z2.1)) ≤ (12 : Int)) then ((ins fu z2.2.2.2.2.2 z2.1 z2.2.1).bind fun r12 => some (.ret r12)) else
      bif z2.2.2.1 == (0 : Int) then ((heap fu z2.2.2.2.2.2 z2.1 z2.2.1).bind fun r17 => some (.ret r17)) else
      (bif !z2.2.2.2.1 then ((brk fu z2.2.2.2.2.2 z2.1 z2.2.1).bind fun r25 => some (w64 (z2.2.2.1 - (1 : Int)), r25)) else some (z2.2.2.1, z2.2.2.2.2.2)).bind fun (y21, l22) =>
      (chs l22 z2.1 z2.2.1).bind fun r31 =>
      (bif r31.2 == (2 : Int) then ((rev fu l22 z2.1 z2.2.1).bind fun r40 => some (w64 ((w64 (z2.2.1 - (1 : Int))) - (w64 (r31.1 - z2.1))), (1 : Int), r40)) else some (r31.1, r31.2, l22)).bind fun (y35, y36, l37) =>
      andThen ((bif z2.2.2.2.1 then (some z2.2.2.2.2.1) else some false).bind fun y49 => (bif y49 then (some (y36 == (1 : Int))) else some false).bind fun y54 =>
        bif y54 then ((pis fu l37 z2.1 z2.2.1).bind fun r59 => bif r59.2 then (some (.inr (.ret r59.1))) else some (.inl r59.1)) else some (.inl l37)) fun l46 =>
      (bif decide (z2.1 > (0 : Int)) then ((lat l46 (w64 (z2.1 - (1 : Int)))).bind fun x69 => (lat l46 y35).bind fun x72 => some (!(lt x69 x72))) else some false).bind fun y67 =>
      bif y67 then ((pe fu l46 z2.1 z2.2.1 y35).bind fun r80 => some (.go (r80.2, z2.2.1, y21, z2.2.2.2.1, z2.2.2.2.2.1, r80.1))) else
      (pt fu l46 z2.1 z2.2.1 y35).bind fun r84 =>
      bif decide ((w64 (r84.2.1 - z2.1)) < (w64 (z2.2.1 - r84.2.1))) then ((rc r84.1 z2.1 r84.2.1 y21).bind fun r93 => some (.go (w64 (r84.2.1 + (1 : Int)), z2.2.1, y21, decide ((w64 (r84.2.1 - z2.1)) ≥ (w64 ((w64 (z2.2.1 - z2.1)).tdiv (8 : Int)))), r84.2.2, r93))) else
      (rc r84.1 (w64 (r84.2.1 + (1 : Int))) z2.2.1 y21).bind fun r89 => some (.go (z2.1, r84.2.1, y21, decide ((w64 (z2.2.1 - r84.2.1)) ≥ (w64 ((w64 (z2.2.1 - z2.1)).tdiv (8 : Int)))), r84.2.2, r89)))
    (hpdq : ∀ fu l a b lim, pdq (fu + 1) l a b lim = andThen (whileM (body fu (pdq fu)) fu (a, b, lim, true, true, l)) fun _ => none) :
    ∀ (fu : Nat) (l : List α) (A B : Nat) (lim : Int), A ≤ B → B ≤ l.length → l.length < 2 ^ 16 → AllP P l → Low lt A B l → l.length + 20 + (B - A) < fu → Tot (pdq fu l A B lim) fun r => SP A B l r ∧ Srt lt A B r := by
  intro fu
  induction fu with
  | zero => intro l A B lim _ _ _ _ _ h; omega
  | succ fu ih =>
    intro l A B lim hAB hB hn hP hlow hfu
    have F := hF fu
    rw [hpdq, Tot.andThen_iff]
    refine Tot.whileM (fun z : Int × Int × Int × Bool × Bool × List α => ∃ a b : Nat, z.1 = (a : Int) ∧ z.2.1 = (b : Int) ∧ A ≤ a ∧ a ≤ b ∧ b ≤ B ∧ SP A B l z.2.2.2.2.2 ∧ Outer lt A B a b z.2.2.2.2.2) (fun z => (z.2.1 - z.1).toNat)
      ⟨A, B, rfl, rfl, Nat.le_refl _, hAB, Nat.le_refl _, SP.refl _ _ _, fun p q x y p1 p2 p3 p4 => by omega⟩ (by simp only; omega) ?_
    rintro ⟨z1, z2, limit, bal, par, m⟩ ⟨a, b, rfl, rfl, ha, hab, hb, hs, ho⟩
    simp only at hs ho
    have hlm := hs.len
    have hPm := hs.allP hP
    have hlowm : Low lt A B m := hlow.sp hs
    rw [hbody]
    simp only
    have e1 : w64 ((b : Int) - (a : Int)) = ((b - a : Nat) : Int) := by rw [w64_id (by omega) (by omega)]; omega
    rw [e1, Tot.ite_iff]
    refine ⟨fun _ => ?_, fun k => ?_⟩
    · rw [Tot.bind_iff]
      refine (F.ins m a b hab (by omega) (by omega) (by omega) hPm).mono ?_
      rintro r ⟨g1, g2⟩
      rw [Tot.some_iff]
      exact ⟨hs.trans (g1.wide ha hb), (ho.sp ha hb g1).done g2⟩
    · have k : 12 < b - a := by simp at k; omega
      rw [Tot.ite_iff]
      refine ⟨fun _ => ?_, fun _ => ?_⟩
      · rw [Tot.bind_iff]
        refine (F.heap m a b (by omega) (by omega) (by omega) (by omega) hPm).mono ?_
        rintro r ⟨g1, g2⟩
        rw [Tot.some_iff]
        exact ⟨hs.trans (g1.wide ha hb), (ho.sp ha hb g1).done g2⟩
      · -- patterns are broken, or not
        have hbr : Tot (bif !bal then ((brk fu m a b).bind fun r25 => some (w64 (limit - (1 : Int)), r25)) else some (limit, m)) fun r => SP a b m r.2 := by
          rw [Tot.ite_iff]
          refine ⟨fun _ => ?_, fun _ => Tot.some_iff.2 (SP.refl _ _ _)⟩
          rw [Tot.bind_iff]
          exact (F.brk m a b (by omega) (by omega) (by omega) (by omega)).mono fun r hr => Tot.some_iff.2 hr
        rw [Tot.bind_iff]
        refine hbr.mono ?_
        rintro ⟨lim1, m1⟩ h1
        simp only at h1
        have hl1 := h1.len
        simp only
        rw [Tot.bind_iff]
        refine (F.chs m1 a b (by omega) (by omega) (by omega)).mono ?_
        rintro ⟨pv, hint⟩ ⟨pp, rfl, hp1, hp2⟩
        simp only
        have hrv : Tot (bif hint == (2 : Int) then ((rev fu m1 a b).bind fun r40 => some (w64 ((w64 ((b : Int) - (1 : Int))) - (w64 ((pp : Int) - (a : Int)))), (1 : Int), r40)) else some ((pp : Int), hint, m1)) fun r => ∃ c : Nat, r.1 = (c : Int) ∧ a ≤ c ∧ c < b ∧ SP a b m1 r.2.2 := by
          rw [Tot.ite_iff]
          refine ⟨fun _ => ?_, fun _ => Tot.some_iff.2 ⟨pp, rfl, hp1, hp2, SP.refl _ _ _⟩⟩
          rw [Tot.bind_iff]
          refine (F.rev m1 a b (by omega) (by omega) (by omega) (by omega)).mono fun r hr => Tot.some_iff.2 ⟨b - 1 - (pp - a), ?_, by omega, by omega, hr⟩
          simp only
          rw [w64_id (x := (b : Int) - 1) (by omega) (by omega), w64_id (x := (pp : Int) - (a : Int)) (by omega) (by omega), w64_id (by omega) (by omega)]
          omega
        rw [Tot.bind_iff]
        refine hrv.mono ?_
        rintro ⟨cv, hint2, m2⟩ ⟨c, rfl, hc1, hc2, h2⟩
        simp only at h2
        simp only
        have h12 : SP a b m m2 := h1.trans h2
        have hl2 := h12.len
        have hs2 : SP A B l m2 := hs.trans (h12.wide ha hb)
        have ho2 := ho.sp ha hb h12
        have hP2 := hs2.allP hP
        have hlow2 := ho2.low ha hab hb (by omega) (hlow.sp hs2)
        rw [Tot.andThen_iff]
        have hpi : Tot ((bif bal then (some par) else some false).bind fun y49 => (bif y49 then (some (hint2 == (1 : Int))) else some false).bind fun y54 =>
            bif y54 then ((pis fu m2 a b).bind fun r59 => bif r59.2 then (some (Sum.inr (Ctl.ret (σ := Int × Int × Int × Bool × Bool × List α) r59.1))) else some (.inl r59.1)) else some (.inl m2)) fun o => (∃ m3, o = .inl m3 ∧ SP a b m2 m3) ∨ ∃ m3, o = .inr (.ret m3) ∧ SP a b m2 m3 ∧ Srt lt a b m3 := by
          rw [and_some, Option.bind_some, and_some, Option.bind_some, Tot.ite_iff]
          refine ⟨fun _ => ?_, fun _ => Tot.some_iff.2 (.inl ⟨m2, rfl, SP.refl _ _ _⟩)⟩
          rw [Tot.bind_iff]
          refine (F.pis m2 a b (by omega) (by omega) (by omega) (by omega) hP2 hlow2).mono ?_
          rintro ⟨m3, t⟩ ⟨g1, g2⟩
          rw [Tot.ite_iff]
          exact ⟨fun q => Tot.some_iff.2 (.inr ⟨m3, rfl, g1, g2 q⟩), fun _ => Tot.some_iff.2 (.inl ⟨m3, rfl, g1⟩)⟩
        refine hpi.mono ?_
        rintro o (⟨m3, rfl, h3⟩ | ⟨m3, rfl, h3, h4⟩)
        rotate_left
        · exact ⟨hs2.trans (h3.wide ha hb), (ho2.sp ha hb h3).done h4⟩
        show Tot (Option.bind _ _) _
        have hl3 := h3.len
        have hs3 : SP A B l m3 := hs2.trans (h3.wide ha hb)
        have ho3 := ho2.sp ha hb h3
        have hP3 := hs3.allP hP
        have hlow3 := ho3.low ha hab hb (by omega) (hlow.sp hs3)
        have hcm : c < m3.length := by omega
        have hc : m3[c]? = some m3[c] := by simp [hcm]
        have htest : Tot (bif decide ((a : Int) > (0 : Int)) then ((lat m3 (w64 ((a : Int) - (1 : Int)))).bind fun x69 => (lat m3 (c : Int)).bind fun x72 => some (!(lt x69 x72))) else some false) fun t => t = true → ∃ w, 0 < a ∧ m3[a - 1]? = some w ∧ lt w m3[c] = false := by
          rw [Tot.ite_iff]
          refine ⟨fun q => ?_, fun _ => Tot.some_iff.2 fun e => by cases e⟩
          have q : 0 < a := by simp at q; omega
          have e2 : w64 ((a : Int) - 1) = ((a - 1 : Nat) : Int) := by rw [w64_id (by omega) (by omega)]; omega
          rw [e2, lat_i (show a - 1 < m3.length by omega), Option.bind_some, lat_i hcm, Option.bind_some, Tot.some_iff]
          intro t
          exact ⟨_, q, List.getElem?_eq_getElem (by omega), by simpa using t⟩
        rw [Tot.bind_iff]
        refine htest.mono fun t ht => ?_
        rw [Tot.ite_iff]
        refine ⟨fun q => ?_, fun _ => ?_⟩
        · -- all up to p are equal
          obtain ⟨w, hw0, hw1, hw2⟩ := ht q
          rw [Tot.bind_iff]
          refine (F.pe m3 a b c hc1 hc2 (by omega) (by omega) (by omega) hP3).mono ?_
          rintro ⟨m4, pv⟩ ⟨p, x, rfl, hp3, hp4, h4, hx, he1, he2, he3⟩
          simp only at h4 he1 he2 he3
          rw [hc] at hx
          obtain rfl := Option.some.inj hx
          have hs4 : SP A B l m4 := hs3.trans (h4.wide ha hb)
          have ho4 := ho3.sp ha hb h4
          have hP4 := hs4.allP hP
          have hPw : P w := hP3.at hw1
          have hPx : P m3[c] := hP3.at hc
          rw [Tot.some_iff]
          refine ⟨⟨p, b, rfl, rfl, by omega, hp4, hb, hs4, fun i j u v i1 i2 i3 i4 hu hv => ?_⟩, by simp only; omega⟩
          simp only at hu hv
          by_cases hij : a ≤ i ∧ j < b
          · have hPu := hP4.at hu
            have hPv := hP4.at hv
            have hux := he2 i u hij.1 (by omega) hu
            by_cases hjp : j < p
            · -- both are equal to what lies ahead of the range
              rcases hlow3 with h0 | ⟨w', w1, w2⟩
              · omega
              · rw [hw1] at w1
                obtain rfl := Option.some.inj w1
                have hvw : lt v w = false := h4.all (P := fun u => lt u w = false) w2 j v (by omega) hij.2 hv
                have hvx := hlt.ntrans _ _ _ hPx hPw hPv hw2 hvw
                exact hlt.ntrans _ _ _ hPu hPx hPv hux hvx
            · have hxv := he3 j v (by omega) hij.2 hv
              exact hlt.ntrans _ _ _ hPu hPx hPv hux (hlt.asymm _ _ hPx hPv hxv)
          · exact ho4 i j u v i1 i2 i3 hij hu hv
        · rw [Tot.bind_iff]
          refine (F.pt m3 a b c hc1 hc2 (by omega) (by omega) (by omega)).mono ?_
          rintro ⟨m4, pv, par'⟩ ⟨p, rfl, hp3, hp4, h4, x, hx, hlo, hhi⟩
          simp only at h4 hx hlo hhi
          simp only
          have hl4 := h4.len
          have hs4 : SP A B l m4 := hs3.trans (h4.wide ha hb)
          have ho4 := ho3.sp ha hb h4
          have hP4 := hs4.allP hP
          have hlow4 := ho4.low ha hab hb (by omega) (hlow.sp hs4)
          have hPx := hP4.at hx
          have e3 : w64 ((p : Int) + 1) = ((p + 1 : Nat) : Int) := by rw [w64_id (by omega) (by omega)]; push_cast; rfl
          rw [e3, Tot.ite_iff]
          refine ⟨fun _ => ?_, fun _ => ?_⟩
          · rw [Tot.bind_iff]
            refine (ih m4 a p lim1 hp3 (by omega) (by omega) hP4 (hlow4.sub (by omega) rfl) (by omega)).mono ?_
            rintro m5 ⟨g1, g2⟩
            rw [Tot.some_iff]
            have h5 : SP a b m4 m5 := g1.wide (Nat.le_refl _) (by omega)
            have hs5 : SP A B l m5 := hs4.trans (h5.wide ha hb)
            have hP5 := hs5.allP hP
            refine ⟨⟨p + 1, b, rfl, rfl, by omega, by omega, hb, hs5, fun i j u v i1 i2 i3 i4 hu hv => ?_⟩, by simp only; omega⟩
            simp only at hu hv
            by_cases hij : a ≤ i ∧ j < b
            · have hPu := hP5.at hu
              have hPv := hP5.at hv
              have low5 : ∀ k u, a ≤ k → k < p → m5[k]? = some u → lt u x = true := g1.all (P := fun u => lt u x = true) hlo
              by_cases hjp : j < p
              · exact g2 i j u v hij.1 i2 hjp hu hv
              · by_cases ejp : j = p
                · subst ejp
                  rw [g1.out (by omega), hx] at hv
                  obtain rfl := Option.some.inj hv
                  exact hlt.asymm _ _ hPu hPx (low5 i u hij.1 (by omega) hu)
                · have hv' := hv
                  rw [g1.out (by omega)] at hv'
                  have hvx := hhi j v (by omega) hij.2 hv'
                  by_cases eip : i = p
                  · subst eip
                    rw [g1.out (by omega), hx] at hu
                    obtain rfl := Option.some.inj hu
                    exact hvx
                  · exact hlt.ntrans _ _ _ hPu hPx hPv (hlt.asymm _ _ hPu hPx (low5 i u hij.1 (by omega) hu)) hvx
            · exact (ho4.sp ha hb h5) i j u v i1 i2 i3 hij hu hv
          · rw [Tot.bind_iff]
            have hlowr : Low lt (p + 1) b m4 := .inr ⟨x, by rw [Nat.add_sub_cancel]; exact hx, fun k u k1 k2 hu => hhi k u (by omega) k2 hu⟩
            refine (ih m4 (p + 1) b lim1 (by omega) (by omega) (by omega) hP4 hlowr (by omega)).mono ?_
            rintro m5 ⟨g1, g2⟩
            rw [Tot.some_iff]
            have h5 : SP a b m4 m5 := g1.wide (by omega) (Nat.le_refl _)
            have hs5 : SP A B l m5 := hs4.trans (h5.wide ha hb)
            have hP5 := hs5.allP hP
            refine ⟨⟨a, p, rfl, rfl, ha, hp3, by omega, hs5, fun i j u v i1 i2 i3 i4 hu hv => ?_⟩, by simp only; omega⟩
            simp only at hu hv
            by_cases hij : a ≤ i ∧ j < b
            · have hPu := hP5.at hu
              have hPv := hP5.at hv
              have high5 : ∀ k u, p + 1 ≤ k → k < b → m5[k]? = some u → lt u x = false := g1.all (P := fun u => lt u x = false) fun k u k1 k2 hu => hhi k u (by omega) k2 hu
              by_cases hip : p < i
              · exact g2 i j u v (by omega) i2 hij.2 hu hv
              · have hu' := hu
                rw [g1.out (by omega)] at hu'
                by_cases ejp : j = p
                · subst ejp
                  rw [g1.out (by omega), hx] at hv
                  obtain rfl := Option.some.inj hv
                  exact hlt.asymm _ _ hPu hPx (hlo i u hij.1 (by omega) hu')
                · have hvx := high5 j v (by omega) hij.2 hv
                  by_cases eip : i = p
                  · subst eip
                    rw [hx] at hu'
                    obtain rfl := Option.some.inj hu'
                    exact hvx
                  · exact hlt.ntrans _ _ _ hPu hPx hPv (hlt.asymm _ _ hPu hPx (hlo i u hij.1 (by omega) hu')) hvx
            · exact (ho4.sp ha hb h5) i j u v i1 i2 i3 hij hu hv

/-! ### The choice of a pivot -/
theorem order2_law {S : Int → Prop} {m : List α} {i j s : Int} (hi : S i) (hj : S j) (hS : ∀ k, S k → ∃ x, lat m k = some x) {σ : Type} {Q : σ → Prop} {f : Int × Int × Int → Option σ} (hf : ∀ s' i' j', S i' → S j' → Tot (f (s', i', j')) Q) :
    Tot (((lat m j).bind fun x2 => (lat m i).bind fun x5 => bif lt x2 x5 then (some (w64 (s + (1 : Int)), j, i)) else some (s, i, j)).bind f) Q := by
  obtain ⟨x, hx⟩ := hS i hi
  obtain ⟨y, hy⟩ := hS j hj
  rw [hx, hy, Option.bind_some, Option.bind_some]
  cases lt y x with
  | true => exact hf _ _ _ hj hi
  | false => exact hf _ _ _ hi hj
end
end Go.Proofs.Ytnljiedichjagaa
