/-
  Sorting within a range: the partition of equal ones; heaps.
-/
import Derived.Test.YtnljiedichjagaaSySort2
namespace Go.Proofs.Ytnljiedichjagaa
open Enc

section
variable {α τ : Type} {lt : α → α → Bool}
theorem bind_comm {β γ δ : Type} (x : Option β) (y : Option γ) (f : β → γ → Option δ) : (x.bind fun u => y.bind fun v => f u v) = y.bind fun v => x.bind fun u => f u v := by cases x <;> cases y <;> rfl
/-- What is not greater than the first one ahead, what is greater behind. -/
def Equal2 (lt : α → α → Bool) (a b p : Nat) (x : α) (m : List α) : Prop := m[a]? = some x ∧ (∀ (q : Nat) u, a ≤ q → q < p → m[q]? = some u → lt x u = false) ∧ ∀ (q : Nat) u, p ≤ q → q < b → m[q]? = some u → lt x u = true
theorem partEqual_law {a b c fu : Nat} {l : List α} (hirr : ∀ x ∈ l, lt x x = false) (hac : a ≤ c) (hcb : c < b) (hb : b ≤ l.length) (hn : l.length ≤ 2 ^ 40) (hfu : b + 3 < fu)
    {b2 : Int → List α → Int → Option (Ctl Int (Ctl (Int × Int × List α) τ))} (hb2 : ∀ y m z, b2 y m z = (bif decide (z ≤ y) then ((lat m (a : Int)).bind fun u => (lat m z).bind fun v => some (!(lt u v))) else some false).bind fun c => bif c then some (.go (w64 (z + 1))) else some (.brk z))
    {b4 : List α → Int → Int → Option (Ctl Int (Ctl (Int × Int × List α) τ))} (hb4 : ∀ m y z, b4 m y z = (bif decide (y ≤ z) then ((lat m (a : Int)).bind fun u => (lat m z).bind fun v => some (lt u v)) else some false).bind fun c => bif c then some (.go (w64 (z - 1))) else some (.brk z))
    {b0 : Int × Int × List α → Option (Ctl (Int × Int × List α) τ)} (hb0 : ∀ z, b0 z = andThen (whileM (b2 z.2.1 z.2.2) fu z.1) fun y => andThen (whileM (b4 z.2.2 y) fu z.2.1) fun y' =>
      bif decide (y > y') then (some (.brk (y, y', z.2.2))) else (lat z.2.2 y').bind fun x1 => (lat z.2.2 y).bind fun x2 => (lat z.2.2 y).bind fun _ => Let (z.2.2.set y.toNat x1) fun p => Let p fun q => (lat q y').bind fun _ => Let (q.set y'.toNat x2) fun r => some (.go (w64 (y + 1), w64 (y' - 1), r)))
    {σ : Type} {Q : σ → Prop} {f : Int × Int × List α → Option σ} {g : τ → Option σ} (hf : ∀ (p : Nat) (j : Int) (x : α) (m : List α), a < p → p ≤ b → SP a b l m → l[c]? = some x → Equal2 lt a b p x m → Tot (f ((p : Int), j, m)) Q) :
    Tot ((lat l (c : Int)).bind fun x2 => (lat l (a : Int)).bind fun x5 => (lat l (a : Int)).bind fun _ => Let (l.set (a : Int).toNat x2) fun p11 => Let p11 fun l14 => (lat l14 (c : Int)).bind fun _ => Let (l14.set (c : Int).toNat x5) fun p34 =>
      (whileM b0 fu (w64 ((a : Int) + 1), w64 ((b : Int) - 1), p34)).bind (Sum.elim f g)) Q := by
  refine swap_hd (i := a) (j := c) (by omega) (by omega) fun x0 x hx0 hx => ?_
  have hs0 : SP a b l ((l.set a x).set c x0) := SP.swap (by omega) (by omega) hx0 hx
  have hm0 : ((l.set a x).set c x0)[a]? = some x := by
    rw [swap_at hx0 hx]
    by_cases e : a = c
    · subst e; rw [if_pos rfl]; rw [hx0] at hx; exact hx
    · rw [if_neg e, if_pos rfl]
  generalize (l.set a x).set c x0 = m at hs0 hm0
  have hxx := hirr x (List.mem_of_getElem? hx)
  have hlm := hs0.len
  have e1 : w64 ((b : Int) - 1) = ((b - 1 : Nat) : Int) := by rw [w64_id (by omega) (by omega)]; omega
  have e2 : w64 ((a : Int) + 1) = ((a + 1 : Nat) : Int) := by rw [w64_id (by omega) (by omega)]; push_cast; rfl
  rw [e1, e2, Tot.bind_iff]
  have hp0 : Part (fun u v => !(lt v u)) a b x (a + 1) (b - 1) m := ⟨hm0, by omega, by omega, by omega, fun p y h1 h2 => by omega, fun p y h1 h2 => by omega⟩
  refine Tot.whileM (fun z : Int × Int × List α => ∃ i j : Nat, z.1 = (i : Int) ∧ z.2.1 = (j : Int) ∧ Part (fun u v => !(lt v u)) a b x i j z.2.2 ∧ SP a b l z.2.2) (fun z => (z.2.1 + 1 - z.1).toNat) ⟨a + 1, b - 1, rfl, rfl, hp0, hs0⟩ (by simp only; omega) ?_
  rintro ⟨z1, z2, m'⟩ ⟨i', j', r1, r2, hp', hs'⟩
  simp only at r1 r2 hp' hs'
  subst r1 r2
  have hl' := hs'.len
  rw [hb0]
  unfold andThen
  simp only
  refine part_scans (lt := fun u v => !(lt v u)) (f := fun y y' => _) hp' (by omega) (by omega) hfu (fun z => by rw [hb2, bind_comm]) (fun y z => by rw [hb4, bind_comm]; simp only [Bool.not_not]) ?_
  intro i2 j2 hp2 hi2 hj2 hij2
  by_cases hji2 : j2 < i2
  · rw [decide_eq_true (show (i2 : Int) > j2 by omega), cond_true, Tot.some_iff]
    have h1 := hp2.meet; have h2 := hp2.lo; have h3 := hp2.hi
    refine hf i2 j2 x m' hp2.lo (by omega) hs' hx ⟨hp2.piv, fun q u q1 q2 hu => ?_, fun q u q1 q2 hu => ?_⟩
    · by_cases e : q = a
      · subst e; rw [hp2.piv] at hu; obtain rfl := Option.some.inj hu; exact hxx
      · have := hp2.low q u (by omega) q2 hu
        simpa using this
    · have := hp2.high q u (by omega) q2 hu
      simpa using this
  · rw [decide_eq_false (show ¬ (i2 : Int) > j2 by omega), cond_false]
    obtain ⟨u2, v2, hu2, hv2, hu3, hv3⟩ := hij2 (by omega)
    have hhi2 := hp2.hi
    have hlo2 := hp2.lo
    refine swap_hd (i := i2) (j := j2) (by omega) (by omega) fun u' v' hu' hv' => ?_
    rw [hu2] at hu'; obtain rfl := Option.some.inj hu'
    rw [hv2] at hv'; obtain rfl := Option.some.inj hv'
    obtain ⟨hp3, hne3⟩ := part_swap hp2 (by omega) hu2 hv2 hu3 hv3
    rw [Tot.some_iff, w64_id (by omega) (by omega), w64_id (by omega) (by omega)]
    exact ⟨⟨i2 + 1, j2 - 1, by push_cast; rfl, by simp only; omega, hp3, hs'.trans (SP.swap (a := a) (b := b) (by omega) (by omega) hu2 hv2)⟩, by simp only; omega⟩

/-! ### Heaps -/
def Child (i c : Nat) : Prop := c = 2 * i + 1 ∨ c = 2 * i + 2
/-- From lo on no element is less than its children below hi. -/
def Hp (lt : α → α → Bool) (f lo hi : Nat) (m : List α) : Prop := ∀ (i c : Nat) x y, lo ≤ i → Child i c → c < hi → m[f + i]? = some x → m[f + c]? = some y → lt x y = false
theorem sift_law {P : α → Prop} (hlt : SWO P lt) {f lo hi fu : Nat} {l : List α} (hlo : lo < hi) (hb : f + hi ≤ l.length) (hn : l.length ≤ 2 ^ 40) (hP : AllP P l) (hfu : hi < fu) (hh : Hp lt f (lo + 1) hi l)
    {body : Int × List α → Option (Ctl (Int × List α) (List α))} (hbody : ∀ z2, body z2 = bif decide ((w64 ((w64 ((2 : Int) * z2.1)) + (1 : Int))) ≥ (hi : Int)) then (some (.brk (z2.1, z2.2))) else
      ((bif decide ((w64 ((w64 ((w64 ((2 : Int) * z2.1)) + (1 : Int))) + (1 : Int))) < (hi : Int)) then ((lat z2.2 (w64 ((f : Int) + (w64 ((w64 ((2 : Int) * z2.1)) + (1 : Int)))))).bind fun x13 => (lat z2.2 (w64 ((w64 ((f : Int) + (w64 ((w64 ((2 : Int) * z2.1)) + (1 : Int))))) + (1 : Int)))).bind fun x16 => some (lt x13 x16)) else some false).bind fun y11 =>
      bif y11 then (some (w64 ((w64 ((w64 ((2 : Int) * z2.1)) + (1 : Int))) + (1 : Int)))) else some (w64 ((w64 ((2 : Int) * z2.1)) + (1 : Int)))).bind fun y8 =>
      (lat z2.2 (w64 ((f : Int) + z2.1))).bind fun x26 => (lat z2.2 (w64 ((f : Int) + y8))).bind fun x29 =>
      bif !(lt x26 x29) then (some (.ret z2.2)) else
      (lat z2.2 (w64 ((f : Int) + y8))).bind fun x37 => (lat z2.2 (w64 ((f : Int) + z2.1))).bind fun x40 => (lat z2.2 (w64 ((f : Int) + z2.1))).bind fun _ =>
      Let (z2.2.set (w64 ((f : Int) + z2.1)).toNat x37) fun p46 => Let p46 fun l49 => (lat l49 (w64 ((f : Int) + y8))).bind fun _ => Let (l49.set (w64 ((f : Int) + y8)).toNat x40) fun p69 => some (.go (y8, p69))) :
    Tot (andThen (whileM body fu ((lo : Int), l)) fun (_, l4) => some l4) fun m => SP (f + lo) (f + hi) l m ∧ Hp lt f lo hi m := by
  rw [Tot.andThen_iff]
  refine Tot.whileM (fun z : Int × List α => ∃ r : Nat, z.1 = (r : Int) ∧ lo ≤ r ∧ r < hi ∧ SP (f + lo) (f + hi) l z.2 ∧ (∀ (i c : Nat) x y, lo ≤ i → i ≠ r → Child i c → c < hi → z.2[f + i]? = some x → z.2[f + c]? = some y → lt x y = false) ∧ (∀ (p c : Nat) x y, lo ≤ p → Child p r → Child r c → c < hi → z.2[f + p]? = some x → z.2[f + c]? = some y → lt x y = false)) (fun z => ((hi : Int) - z.1).toNat)
    ⟨lo, rfl, Nat.le_refl _, hlo, SP.refl _ _ _, fun i c x y h1 h2 h3 h4 hx hy => hh i c x y (by omega) h3 h4 hx hy, fun p c x y h1 h2 => by unfold Child at h2; omega⟩ (by simp only; omega) ?_
  rintro ⟨z, m⟩ ⟨r, rfl, h1, h2, h3, h4, h5⟩
  simp only at h3 h4 h5
  have hlen := h3.len
  have hPm := h3.allP hP
  have at' : ∀ k, k < hi → m[f + k]? = some (m[f + k]?.getD (m[f]'(by omega))) := fun k hk => by
    have : f + k < m.length := by omega
    simp [this]
  rw [hbody]
  simp only
  have e2 : w64 ((2 : Int) * (r : Int)) = ((2 * r : Nat) : Int) := by rw [w64_id (by omega) (by omega)]; push_cast; rfl
  have e3 : w64 (((2 * r : Nat) : Int) + 1) = ((2 * r + 1 : Nat) : Int) := by rw [w64_id (by omega) (by omega)]; push_cast; rfl
  have e4 : w64 (((2 * r + 1 : Nat) : Int) + 1) = ((2 * r + 2 : Nat) : Int) := by rw [w64_id (by omega) (by omega)]; push_cast; omega
  have e5 : w64 ((f : Int) + ((2 * r + 1 : Nat) : Int)) = ((f + (2 * r + 1) : Nat) : Int) := by rw [w64_id (by omega) (by omega)]; push_cast; rfl
  have e6 : w64 (((f + (2 * r + 1) : Nat) : Int) + 1) = ((f + (2 * r + 2) : Nat) : Int) := by rw [w64_id (by omega) (by omega)]; push_cast; omega
  have e7 : w64 ((f : Int) + (r : Int)) = ((f + r : Nat) : Int) := by rw [w64_id (by omega) (by omega)]; push_cast; rfl
  rw [e2, e3, e4, e5, e6, e7, Tot.ite_iff]
  refine ⟨fun k => ?_, fun k => ?_⟩
  · have k : hi ≤ 2 * r + 1 := by simp at k; omega
    rw [Tot.some_iff]
    show Tot (some m) _
    refine Tot.some_iff.2 ⟨h3, fun i c x y i1 i2 i3 hx hy => ?_⟩
    by_cases e : i = r
    · subst e; unfold Child at i2; omega
    · exact h4 i c x y i1 e i2 i3 hx hy
  · have k : 2 * r + 1 < hi := by simp at k; omega
    -- the greater child
    have hch : Tot ((bif decide (((2 * r + 2 : Nat) : Int) < (hi : Int)) then ((lat m ((f + (2 * r + 1) : Nat) : Int)).bind fun x13 => (lat m ((f + (2 * r + 2) : Nat) : Int)).bind fun x16 => some (lt x13 x16)) else some false).bind fun y11 =>
        bif y11 then (some ((2 * r + 2 : Nat) : Int)) else some ((2 * r + 1 : Nat) : Int)) fun y => ∃ c : Nat, y = (c : Int) ∧ Child r c ∧ c < hi ∧ ∀ c' x y, Child r c' → c' < hi → m[f + c]? = some x → m[f + c']? = some y → lt x y = false := by
      have irr : ∀ x, P x → lt x x = false := fun x hx => by
        cases hq : lt x x with
        | false => rfl
        | true => have := hlt.asymm x x hx hx hq; rw [hq] at this; exact this
      rw [Tot.bind_iff, Tot.ite_iff]
      refine ⟨fun q => ?_, fun q => ?_⟩
      · have q : 2 * r + 2 < hi := by simp at q; omega
        have a1 := at' (2 * r + 1) k
        have a2 := at' (2 * r + 2) q
        rw [lat_nat, lat_nat, a1, Option.bind_some, a2, Option.bind_some, Tot.some_iff, Tot.ite_iff]
        refine ⟨fun t => Tot.some_iff.2 ⟨2 * r + 2, rfl, .inr rfl, q, fun c' x y hc _ hx hy => ?_⟩, fun t => Tot.some_iff.2 ⟨2 * r + 1, rfl, .inl rfl, k, fun c' x y hc _ hx hy => ?_⟩⟩
        · rw [a2] at hx
          obtain rfl := Option.some.inj hx
          rcases hc with rfl | rfl
          · rw [a1] at hy; obtain rfl := Option.some.inj hy
            exact hlt.asymm _ _ (hPm.at a1) (hPm.at a2) t
          · rw [a2] at hy; obtain rfl := Option.some.inj hy
            exact irr _ (hPm.at a2)
        · rw [a1] at hx
          obtain rfl := Option.some.inj hx
          rcases hc with rfl | rfl
          · rw [a1] at hy; obtain rfl := Option.some.inj hy
            exact irr _ (hPm.at a1)
          · rw [a2] at hy; obtain rfl := Option.some.inj hy
            exact t
      · have q : ¬ 2 * r + 2 < hi := by simp at q; omega
        rw [Tot.some_iff, cond_false, Tot.some_iff]
        refine ⟨2 * r + 1, rfl, .inl rfl, k, fun c' x y hc hc' hx hy => ?_⟩
        rcases hc with rfl | rfl
        · rw [hx] at hy; obtain rfl := Option.some.inj hy
          exact irr _ (hPm.at hx)
        · omega
    rw [Tot.bind_iff]
    refine hch.mono ?_
    rintro y ⟨c, rfl, hc, hchi, hmax⟩
    have e8 : w64 ((f : Int) + (c : Int)) = ((f + c : Nat) : Int) := by rw [w64_id (by omega) (by omega)]; push_cast; rfl
    have ar := at' r h2
    have ac := at' c hchi
    rw [e8]
    have hrc : c ≠ r := by unfold Child at hc; omega
    rw [lat_nat, ar, Option.bind_some, lat_nat, ac, Option.bind_some, Tot.ite_iff]
    refine ⟨fun t => ?_, fun t => ?_⟩
    · have t : lt (m[f + r]?.getD (m[f]'(by omega))) (m[f + c]?.getD (m[f]'(by omega))) = false := by simpa using t
      refine Tot.some_iff.2 ?_
      show SP (f + lo) (f + hi) l m ∧ Hp lt f lo hi m
      refine ⟨h3, fun i c' x y i1 i2 i3 hx hy => ?_⟩
      by_cases e : i = r
      · subst e
        have := hmax c' _ y i2 i3 ac hy
        rw [ar] at hx
        obtain rfl := Option.some.inj hx
        exact hlt.ntrans _ _ _ (hPm.at hy) (hPm.at ac) (hPm.at ar) this t
      · exact h4 i c' x y i1 e i2 i3 hx hy
    · have t : lt (m[f + r]?.getD (m[f]'(by omega))) (m[f + c]?.getD (m[f]'(by omega))) = true := by simpa using t
      have := swap_step (a := f + lo) (b := f + hi) (i := f + r) (j := f + c) (m := m) (by omega) (by unfold Child at hc; omega) (by omega) (β := Ctl (Int × List α) (List α)) (f := fun p69 => some (.go ((c : Int), p69)))
        (Q := Tot.CtlOk (fun z : Int × List α => (∃ r : Nat, z.1 = (r : Int) ∧ lo ≤ r ∧ r < hi ∧ SP (f + lo) (f + hi) l z.2 ∧ (∀ (i c : Nat) x y, lo ≤ i → i ≠ r → Child i c → c < hi → z.2[f + i]? = some x → z.2[f + c]? = some y → lt x y = false) ∧ (∀ (p c : Nat) x y, lo ≤ p → Child p r → Child r c → c < hi → z.2[f + p]? = some x → z.2[f + c]? = some y → lt x y = false)) ∧ ((hi : Int) - z.1).toNat < ((hi : Int) - (r : Int)).toNat) (fun s => Tot (match s with | (_, l4) => some l4) fun m => SP (f + lo) (f + hi) l m ∧ Hp lt f lo hi m) (fun t => SP (f + lo) (f + hi) l t ∧ Hp lt f lo hi t)) ?_
      · rw [lat_nat, ac, Option.bind_some, lat_nat, ar, Option.bind_some, Option.bind_some, Tot.let_iff, Tot.let_iff] at this
        rw [ac, Option.bind_some, ar, Option.bind_some, Option.bind_some, Tot.let_iff, Tot.let_iff]
        exact this
      · intro x y hx hy hs
        rw [ar] at hx; obtain rfl := Option.some.inj hx
        rw [ac] at hy; obtain rfl := Option.some.inj hy
        have sw := fun k => swap_at (k := k) ar ac
        have px := hPm.at ar
        have py := hPm.at ac
        generalize m[f + r]?.getD (m[f]'(by omega)) = x at *
        generalize m[f + c]?.getD (m[f]'(by omega)) = y at *
        refine Tot.some_iff.2 ⟨⟨c, rfl, by unfold Child at hc; omega, hchi, h3.trans hs, fun i c' u v i1 i2 i3 i4 hu hv => ?_, fun p c' u v i1 i2 i3 i4 hu hv => ?_⟩, ?_⟩
        · simp only at hu hv
          rw [sw] at hu hv
          rw [if_neg (by omega)] at hu
          by_cases e : i = r
          · subst e
            rw [if_pos rfl] at hu
            obtain rfl := Option.some.inj hu
            by_cases e' : c' = c
            · subst e'
              rw [if_pos rfl] at hv
              obtain rfl := Option.some.inj hv
              exact hlt.asymm _ _ px py t
            · rw [if_neg (by omega), if_neg (by unfold Child at i3; omega)] at hv
              exact hmax c' y v i3 i4 ac hv
          · rw [if_neg (by omega)] at hu
            have hcc : c' ≠ c := by unfold Child at i3 hc; omega
            rw [if_neg (by omega)] at hv
            by_cases e' : c' = r
            · subst e'
              rw [if_pos rfl] at hv
              obtain rfl := Option.some.inj hv
              exact h5 i c u y i1 i3 hc hchi hu ac
            · rw [if_neg (by omega)] at hv
              exact h4 i c' u v i1 e i3 i4 hu hv
        · simp only at hu hv
          have ep : p = r := by unfold Child at i2 hc; omega
          subst ep
          rw [sw] at hu hv
          rw [if_neg (by omega), if_pos rfl] at hu
          obtain rfl := Option.some.inj hu
          rw [if_neg (by unfold Child at i3; omega), if_neg (by unfold Child at i2 i3; omega)] at hv
          exact h4 c c' _ v (by unfold Child at hc; omega) hrc i3 i4 ac hv
        · simp only
          unfold Child at hc; omega
theorem Hp.root {P : α → Prop} (hlt : SWO P lt) {f hi : Nat} {m : List α} (hP : AllP P m) (hb : f + hi ≤ m.length) (h : Hp lt f 0 hi m) : ∀ (k : Nat) x y, k < hi → m[f]? = some x → m[f + k]? = some y → lt x y = false := by
  intro k
  induction k using Nat.strongRecOn with
  | _ k ih =>
    intro x y hk hx hy
    by_cases e : k = 0
    · subst e
      rw [Nat.add_zero, hx] at hy
      obtain rfl := Option.some.inj hy
      cases hq : lt x x with
      | false => rfl
      | true => have := hlt.asymm x x (hP.at hx) (hP.at hx) hq; rw [hq] at this; exact this
    · have hp : f + (k - 1) / 2 < m.length := by omega
      have ep : m[f + (k - 1) / 2]? = some m[f + (k - 1) / 2] := by simp [hp]
      have h1 := ih ((k - 1) / 2) (by omega) x _ (by omega) hx ep
      have h2 := h ((k - 1) / 2) k _ y (by omega) (by unfold Child; omega) hk ep hy
      exact hlt.ntrans _ _ _ (hP.at hy) (hP.at ep) (hP.at hx) h2 h1
theorem heap_law {P : α → Prop} (hlt : SWO P lt) {a b fu : Nat} {l : List α} (hab : a < b) (hb : b ≤ l.length) (hn : l.length ≤ 2 ^ 40) (hP : AllP P l) (hfu : b + 2 < fu)
    {sift : List α → Int → Int → Int → Option (List α)} (hsift : ∀ (m : List α) (lo hi : Nat), lo < hi → a + hi ≤ m.length → m.length ≤ 2 ^ 40 → hi < fu → AllP P m → Hp lt a (lo + 1) hi m → Tot (sift m (lo : Int) (hi : Int) (a : Int)) fun m' => SP (a + lo) (a + hi) m m' ∧ Hp lt a lo hi m')
    (hsift0 : ∀ m, sift m 0 0 (a : Int) = some m)
    {b0 : Int × List α → Option (Ctl (Int × List α) (List α))} (hb0 : ∀ z, b0 z = bif decide (z.1 ≥ (0 : Int)) then ((sift z.2 z.1 (w64 ((b : Int) - (a : Int))) (a : Int)).bind fun r => some (.go (w64 (z.1 - (1 : Int)), r))) else some (.brk (z.1, z.2)))
    {b2 : Int × List α → Option (Ctl (Int × List α) (List α))} (hb2 : ∀ z, b2 z = bif decide (z.1 ≥ (0 : Int)) then ((lat z.2 (w64 ((a : Int) + z.1))).bind fun x14 => (lat z.2 (a : Int)).bind fun x17 => (lat z.2 (a : Int)).bind fun _ => Let (z.2.set (a : Int).toNat x14) fun p23 => Let p23 fun l26 => (lat l26 (w64 ((a : Int) + z.1))).bind fun _ => Let (l26.set (w64 ((a : Int) + z.1)).toNat x17) fun p46 =>
      (sift p46 (0 : Int) z.1 (a : Int)).bind fun r48 => some (.go (w64 (z.1 - (1 : Int)), r48))) else some (.brk (z.1, z.2))) :
    Tot (andThen (whileM b0 fu (w64 ((w64 ((w64 ((b : Int) - (a : Int))) - (1 : Int))).tdiv (2 : Int)), l)) fun (_, l4) => andThen (whileM b2 fu (w64 ((w64 ((b : Int) - (a : Int))) - (1 : Int)), l4)) fun (_, l10) => some l10) fun m => SP a b l m ∧ Srt lt a b m := by
  obtain ⟨n, rfl⟩ : ∃ n, b = a + n := ⟨b - a, by omega⟩
  have e1 : w64 (((a + n : Nat) : Int) - (a : Int)) = (n : Int) := by rw [w64_id (by omega) (by omega)]; push_cast; omega
  have e2 : w64 ((n : Int) - 1) = ((n - 1 : Nat) : Int) := by rw [w64_id (by omega) (by omega)]; omega
  have e3 : w64 ((((n - 1 : Nat) : Int)).tdiv 2) = (((n - 1) / 2 : Nat) : Int) := by
    rw [show (((n - 1 : Nat) : Int)).tdiv 2 = (((n - 1) / 2 : Nat) : Int) from (Int.ofNat_tdiv _ _).symm]
    exact w64_id (by omega) (by omega)
  rw [e1, e2, e3, Tot.andThen_iff]
  refine Tot.whileM (fun z : Int × List α => ∃ i : Nat, z.1 = (i : Int) - 1 ∧ i ≤ n ∧ SP a (a + n) l z.2 ∧ Hp lt a i n z.2) (fun z => (z.1 + 1).toNat) ⟨(n - 1) / 2 + 1, by push_cast; omega, by omega, SP.refl _ _ _, fun i c x y h1 h2 h3 => by unfold Child at h2; omega⟩ (by simp only; omega) ?_
  rintro ⟨z, m⟩ ⟨i, rfl, h1, h2, h3⟩
  simp only at h2 h3
  have hlen := h2.len
  rw [hb0]
  simp only
  rw [Tot.ite_iff]
  refine ⟨fun k => ?_, fun k => ?_⟩
  · have k : (0 : Int) ≤ (i : Int) - 1 := by simpa using k
    obtain ⟨i, rfl⟩ : ∃ r, i = r + 1 := ⟨i - 1, by omega⟩
    have e : ((i + 1 : Nat) : Int) - 1 = (i : Int) := by omega
    rw [e, e1, Tot.bind_iff]
    refine (hsift m i n (by omega) (by omega) (by omega) (by omega) (h2.allP hP) h3).mono ?_
    rintro m' ⟨g1, g2⟩
    rw [Tot.some_iff, w64_id (by omega) (by omega)]
    exact ⟨⟨i, rfl, by omega, h2.trans (g1.wide (by omega) (by omega)), g2⟩, by simp only; omega⟩
  · have k : ¬ (0 : Int) ≤ (i : Int) - 1 := by simpa using k
    have : i = 0 := by omega
    subst this
    rw [Tot.some_iff]
    show Tot (andThen _ _) _
    rw [Tot.andThen_iff]
    refine Tot.whileM (fun z : Int × List α => ∃ i : Nat, z.1 = (i : Int) - 1 ∧ i ≤ n ∧ SP a (a + n) l z.2 ∧ Hp lt a 0 i z.2 ∧ ∀ (p q : Nat) x y, a ≤ p → p < q → a + i ≤ q → q < a + n → z.2[p]? = some x → z.2[q]? = some y → lt y x = false) (fun z => (z.1 + 1).toNat) ⟨n, by omega, Nat.le_refl _, h2, h3, fun p q x y p1 p2 p3 p4 => by omega⟩ (by simp only; omega) ?_
    rintro ⟨z, m⟩ ⟨i, rfl, h1, h2, h3, h4⟩
    simp only at h2 h3 h4
    have hlen := h2.len
    rw [hb2]
    simp only
    rw [Tot.ite_iff]
    refine ⟨fun k => ?_, fun k => ?_⟩
    · have k : (0 : Int) ≤ (i : Int) - 1 := by simpa using k
      obtain ⟨i, rfl⟩ : ∃ r, i = r + 1 := ⟨i - 1, by omega⟩
      have e : ((i + 1 : Nat) : Int) - 1 = (i : Int) := by omega
      have e' : w64 ((a : Int) + (i : Int)) = ((a + i : Nat) : Int) := by rw [w64_id (by omega) (by omega)]; push_cast; rfl
      rw [e, e']
      have hPm := h2.allP hP
      refine swap_step (a := a) (b := a + (i + 1)) (i := a) (j := a + i) (by omega) (by omega) (by omega) fun x y hx hy hs => ?_
      have hroot := h3.root hlt hPm (by omega)
      have sw := fun k => swap_at (k := k) hx hy
      have hpre : Hp lt a (0 + 1) i ((m.set a y).set (a + i) x) := by
        intro p c u v p1 p2 p3 hu hv
        rw [sw, if_neg (by unfold Child at p2; omega), if_neg (by omega)] at hu
        rw [sw, if_neg (by omega), if_neg (by unfold Child at p2; omega)] at hv
        exact h3 p c u v (by omega) p2 (by omega) hu hv
      have hs2 : SP a (a + n) l ((m.set a y).set (a + i) x) := h2.trans (hs.wide (Nat.le_refl _) (by omega))
      have hl2 := hs2.len
      have hP2 := hs2.allP hP
      -- what is behind stays; the greatest comes to be the first behind
      have fin : ∀ m' : List α, SP a (a + i) ((m.set a y).set (a + i) x) m' → ∀ (p q : Nat) u v, a ≤ p → p < q → a + i ≤ q → q < a + n → m'[p]? = some u → m'[q]? = some v → lt v u = false := by
        intro m' hsp p q u v p1 p2 p3 p4 hu hv
        rw [hsp.out (by omega), sw] at hv
        by_cases eq : q = a + i
        · rw [if_pos eq] at hv
          obtain rfl := Option.some.inj hv
          refine hsp.all (P := fun u => lt x u = false) (fun k w k1 k2 hw => ?_) p u p1 (by omega) hu
          rw [sw, if_neg (by omega)] at hw
          by_cases ek : k = a
          · rw [if_pos ek] at hw; obtain rfl := Option.some.inj hw
            exact hroot i x y (by omega) hx hy
          · rw [if_neg ek] at hw
            have := hroot (k - a) x w (by omega) hx (by rw [show a + (k - a) = k by omega]; exact hw)
            exact this
        · rw [if_neg eq, if_neg (by omega)] at hv
          by_cases ep : p < a + i
          · refine hsp.all (P := fun u => lt v u = false) (fun k w k1 k2 hw => ?_) p u p1 ep hu
            rw [sw, if_neg (by omega)] at hw
            by_cases ek : k = a
            · rw [if_pos ek] at hw; obtain rfl := Option.some.inj hw
              exact h4 (a + i) q y v (by omega) (by omega) (by omega) p4 hy hv
            · rw [if_neg ek] at hw
              exact h4 k q w v k1 (by omega) (by omega) p4 hw hv
          · rw [hsp.out (by omega), sw] at hu
            by_cases epi : p = a + i
            · rw [if_pos epi] at hu; obtain rfl := Option.some.inj hu
              exact h4 a q x v (by omega) (by omega) (by omega) p4 hx hv
            · rw [if_neg epi, if_neg (by omega)] at hu
              exact h4 p q u v p1 p2 (by omega) p4 hu hv
      rw [Tot.bind_iff]
      rcases Nat.eq_zero_or_pos i with rfl | hi
      · rw [show ((0 : Nat) : Int) = 0 from rfl, hsift0, Tot.some_iff, Tot.some_iff]
        exact ⟨⟨0, by rw [w64_id (by omega) (by omega)]; rfl, by omega, hs2, fun p c u v _ _ h => by omega, fin _ (SP.refl _ _ _)⟩, by rw [w64_id (by omega) (by omega)]; simp⟩
      · refine (hsift _ 0 i hi (by omega) (by omega) (by omega) hP2 hpre).mono ?_
        rintro m' ⟨g1, g2⟩
        rw [Nat.add_zero] at g1
        rw [Tot.some_iff, w64_id (by omega) (by omega)]
        exact ⟨⟨i, rfl, by omega, hs2.trans (g1.wide (Nat.le_refl _) (by omega)), g2, fin m' g1⟩, by simp only; omega⟩
    · have k : ¬ (0 : Int) ≤ (i : Int) - 1 := by simpa using k
      have : i = 0 := by omega
      subst this
      rw [Tot.some_iff]
      show Tot (some m) _
      exact Tot.some_iff.2 ⟨h2, fun p q x y p1 p2 p3 hx hy => h4 p q x y p1 p2 (by omega) p3 hx hy⟩
end
end Go.Proofs.Ytnljiedichjagaa
