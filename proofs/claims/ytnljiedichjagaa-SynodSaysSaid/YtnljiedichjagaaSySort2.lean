/-
  Sorting within a range: partitions.
-/
import Derived.Test.YtnljiedichjagaaSySort
namespace Go.Proofs.Ytnljiedichjagaa
open Enc

section
variable {α τ : Type}
theorem scan_up {i fu : Nat} {J : Int} {test : Nat → Bool} {body : Int → Option (Ctl Int τ)} (hi : (i : Int) ≤ J + 1) (hfu : J + 2 < fu + i)
    (hbody : ∀ k : Nat, i ≤ k → ((k : Int) ≤ J → body (k : Int) = some (bif test k then .go ((k : Int) + 1) else .brk (k : Int))) ∧ (J < k → body (k : Int) = some (.brk (k : Int)))) :
    Tot (whileM body fu (i : Int)) fun o => ∃ k : Nat, o = .inl (k : Int) ∧ i ≤ k ∧ (k : Int) ≤ J + 1 ∧ (∀ p, i ≤ p → p < k → test p = true) ∧ ((k : Int) ≤ J → test k = false) := by
  refine Tot.whileM (fun z : Int => ∃ k : Nat, z = (k : Int) ∧ i ≤ k ∧ (k : Int) ≤ J + 1 ∧ ∀ p, i ≤ p → p < k → test p = true) (fun z => (J + 2 - z).toNat) ⟨i, rfl, Nat.le_refl _, hi, fun p h1 h2 => by omega⟩ (by omega) ?_
  rintro z ⟨k, rfl, h1, h2, h3⟩
  have hb := hbody k h1
  by_cases hk : (k : Int) ≤ J
  · rw [hb.1 hk, Tot.some_iff]
    cases ht : test k with
    | true =>
      refine ⟨⟨k + 1, by push_cast; rfl, by omega, by push_cast; omega, fun p p1 p2 => ?_⟩, by omega⟩
      by_cases e : p = k
      · subst e; exact ht
      · exact h3 p p1 (by omega)
    | false => exact ⟨k, rfl, h1, h2, h3, fun _ => ht⟩
  · rw [hb.2 (by omega), Tot.some_iff]
    exact ⟨k, rfl, h1, h2, h3, fun q => absurd q hk⟩
theorem scan_down {i j fu : Nat} {test : Nat → Bool} {body : Int → Option (Ctl Int τ)} (h0 : 0 < i) (hi : i ≤ j + 1) (hfu : j + 1 < fu)
    (hbody : ∀ k : Nat, k ≤ j → (i ≤ k → body (k : Int) = some (bif test k then .go ((k : Int) - 1) else .brk (k : Int))) ∧ (k < i → body (k : Int) = some (.brk (k : Int)))) :
    Tot (whileM body fu (j : Int)) fun o => ∃ k : Nat, o = .inl (k : Int) ∧ k ≤ j ∧ i ≤ k + 1 ∧ (∀ p, k < p → p ≤ j → test p = true) ∧ (i ≤ k → test k = false) := by
  refine Tot.whileM (fun z : Int => ∃ k : Nat, z = (k : Int) ∧ k ≤ j ∧ i ≤ k + 1 ∧ ∀ p, k < p → p ≤ j → test p = true) (fun z => z.toNat) ⟨j, rfl, Nat.le_refl _, hi, fun p h1 h2 => by omega⟩ (by simp; omega) ?_
  rintro z ⟨k, rfl, h1, h2, h3⟩
  have hb := hbody k h1
  by_cases hk : i ≤ k
  · rw [hb.1 hk, Tot.some_iff]
    cases ht : test k with
    | true =>
      refine ⟨⟨k - 1, by omega, by omega, by omega, fun p p1 p2 => ?_⟩, by omega⟩
      by_cases e : p = k
      · subst e; exact ht
      · exact h3 p (by omega) p2
    | false => exact ⟨k, rfl, h1, h2, h3, fun _ => ht⟩
  · rw [hb.2 (by omega), Tot.some_iff]
    exact ⟨k, rfl, h1, h2, h3, fun q => absurd q hk⟩

variable {lt : α → α → Bool}
/-- The element at an index, tested. -/
def tst (f : α → Bool) (m : List α) (k : Nat) : Bool := match m[k]? with
  | some x => f x
  | none => false
theorem tst_at {f : α → Bool} {m : List α} {k : Nat} {x : α} (h : m[k]? = some x) : tst f m k = f x := by unfold tst; rw [h]
theorem swap_hd {i j : Nat} {m : List α} (hi : i < m.length) (hj : j < m.length) {β : Type} {Q : β → Prop} {f : List α → Option β} (hf : ∀ x y, m[i]? = some x → m[j]? = some y → Tot (f ((m.set i y).set j x)) Q) :
    Tot ((lat m (j : Int)).bind fun y => (lat m (i : Int)).bind fun x => (lat m (i : Int)).bind fun _ => Let (m.set (i : Int).toNat y) fun p => Let p fun q => (lat q (j : Int)).bind fun _ => Let (q.set (j : Int).toNat x) f) Q := by
  have hx : m[i]? = some m[i] := by simp [hi]
  have hy : m[j]? = some m[j] := by simp [hj]
  rw [lat_i hj, Option.bind_some, lat_i hi, Option.bind_some, Option.bind_some, Tot.let_iff, Tot.let_iff, Int.toNat_natCast, lat_i (by simp; omega), Option.bind_some, Tot.let_iff, Int.toNat_natCast]
  exact hf _ _ hx hy
/-- One round of a partition: i goes up over what is less, j goes down over what is not. -/
structure Part (lt : α → α → Bool) (a b : Nat) (x : α) (i j : Nat) (m : List α) : Prop where
  piv : m[a]? = some x
  lo : a < i
  hi : j < b
  meet : i ≤ j + 1
  low : ∀ (p : Nat) y, a < p → p < i → m[p]? = some y → lt y x = true
  high : ∀ (p : Nat) y, j < p → p < b → m[p]? = some y → lt y x = false
theorem part_end {a b i j : Nat} {x : α} {m : List α} (hm : Part lt a b x i j m) (he : j < i) (hb : b ≤ m.length) : ∃ y, m[j]? = some y ∧ SP a b m ((m.set j x).set a y) ∧ ((m.set j x).set a y)[j]? = some x ∧ (∀ (p : Nat) u, a ≤ p → p < j → ((m.set j x).set a y)[p]? = some u → lt u x = true) ∧ ∀ (p : Nat) u, j < p → p < b → ((m.set j x).set a y)[p]? = some u → lt u x = false := by
  obtain ⟨h1, h2, h3, h4, h5, h6⟩ := hm
  have hjm : j < m.length := by omega
  have hj : m[j]? = some m[j] := by simp [hjm]
  refine ⟨m[j], hj, SP.swap (by omega) (by omega) hj h1, ?_, ?_, ?_⟩
  · rw [swap_at hj h1]
    by_cases e : j = a
    · subst e; rw [if_pos rfl]; rw [h1] at hj; exact hj.symm
    · rw [if_neg e, if_pos rfl]
  · intro p u p1 p2 hu
    rw [swap_at hj h1] at hu
    by_cases e : p = a
    · rw [if_pos e] at hu
      obtain rfl := Option.some.inj hu
      exact h5 j _ (by omega) (by omega) hj
    · rw [if_neg e, if_neg (by omega)] at hu
      exact h5 p u (by omega) (by omega) hu
  · intro p u p1 p2 hu
    rw [swap_at hj h1, if_neg (by omega), if_neg (by omega)] at hu
    exact h6 p u p1 p2 hu
/-- The two scans. -/
theorem part_scans {a b i j fu : Nat} {x : α} {m : List α} (hm : Part lt a b x i j m) (hb : b ≤ m.length) (hn : m.length ≤ 2 ^ 40) (hfu : b + 3 < fu) {σ : Type} {Q : σ → Prop}
    {b6 : Int → Option (Ctl Int τ)} (hb6 : ∀ z, b6 z = (bif decide (z ≤ (j : Int)) then ((lat m z).bind fun u => (lat m (a : Int)).bind fun v => some (lt u v)) else some false).bind fun c => bif c then some (.go (w64 (z + 1))) else some (.brk z))
    {b8 : Int → Int → Option (Ctl Int τ)} (hb8 : ∀ y z, b8 y z = (bif decide (y ≤ z) then ((lat m z).bind fun u => (lat m (a : Int)).bind fun v => some (!(lt u v))) else some false).bind fun c => bif c then some (.go (w64 (z - 1))) else some (.brk z))
    {f : Int → Int → Option σ} {g : τ → Option σ} (hf : ∀ i' j' : Nat, Part lt a b x i' j' m → i ≤ i' → j' ≤ j → (i' ≤ j' → ∃ u v, m[i']? = some u ∧ m[j']? = some v ∧ lt u x = false ∧ lt v x = true) → Tot (f (i' : Int) (j' : Int)) Q) :
    Tot ((whileM b6 fu (i : Int)).bind (Sum.elim (fun y => (whileM (b8 y) fu (j : Int)).bind (Sum.elim (fun z => f y z) g)) g)) Q := by
  obtain ⟨h1, h2, h3, h4, h5, h6⟩ := hm
  have hat : ∀ k, k < b → m[k]? = some (m[k]?.getD x) := fun k hk => by
    have : k < m.length := by omega
    simp [this]
  have hv : lat m (a : Int) = some x := by rw [lat_nat]; exact h1
  rw [Tot.bind_iff]
  refine (scan_up (test := tst (fun u => lt u x) m) (J := (j : Int)) (by omega) (by omega) (fun k hk => ⟨fun hkj => ?_, fun hkj => ?_⟩)).mono ?_
  · rw [hb6, decide_eq_true hkj, cond_true, lat_nat, hat k (by omega), Option.bind_some, hv, Option.bind_some, Option.bind_some, tst_at (hat k (by omega)), w64_id (by omega) (by omega), cond_some]
  · rw [hb6, decide_eq_false (by omega)]; rfl
  · rintro o ⟨i', rfl, g1, g2, g3, g4⟩
    show Tot (Option.bind _ _) Q
    rw [Tot.bind_iff]
    refine (scan_down (i := i') (test := tst (fun u => !(lt u x)) m) (by omega) (by omega) (by omega) (fun k hk => ⟨fun hik => ?_, fun hik => ?_⟩)).mono ?_
    · rw [hb8, decide_eq_true (show (i' : Int) ≤ k by omega), cond_true, lat_nat, hat k (by omega), Option.bind_some, hv, Option.bind_some, Option.bind_some, tst_at (hat k (by omega)), w64_id (by omega) (by omega), cond_some]
    · rw [hb8, decide_eq_false (show ¬ (i' : Int) ≤ k by omega)]; rfl
    · rintro o ⟨j', rfl, k1, k2, k3, k4⟩
      refine hf i' j' ⟨h1, by omega, by omega, k2, fun p y p1 p2 hy => ?_, fun p y p1 p2 hy => ?_⟩ g1 k1 fun hle => ?_
      · by_cases e : p < i
        · exact h5 p y p1 e hy
        · have := g3 p (by omega) p2
          rwa [tst_at hy] at this
      · by_cases e : j < p
        · exact h6 p y e p2 hy
        · have := k3 p p1 (by omega)
          rw [tst_at hy] at this
          simpa using this
      · have e1 := g4 (by omega)
        have e2 := k4 hle
        rw [tst_at (hat i' (by omega))] at e1
        rw [tst_at (hat j' (by omega))] at e2
        exact ⟨_, _, hat i' (by omega), hat j' (by omega), e1, by simpa using e2⟩
/-- What a partition leaves: the pivot at p, what is less ahead of it, what is not behind it. -/
def Parted (lt : α → α → Bool) (a b p : Nat) (m : List α) : Prop := ∃ x, m[p]? = some x ∧ (∀ (q : Nat) u, a ≤ q → q < p → m[q]? = some u → lt u x = true) ∧ ∀ (q : Nat) u, p < q → q < b → m[q]? = some u → lt u x = false
/-- A swap within a partition. -/
theorem part_swap {a b i j : Nat} {x u v : α} {m : List α} (hm : Part lt a b x i j m) (hij : i ≤ j) (hu : m[i]? = some u) (hv : m[j]? = some v) (h1 : lt u x = false) (h2 : lt v x = true) : Part lt a b x (i + 1) (j - 1) ((m.set i v).set j u) ∧ i + 1 ≤ j := by
  obtain ⟨g1, g2, g3, g4, g5, g6⟩ := hm
  have hne : i ≠ j := fun e => by subst e; rw [hu] at hv; obtain rfl := Option.some.inj hv; rw [h1] at h2; cases h2
  refine ⟨⟨?_, by omega, by omega, by omega, fun p y p1 p2 hy => ?_, fun p y p1 p2 hy => ?_⟩, by omega⟩
  · rw [swap_at hu hv, if_neg (by omega), if_neg (by omega)]; exact g1
  · rw [swap_at hu hv, if_neg (by omega)] at hy
    by_cases e : p = i
    · rw [if_pos e] at hy; obtain rfl := Option.some.inj hy; exact h2
    · rw [if_neg e] at hy; exact g5 p y p1 (by omega) hy
  · rw [swap_at hu hv] at hy
    by_cases e : p = j
    · rw [if_pos e] at hy; obtain rfl := Option.some.inj hy; exact h1
    · rw [if_neg e, if_neg (by omega)] at hy; exact g6 p y (by omega) p2 hy
theorem partition_law {a b c fu : Nat} {l : List α} (hac : a ≤ c) (hcb : c < b) (hb : b ≤ l.length) (hn : l.length ≤ 2 ^ 40) (hfu : b + 3 < fu)
    {b0 : List α → Int → Option (Ctl Int (List α × Int × Bool))} (hb0 : ∀ m z, b0 m z = (bif decide (z ≤ w64 ((b : Int) - 1)) then ((lat m z).bind fun u => (lat m (a : Int)).bind fun v => some (lt u v)) else some false).bind fun c => bif c then some (.go (w64 (z + 1))) else some (.brk z))
    {b2 : List α → Int → Int → Option (Ctl Int (List α × Int × Bool))} (hb2 : ∀ m y z, b2 m y z = (bif decide (y ≤ z) then ((lat m z).bind fun u => (lat m (a : Int)).bind fun v => some (!(lt u v))) else some false).bind fun c => bif c then some (.go (w64 (z - 1))) else some (.brk z))
    {b6 : Int → List α → Int → Option (Ctl Int (Ctl (Int × Int × List α) (List α × Int × Bool)))} (hb6 : ∀ y m z, b6 y m z = (bif decide (z ≤ y) then ((lat m z).bind fun u => (lat m (a : Int)).bind fun v => some (lt u v)) else some false).bind fun c => bif c then some (.go (w64 (z + 1))) else some (.brk z))
    {b8 : List α → Int → Int → Option (Ctl Int (Ctl (Int × Int × List α) (List α × Int × Bool)))} (hb8 : ∀ m y z, b8 m y z = (bif decide (y ≤ z) then ((lat m z).bind fun u => (lat m (a : Int)).bind fun v => some (!(lt u v))) else some false).bind fun c => bif c then some (.go (w64 (z - 1))) else some (.brk z))
    {b4 : Int × Int × List α → Option (Ctl (Int × Int × List α) (List α × Int × Bool))} (hb4 : ∀ z, b4 z = andThen (whileM (b6 z.2.1 z.2.2) fu z.1) fun y => andThen (whileM (b8 z.2.2 y) fu z.2.1) fun y' =>
      bif decide (y > y') then (some (.brk (y, y', z.2.2))) else (lat z.2.2 y').bind fun x1 => (lat z.2.2 y).bind fun x2 => (lat z.2.2 y).bind fun _ => Let (z.2.2.set y.toNat x1) fun p => Let p fun q => (lat q y').bind fun _ => Let (q.set y'.toNat x2) fun r => some (.go (w64 (y + 1), w64 (y' - 1), r))) :
    Tot ((lat l (c : Int)).bind fun x2 => (lat l (a : Int)).bind fun x5 => (lat l (a : Int)).bind fun _ => Let (l.set (a : Int).toNat x2) fun p11 => Let p11 fun l14 => (lat l14 (c : Int)).bind fun _ => Let (l14.set (c : Int).toNat x5) fun p34 =>
      andThen (whileM (b0 p34) fu (w64 ((a : Int) + 1))) fun y37 => andThen (whileM (b2 p34 y37) fu (w64 ((b : Int) - 1))) fun y55 =>
      bif decide (y37 > y55) then ((lat p34 (a : Int)).bind fun x73 => (lat p34 y55).bind fun x76 => (lat p34 y55).bind fun _ => Let (p34.set y55.toNat x73) fun p82 => Let p82 fun l85 => (lat l85 (a : Int)).bind fun _ => Let (l85.set (a : Int).toNat x76) fun p105 => some (p105, y55, true)) else
      (lat p34 y55).bind fun x107 => (lat p34 y37).bind fun x110 => (lat p34 y37).bind fun _ => Let (p34.set y37.toNat x107) fun p116 => Let p116 fun l119 => (lat l119 y55).bind fun _ => Let (l119.set y55.toNat x110) fun p139 =>
      andThen (whileM b4 fu (w64 (y37 + 1), w64 (y55 - 1), p139)) fun (_, y143, l144) => (lat l144 (a : Int)).bind fun x252 => (lat l144 y143).bind fun x255 => (lat l144 y143).bind fun _ => Let (l144.set y143.toNat x252) fun p261 => Let p261 fun l264 => (lat l264 (a : Int)).bind fun _ => Let (l264.set (a : Int).toNat x255) fun p284 => some (p284, y143, false))
      fun r => ∃ p : Nat, r.2.1 = (p : Int) ∧ a ≤ p ∧ p < b ∧ SP a b l r.1 ∧ Parted lt a b p r.1 := by
  refine swap_hd (i := a) (j := c) (by omega) (by omega) fun x0 x hx0 hx => ?_
  have hs0 : SP a b l ((l.set a x).set c x0) := SP.swap (by omega) (by omega) hx0 hx
  have hm0 : ((l.set a x).set c x0)[a]? = some x := by
    rw [swap_at hx0 hx]
    by_cases e : a = c
    · subst e; rw [if_pos rfl]; rw [hx0] at hx; exact hx
    · rw [if_neg e, if_pos rfl]
  generalize (l.set a x).set c x0 = m at hs0 hm0
  have hlm := hs0.len
  have e1 : w64 ((b : Int) - 1) = ((b - 1 : Nat) : Int) := by rw [w64_id (by omega) (by omega)]; omega
  have e2 : w64 ((a : Int) + 1) = ((a + 1 : Nat) : Int) := by rw [w64_id (by omega) (by omega)]; push_cast; rfl
  rw [e1, e2]
  have hp0 : Part lt a b x (a + 1) (b - 1) m := ⟨hm0, by omega, by omega, by omega, fun p y h1 h2 => by omega, fun p y h1 h2 => by omega⟩
  -- the end of it
  have fin : ∀ (i j : Nat) (m' : List α) (t : Bool), Part lt a b x i j m' → j < i → SP a b l m' → Tot ((lat m' (a : Int)).bind fun x73 => (lat m' (j : Int)).bind fun x76 => (lat m' (j : Int)).bind fun _ => Let (m'.set (j : Int).toNat x73) fun p82 => Let p82 fun l85 => (lat l85 (a : Int)).bind fun _ => Let (l85.set (a : Int).toNat x76) fun p105 => some (p105, (j : Int), t)) fun r => ∃ p : Nat, r.2.1 = (p : Int) ∧ a ≤ p ∧ p < b ∧ SP a b l r.1 ∧ Parted lt a b p r.1 := by
    intro i j m' t hp hji hsp
    have hl' := hsp.len
    obtain ⟨y, k1, k2, k3, k4, k5⟩ := part_end hp hji (by omega)
    have hhi := hp.hi
    refine swap_hd (i := j) (j := a) (by omega) (by omega) fun u v hu hv => ?_
    rw [k1] at hu
    obtain rfl := Option.some.inj hu
    rw [hp.piv] at hv
    obtain rfl := Option.some.inj hv
    have := hp.lo; have := hp.meet
    exact Tot.some_iff.2 ⟨j, rfl, by omega, by omega, hsp.trans k2, x, k3, k4, k5⟩
  unfold andThen
  refine part_scans (f := fun y37 y55 => _) hp0 (by omega) (by omega) hfu (fun z => by rw [hb0, e1]) (fun y z => hb2 m y z) ?_
  intro i j hp hi1 hj1 hij
  by_cases hji : j < i
  · rw [decide_eq_true (show (i : Int) > j by omega), cond_true]
    exact fin i j m true hp hji hs0
  · rw [decide_eq_false (show ¬ (i : Int) > j by omega), cond_false]
    obtain ⟨u, v, hu, hv, hu1, hv1⟩ := hij (by omega)
    have hhi := hp.hi
    refine swap_hd (i := i) (j := j) (by omega) (by omega) fun u' v' hu' hv' => ?_
    rw [hu] at hu'; obtain rfl := Option.some.inj hu'
    rw [hv] at hv'; obtain rfl := Option.some.inj hv'
    have hlo := hp.lo
    obtain ⟨hp1, hne⟩ := part_swap hp (by omega) hu hv hu1 hv1
    have hs1 := hs0.trans (SP.swap (a := a) (b := b) (by omega) (by omega) hu hv)
    rw [w64_id (by omega) (by omega), w64_id (by omega) (by omega), Tot.bind_iff]
    refine Tot.whileM (fun z : Int × Int × List α => ∃ i j : Nat, z.1 = (i : Int) ∧ z.2.1 = (j : Int) ∧ Part lt a b x i j z.2.2 ∧ SP a b l z.2.2) (fun z => (z.2.1 + 1 - z.1).toNat) ⟨i + 1, j - 1, by push_cast; rfl, by simp only; omega, hp1, hs1⟩ (by simp only; omega) ?_
    rintro ⟨z1, z2, m'⟩ ⟨i', j', r1, r2, hp', hs'⟩
    simp only at r1 r2 hp' hs'
    subst r1 r2
    have hl' := hs'.len
    rw [hb4]
    unfold andThen
    simp only
    refine part_scans (f := fun y y' => _) hp' (by omega) (by omega) hfu (fun z => hb6 _ _ z) (fun y z => hb8 _ y z) ?_
    intro i2 j2 hp2 hi2 hj2 hij2
    by_cases hji2 : j2 < i2
    · rw [decide_eq_true (show (i2 : Int) > j2 by omega), cond_true, Tot.some_iff]
      exact fin i2 j2 m' false hp2 hji2 hs'
    · rw [decide_eq_false (show ¬ (i2 : Int) > j2 by omega), cond_false]
      obtain ⟨u2, v2, hu2, hv2, hu3, hv3⟩ := hij2 (by omega)
      have hhi2 := hp2.hi
      have hlo2 := hp2.lo
      refine swap_hd (i := i2) (j := j2) (by omega) (by omega) fun u' v' hu' hv' => ?_
      rw [hu2] at hu'; obtain rfl := Option.some.inj hu'
      rw [hv2] at hv'; obtain rfl := Option.some.inj hv'
      obtain ⟨hp3, hne3⟩ := part_swap hp2 (by omega) hu2 hv2 hu3 hv3
      rw [Tot.some_iff, w64_id (by omega) (by omega), w64_id (by omega) (by omega)]
      exact ⟨⟨i2 + 1, j2 - 1, by push_cast; rfl, by simp only; omega, hp3, hs'.trans (SP.swap (a := a) (b := b) (by omega) (by omega) hu2 hv2)⟩, by simp only; omega⟩
end
end Go.Proofs.Ytnljiedichjagaa
