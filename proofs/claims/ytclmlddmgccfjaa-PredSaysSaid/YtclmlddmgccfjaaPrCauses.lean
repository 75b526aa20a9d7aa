/-
  The reference's causes and vectors.
-/
import Derived.Test.YtclmlddmgccfjaaPrVect
namespace Go.Proofs.Ytclmlddmgccfjaa
open Enc

structure CInv (h : List Event) (i k : Nat) (z : List Pair) : Prop where
  len : z.length ≤ 60 * i + k
  mem : ∀ q : Pair, q ∈ z ↔ ∃ a b : Nat, q = ⟨(a : Int), (b : Int)⟩ ∧ Prec h a b ∧ (a < i ∨ (a = i ∧ b < k))
theorem causes_row {h : List Event} {i fu : Nat} {z : List Pair} (hl : h.length ≤ 60) (hi : i < h.length) (hfu : 100 ≤ fu) (hz : CInv h i 0 z) : Tot (partref_Causes_B0 fu h i z) (CInv h (i + 1) 0) := by
  have hx : h[i]? = some h[i] := by simp [hi]
  unfold partref_Causes_B0
  rw [Tot.bind_iff, Tot.lat_iff]
  refine ⟨hi, ?_⟩
  generalize h[i] = x at hx
  rw [Tot.andThen_iff]
  have e64 : w64 ((i : Int) + 1) = ((i + 1 : Nat) : Int) := by rw [w64_id (by omega) (by omega)]; rfl
  rw [e64]
  refine Tot.whileM (fun s => ∃ k : Nat, s.1 = (k : Int) ∧ i < k ∧ k ≤ h.length ∧ CInv h i k s.2) (fun s => 61 - s.1.toNat) ⟨i + 1, rfl, by omega, by omega, by show z.length ≤ _; have := hz.len; omega, ?_⟩ (by show 61 - ((i + 1 : Nat) : Int).toNat < fu; omega) ?_
  · intro q
    rw [hz.mem]
    constructor
    · rintro ⟨a, b, e, hp, h1 | ⟨h1, h2⟩⟩
      · exact ⟨a, b, e, hp, .inl h1⟩
      · omega
    · rintro ⟨a, b, e, hp, h1 | ⟨h1, h2⟩⟩
      · exact ⟨a, b, e, hp, .inl h1⟩
      · have := hp.1; omega
  · rintro ⟨k', z⟩ ⟨k, hk', hik, hkl, hI⟩
    simp only at hk' hI
    subst hk'
    unfold partref_Causes_B2
    simp only
    rw [Tot.ite_iff]
    refine ⟨fun hc => ?_, fun hc => ?_⟩
    · have hk : k < h.length := by have := of_decide_eq_true hc; omega
      have hy : h[k]? = some h[k] := by simp [hk]
      rw [Tot.bind_iff, Tot.lat_iff]
      refine ⟨hk, ?_⟩
      generalize h[k] = y at hy
      have e64 : w64 ((k : Int) + 1) = ((k + 1 : Nat) : Int) := by rw [w64_id (by omega) (by omega)]; rfl
      simp only [and_some, Option.bind_some]
      have hroom : z.length + 1 ≤ 2 ^ 40 := by have := hI.len; omega
      have iff : Prec h i k ↔ (x.Proc = y.Proc ∨ (x.Kind = 2 ∧ y.Kind = 3 ∧ x.Msg = y.Msg)) := by
        constructor
        · rintro ⟨_, a, b, ha, hb, h3⟩
          rw [hx] at ha; rw [hy] at hb
          obtain rfl := Option.some.inj ha
          obtain rfl := Option.some.inj hb
          exact h3
        · exact fun h3 => ⟨hik, x, y, hx, hy, h3⟩
      have old : ∀ q : Pair, q ∈ z → ∃ a b : Nat, q = ⟨(a : Int), (b : Int)⟩ ∧ Prec h a b ∧ (a < i ∨ (a = i ∧ b < k + 1)) := fun q hq => by
        obtain ⟨a, b, e, hp, h1⟩ := (hI.mem q).1 hq
        exact ⟨a, b, e, hp, by omega⟩
      have more : ∀ a b : Nat, Prec h a b → (a < i ∨ (a = i ∧ b < k + 1)) → (⟨(a : Int), (b : Int)⟩ : Pair) ∈ z ∨ (a = i ∧ b = k) := fun a b hp h1 => by
        by_cases e : a = i ∧ b = k
        · exact .inr e
        · exact .inl ((hI.mem _).2 ⟨a, b, rfl, hp, by omega⟩)
      have yes : Prec h i k → CInv h i (k + 1) (z ++ [({ Pair.zero with A := (i : Int), B := (k : Int) } : Pair)]) := fun hp => by
        refine ⟨by have := hI.len; simp; omega, fun q => ?_⟩
        rw [List.mem_append, List.mem_singleton]
        constructor
        · rintro (hq | rfl)
          · exact old q hq
          · exact ⟨i, k, rfl, hp, .inr ⟨rfl, by omega⟩⟩
        · rintro ⟨a, b, rfl, hp', h1⟩
          rcases more a b hp' h1 with h2 | ⟨rfl, rfl⟩
          · exact .inl h2
          · exact .inr rfl
      have no : ¬ Prec h i k → CInv h i (k + 1) z := fun hp => by
        refine ⟨by have := hI.len; omega, fun q => ⟨old q, ?_⟩⟩
        rintro ⟨a, b, rfl, hp', h1⟩
        rcases more a b hp' h1 with h2 | ⟨rfl, rfl⟩
        · exact h2
        · exact absurd hp' hp
      simp only [Tot.ite_iff, Tot.bind_iff, Tot.room_iff, Tot.some_iff, Tot.go_iff, e64, List.length_singleton]
      have fin : ∀ z', CInv h i (k + 1) z' → (∃ k_1 : Nat, ((k + 1 : Nat) : Int) = (k_1 : Int) ∧ i < k_1 ∧ k_1 ≤ h.length ∧ CInv h i k_1 z') ∧ 61 - (((k + 1 : Nat) : Int)).toNat < 61 - ((k : Nat) : Int).toNat := fun z' hz' => ⟨⟨k + 1, rfl, by omega, by omega, hz'⟩, by omega⟩
      refine ⟨fun h1 => ⟨hroom, fin _ (yes (iff.2 (.inl (by simpa using h1))))⟩, fun h1 => ⟨fun h2 => ⟨hroom, fin _ (yes (iff.2 (.inr (by simpa [and_assoc] using h2))))⟩, fun h2 => fin _ (no fun h3 => ?_)⟩⟩
      rcases iff.1 h3 with h4 | ⟨h4, h5, h6⟩
      · simp [h4] at h1
      · simp [h4, h5, h6] at h2
    · have hk : k = h.length := by have := of_decide_eq_false hc; omega
      refine Tot.some_iff.2 (Tot.some_iff.2 ⟨by have := hI.len; simp only; omega, fun q => ?_⟩)
      rw [hI.mem]
      constructor
      · rintro ⟨a, b, e, hp, h1⟩
        exact ⟨a, b, e, hp, by omega⟩
      · rintro ⟨a, b, e, hp, h1⟩
        have hp' := hp
        obtain ⟨_, _, y, _, hb, _⟩ := hp
        have := (List.getElem?_eq_some_iff.1 hb).1
        exact ⟨a, b, e, hp', by omega⟩
/-- Which event is before which. -/
def IsCauses (h : List Event) (M : List (List Bool)) : Prop := M.length = h.length ∧ ∀ (i : Nat) (row : List Bool), M[i]? = some row → row.length = h.length ∧ ∀ k, row[k]? = some true ↔ Hb h i k
theorem causes_law {h : List Event} {fu : Nat} (hl : h.length ≤ 60) (hfu : 100 ≤ fu) (hfu2 : fu ≤ 2 ^ 30) : Tot (partref_Causes fu h) (IsCauses h) := by
  unfold partref_Causes
  rw [Tot.bind_iff]
  refine Tot.rangeF (fun i z => CInv h i 0 z) ⟨by simp, fun q => ⟨fun k => by simp at k, fun ⟨a, b, _, _, k⟩ => by omega⟩⟩ (fun i z _ hi hz => causes_row hl (by omega) hfu hz) ?_
  intro z hz
  rw [Nat.zero_add] at hz
  have hin : InR h.length z := by
    intro q hq
    obtain ⟨a, b, rfl, ⟨hab, _, y, _, hb, _⟩, _⟩ := (hz.mem q).1 hq
    have := (List.getElem?_eq_some_iff.1 hb).1
    simp only
    omega
  obtain ⟨M, e, hM⟩ := closure_law (fu := fu) hin (by omega) (by omega) hfu2
  have hadj : Reach z = Hb h := by
    have : Adj z = Prec h := by
      funext a b
      apply propext
      unfold Adj
      rw [hz.mem]
      constructor
      · rintro ⟨a', b', e, hp', _⟩
        simp only [Pair.mk.injEq, Int.natCast_inj] at e
        obtain ⟨rfl, rfl⟩ := e
        exact hp'
      · intro hp
        refine ⟨a, b, rfl, hp, .inl ?_⟩
        obtain ⟨_, x, _, ha, _⟩ := hp
        exact (List.getElem?_eq_some_iff.1 ha).1
    unfold Reach Hb
    rw [this]
  rw [Tot.bind_iff, e, Tot.some_iff, Tot.some_iff]
  unfold IsClosure at hM
  rw [hadj] at hM
  exact hM
theorem IsCauses.lat {h : List Event} {M : List (List Bool)} (hM : IsCauses h M) {i k : Nat} {Q : Bool → Prop} (hi : i < h.length) (hk : k < h.length) (hQ : ∀ b : Bool, (b = true ↔ Hb h i k) → Q b) : Tot ((lat M (i : Int)).bind fun r => lat r (k : Int)) Q := by
  obtain ⟨h1, h2⟩ := hM
  have hi' : i < M.length := by omega
  obtain ⟨h3, h4⟩ := h2 i M[i] (by simp [hi'])
  rw [Tot.bind_iff, Tot.lat_iff]
  refine ⟨hi', ?_⟩
  rw [Tot.lat_iff]
  have hk' : k < M[i].length := by omega
  refine ⟨hk', hQ _ ?_⟩
  rw [← h4 k]
  simp [hk']
/-- Of a set that is told by numbers, so many are there up to j. -/
theorem count_step {h : List Event} {p : Int} {n : Int} {S : Nat → Prop} {j : Nat} {x : Event} (hb : BelowAt h p n S) (hx : h[j]? = some x) :
    (x.Proc = p → S j → min n (cntP h p (j + 1) : Int) = min n (cntP h p j : Int) + 1) ∧ ((x.Proc ≠ p ∨ ¬ S j) → min n (cntP h p (j + 1) : Int) = min n (cntP h p j : Int)) := by
  rw [cntP_succ hx]
  refine ⟨fun hp hs => ?_, fun hn => ?_⟩
  · have := (hb.iff j x hx hp).1 hs
    rw [cntP_succ hx, if_pos hp] at this
    rw [if_pos hp]; omega
  · by_cases hp : x.Proc = p
    · have hs : ¬ S j := hn.resolve_left fun k => k hp
      have := mt (hb.iff j x hx hp).2 hs
      rw [cntP_succ hx, if_pos hp] at this
      rw [if_pos hp]; omega
    · rw [if_neg hp]; simp
theorem refvectors_law {h : List Event} {vs : List (Vector Int 6)} {fu : Nat} (hr : Right h) (hfu : 100 ≤ fu) (hfu2 : fu ≤ 2 ^ 30) (hv : Vecs h vs) : partref_Vectors fu h = some vs := by
  refine Tot.eq ?_
  have hl := hr.1
  unfold partref_Vectors
  rw [Tot.bind_iff]
  refine (causes_law hl hfu hfu2).mono fun M hM => ?_
  rw [Tot.bind_iff, Tot.mkLen_iff]
  refine ⟨by omega, ?_⟩
  rw [Int.toNat_natCast, Tot.bind_iff]
  refine Tot.rangeF (fun k z => z.length = h.length ∧ (∀ j, j < k → z[j]? = vs[j]?) ∧ ∀ j, k ≤ j → j < h.length → z[j]? = some (Vector.replicate 6 0)) ⟨by simp, fun j hj => by omega, fun j _ hj => by simp [hj]⟩ ?_ ?_
  · rintro k z _ hk ⟨h1, h2, h3⟩
    have hk' : k < h.length := by omega
    have hvk : vs[k]? = some (vs[k]'(by rw [hv.1]; exact hk')) := by simp
    have hbel := hv.2 k _ hvk
    generalize vs[k]'(by rw [hv.1]; exact hk') = v at hvk hbel
    unfold partref_Vectors_B0
    rw [Tot.bind_iff]
    refine Tot.rangeF (fun i s => s.length = h.length ∧ (∀ j, j ≠ k → s[j]? = z[j]?) ∧ ∃ w, s[k]? = some w ∧ ∀ (p : Nat) (hp : p < 6), w[p] = min v[p] (cntP h p i : Int)) ?_ ?_ ?_
    · refine ⟨h1, fun _ _ => rfl, _, h3 k (Nat.le_refl _) hk', fun p hp => ?_⟩
      have := (hbel p hp).lo
      rw [Vector.getElem_replicate, cntP_zero]; omega
    · rintro i s _ hi ⟨g1, g2, w, g3, g4⟩
      have hi' : i < h.length := by omega
      have hx : h[i]? = some h[i] := by simp [hi']
      unfold partref_Vectors_B2
      simp only [or_some, Option.bind_some]
      have hM2 := hM.lat (Q := fun x30 => Tot (bif x30 || ((i : Int) == (k : Int)) then
          (lat h (i : Int)).bind fun x39 => (lat s (k : Int)).bind fun x42 => (vat x42 x39.Proc).bind fun x45 => (lat s (k : Int)).bind fun x48 => (vat x48 x39.Proc).bind fun x51 =>
          Let (s.set (k : Int).toNat (x48.setIfInBounds x39.Proc.toNat (w64 (x45 + (1 : Int))))) fun p54 => some p54 else some s)
        (fun s => s.length = h.length ∧ (∀ j, j ≠ k → s[j]? = z[j]?) ∧ ∃ w, s[k]? = some w ∧ ∀ (p : Nat) (hp : p < 6), w[p] = min v[p] (cntP h p (i + 1) : Int))) hi' hk' ?_
      · rw [Tot.bind_iff] at hM2
        rw [Tot.bind_iff]
        refine hM2.mono fun row hrow => ?_
        rw [Tot.bind_iff]
        exact hrow.mono fun b hb => hb
      · intro b hb
        have hS : ((b || ((i : Int) == (k : Int))) = true) ↔ Hbe h i k := by
          rw [Bool.or_eq_true, hb]
          unfold Hbe
          simp only [beq_iff_eq, Int.natCast_inj]
          exact or_comm
        have hki : k < s.length := by omega
        have hsk : s[k] = w := by simpa [hki] using g3
        obtain ⟨q1, q2, q3, q4⟩ := hr.2.range hi' hx
        simp only [lat_lt hi', lat_lt hki, Option.bind_some, Tot.ite_iff, Tot.bind_iff, Tot.let_iff, Tot.some_iff, hsk, Int.toNat_natCast]
        generalize h[i] = x at hx q1 q2 q3 q4 ⊢
        obtain ⟨P, K, Mm⟩ := x
        obtain ⟨p, rfl⟩ := int_nat q1
        have hp : p < 6 := by have q2' : (p : Int) ≤ 5 := q2; omega
        try dsimp only
        simp only [Tot.vat_iff, Int.toNat_natCast]
        refine ⟨fun hc => ⟨hp, hp, by simp [g1], fun j hj => ?_, _, List.getElem?_set_self hki, fun q hq => ?_⟩, fun hc => ⟨g1, g2, w, g3, fun q hq => ?_⟩⟩
        · rw [List.getElem?_set_ne (fun e => hj e.symm)]; exact g2 j hj
        · have hS' := hS.1 hc
          by_cases e : p = q
          · subst e
            have hle := cntP_le (h := h) (p := (p : Int)) (j := i)
            rw [Vector.getElem_setIfInBounds_self, g4 p hp, ((count_step (hbel p hp) hx).1 rfl hS'), w64_id (by have := (hbel p hp).lo; omega) (by omega)]
          · rw [Vector.getElem_setIfInBounds_ne hq e, g4 q hq, ((count_step (hbel q hq) hx).2 (.inl (by simp only; omega)))]
        · have hS' : ¬ Hbe h i k := fun k => by rw [hS.2 k] at hc; cases hc
          rw [g4 q hq, ((count_step (hbel q hq) hx).2 (.inr hS'))]
    · rintro s ⟨g1, g2, w, g3, g4⟩
      rw [Nat.zero_add] at g4
      have hw : w = v := by
        apply Vector.ext
        intro p hp
        have := (hbel p hp).hi
        rw [g4 p hp]; omega
      subst hw
      refine Tot.some_iff.2 ⟨g1, fun j hj => ?_, fun j hj hj2 => ?_⟩
      · by_cases e : j = k
        · subst e; rw [g3, hvk]
        · rw [g2 j e]; exact h2 j (by omega)
      · rw [g2 j (by omega)]; exact h3 j (by omega) hj2
  · rintro z ⟨h1, h2, _⟩
    rw [Nat.zero_add] at h2
    refine Tot.some_iff.2 (List.ext_getElem? fun j => ?_)
    by_cases hj : j < h.length
    · exact h2 j hj
    · rw [List.getElem?_eq_none (by omega), List.getElem?_eq_none (by rw [hv.1]; omega)]

/-! ### Comparing -/
def LeV (a b : Vector Int 6) : Prop := ∀ (p : Nat) (hp : p < 6), a[p] ≤ b[p]
theorem LeV.anti {a b : Vector Int 6} (h1 : LeV a b) (h2 : LeV b a) : a = b := Vector.ext fun p hp => by have := h1 p hp; have := h2 p hp; omega
theorem LeV.refl (a : Vector Int 6) : LeV a a := fun _ _ => Int.le_refl _
theorem within_law (a b : Vector Int 6) : Tot (vect_Within a b) fun r => r = true ↔ LeV a b := by
  unfold vect_Within
  rw [Tot.bind_iff]
  refine (vmax_law a b).mono fun w hw => ?_
  rw [Tot.some_iff, decide_eq_true_eq]
  constructor
  · rintro rfl p hp
    have := hw p hp; omega
  · intro h1
    apply Vector.ext
    intro p hp
    rw [hw p hp]
    have := h1 p hp; omega
open Classical in
noncomputable def cmpV (a b : Vector Int 6) : Int := if a = b then 0 else if LeV a b then 1 else if LeV b a then 2 else 3
theorem refcompare_law (a b : Vector Int 6) : partref_Compare a b = some (cmpV a b) := by
  refine Tot.eq ?_
  unfold partref_Compare
  rw [Tot.bind_iff]
  refine Tot.rangeF (fun i z => (z.1 = true ↔ ∃ (p : Nat) (hp : p < 6), p < i ∧ a[p] < b[p]) ∧ (z.2 = true ↔ ∃ (p : Nat) (hp : p < 6), p < i ∧ a[p] > b[p])) ⟨by simp, by simp⟩ ?_ ?_
  · rintro i ⟨x, y⟩ _ hi ⟨h1, h2⟩
    have hi6 : i < 6 := by omega
    simp only at h1 h2
    unfold partref_Compare_B0
    simp only [vat_lt _ hi6, Option.bind_some, cond_some, Bool.cond_true_left, Tot.some_iff, Bool.or_eq_true, decide_eq_true_eq, h1, h2]
    refine ⟨?_, ?_⟩
    · constructor
      · rintro (⟨p, hp, k, l⟩ | k)
        · exact ⟨p, hp, by omega, l⟩
        · exact ⟨i, hi6, by omega, k⟩
      · rintro ⟨p, hp, k, l⟩
        by_cases e : p = i
        · subst e; exact .inr l
        · exact .inl ⟨p, hp, by omega, l⟩
    · constructor
      · rintro (⟨p, hp, k, l⟩ | k)
        · exact ⟨p, hp, by omega, l⟩
        · exact ⟨i, hi6, by omega, k⟩
      · rintro ⟨p, hp, k, l⟩
        by_cases e : p = i
        · subst e; exact .inr l
        · exact .inl ⟨p, hp, by omega, l⟩
  · rintro ⟨x, y⟩ ⟨h1, h2⟩
    simp only at h1 h2
    have hx : x = true ↔ ¬ LeV b a := by
      rw [h1]
      constructor
      · rintro ⟨p, hp, _, k⟩ h3
        have := h3 p hp; omega
      · intro h3
        refine Classical.byContradiction fun h4 => h3 fun p hp => ?_
        rcases Int.lt_or_le a[p] b[p] with h5 | h5
        · exact absurd ⟨p, hp, by omega, h5⟩ h4
        · exact h5
    have hy : y = true ↔ ¬ LeV a b := by
      rw [h2]
      constructor
      · rintro ⟨p, hp, _, k⟩ h3
        have := h3 p hp; omega
      · intro h3
        refine Classical.byContradiction fun h4 => h3 fun p hp => ?_
        rcases Int.lt_or_le b[p] a[p] with h5 | h5
        · exact absurd ⟨p, hp, by omega, h5⟩ h4
        · exact h5
    have heq : a = b ↔ LeV a b ∧ LeV b a := ⟨fun e => e ▸ ⟨LeV.refl _, LeV.refl _⟩, fun ⟨k, l⟩ => k.anti l⟩
    unfold cmpV
    simp only [heq]
    by_cases k : LeV a b <;> by_cases l : LeV b a <;> cases x <;> cases y <;> simp_all [Tot.some_iff]
end Go.Proofs.Ytclmlddmgccfjaa
