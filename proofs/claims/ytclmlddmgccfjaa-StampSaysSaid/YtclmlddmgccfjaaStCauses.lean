/-
  The reference's causes and vectors.
-/
import Derived.Test.YtclmlddmgccfjaaStVect
namespace Go.Proofs.Ytclmlddmgccfjaa
open Enc

structure CInv (h : List Event) (i k : Nat) (z : List Pair) : Prop where
  len : z.length ≤ 60 * i + k
  mem : ∀ q : Pair, q ∈ z ↔ ∃ a b : Nat, q = ⟨(a : Int), (b : Int)⟩ ∧ Prec h a b ∧ (a < i ∨ (a = i ∧ b < k))
theorem causes_row {h : List Event} {i fu : Nat} {z : List Pair} (hl : h.length ≤ 60) (hi : i < h.length) (hfu : 100 ≤ fu) (hz : CInv h i 0 z) : Tot (partref_Causes_B0 fu h i z) (CInv h (i + 1) 0) := by
  have hx : h[i]? = some h[i] := by simp [hi]
  unfold partref_Causes_B0
  rw [Tot.bind_iff, Tot.lat_iff]
  refine ⟨hi, ?_⟩
  generalize h[i] = x at hx
  rw [Tot.andThen_iff]
  have e64 : w64 ((i : Int) + 1) = ((i + 1 : Nat) : Int) := by rw [w64_id (by omega) (by omega)]; rfl
  rw [e64]
  refine Tot.whileM (fun s => ∃ k : Nat, s.1 = (k : Int) ∧ i < k ∧ k ≤ h.length ∧ CInv h i k s.2) (fun s => 61 - s.1.toNat) ⟨i + 1, rfl, by omega, by omega, by show z.length ≤ _; have := hz.len; omega, ?_⟩ (by show 61 - ((i + 1 : Nat) : Int).toNat < fu; omega) ?_
  · intro q
    rw [hz.mem]
    constructor
    · rintro ⟨a, b, e, hp, h1 | ⟨h1, h2⟩⟩
      · exact ⟨a, b, e, hp, .inl h1⟩
      · omega
    · rintro ⟨a, b, e, hp, h1 | ⟨h1, h2⟩⟩
      · exact ⟨a, b, e, hp, .inl h1⟩
      · have := hp.1; omega
  · rintro ⟨k', z⟩ ⟨k, hk', hik, hkl, hI⟩
    simp only at hk' hI
    subst hk'
    unfold partref_Causes_B2
    simp only
    rw [Tot.ite_iff]
    refine ⟨fun hc => ?_, fun hc => ?_⟩
    · have hk : k < h.length := by have := of_decide_eq_true hc; omega
      have hy : h[k]? = some h[k] := by simp [hk]
      rw [Tot.bind_iff, Tot.lat_iff]
      refine ⟨hk, ?_⟩
      generalize h[k] = y at hy
      have e64 : w64 ((k : Int) + 1) = ((k + 1 : Nat) : Int) := by rw [w64_id (by omega) (by omega)]; rfl
      simp only [and_some, Option.bind_some]
      have hroom : z.length + 1 ≤ 2 ^ 40 := by have := hI.len; omega
      have iff : Prec h i k ↔ (x.Proc = y.Proc ∨ (x.Kind = 2 ∧ y.Kind = 3 ∧ x.Msg = y.Msg)) := by
        constructor
        · rintro ⟨_, a, b, ha, hb, h3⟩
          rw [hx] at ha; rw [hy] at hb
          obtain rfl := Option.some.inj ha
          obtain rfl := Option.some.inj hb
          exact h3
        · exact fun h3 => ⟨hik, x, y, hx, hy, h3⟩
      have old : ∀ q : Pair, q ∈ z → ∃ a b : Nat, q = ⟨(a : Int), (b : Int)⟩ ∧ Prec h a b ∧ (a < i ∨ (a = i ∧ b < k + 1)) := fun q hq => by
        obtain ⟨a, b, e, hp, h1⟩ := (hI.mem q).1 hq
        exact ⟨a, b, e, hp, by omega⟩
      have more : ∀ a b : Nat, Prec h a b → (a < i ∨ (a = i ∧ b < k + 1)) → (⟨(a : Int), (b : Int)⟩ : Pair) ∈ z ∨ (a = i ∧ b = k) := fun a b hp h1 => by
        by_cases e : a = i ∧ b = k
        · exact .inr e
        · exact .inl ((hI.mem _).2 ⟨a, b, rfl, hp, by omega⟩)
      have yes : Prec h i k → CInv h i (k + 1) (z ++ [({ Pair.zero with A := (i : Int), B := (k : Int) } : Pair)]) := fun hp => by
        refine ⟨by have := hI.len; simp; omega, fun q => ?_⟩
        rw [List.mem_append, List.mem_singleton]
        constructor
        · rintro (hq | rfl)
          · exact old q hq
          · exact ⟨i, k, rfl, hp, .inr ⟨rfl, by omega⟩⟩
        · rintro ⟨a, b, rfl, hp', h1⟩
          rcases more a b hp' h1 with h2 | ⟨rfl, rfl⟩
          · exact .inl h2
          · exact .inr rfl
      have no : ¬ Prec h i k → CInv h i (k + 1) z := fun hp => by
        refine ⟨by have := hI.len; omega, fun q => ⟨old q, ?_⟩⟩
        rintro ⟨a, b, rfl, hp', h1⟩
        rcases more a b hp' h1 with h2 | ⟨rfl, rfl⟩
        · exact h2
        · exact absurd hp' hp
      simp only [Tot.ite_iff, Tot.bind_iff, Tot.room_iff, Tot.some_iff, Tot.go_iff, e64, List.length_singleton]
      have fin : ∀ z', CInv h i (k + 1) z' → (∃ k_1 : Nat, ((k + 1 : Nat) : Int) = (k_1 : Int) ∧ i < k_1 ∧ k_1 ≤ h.length ∧ CInv h i k_1 z') ∧ 61 - (((k + 1 : Nat) : Int)).toNat < 61 - ((k : Nat) : Int).toNat := fun z' hz' => ⟨⟨k + 1, rfl, by omega, by omega, hz'⟩, by omega⟩
      refine ⟨fun h1 => ⟨hroom, fin _ (yes (iff.2 (.inl (by simpa using h1))))⟩, fun h1 => ⟨fun h2 => ⟨hroom, fin _ (yes (iff.2 (.inr (by simpa [and_assoc] using h2))))⟩, fun h2 => fin _ (no fun h3 => ?_)⟩⟩
      rcases iff.1 h3 with h4 | ⟨h4, h5, h6⟩
      · simp [h4] at h1
      · simp [h4, h5, h6] at h2
    · have hk : k = h.length := by have := of_decide_eq_false hc; omega
      refine Tot.some_iff.2 (Tot.some_iff.2 ⟨by have := hI.len; simp only; omega, fun q => ?_⟩)
      rw [hI.mem]
      constructor
      · rintro ⟨a, b, e, hp, h1⟩
        exact ⟨a, b, e, hp, by omega⟩
      · rintro ⟨a, b, e, hp, h1⟩
        have hp' := hp
        obtain ⟨_, _, y, _, hb, _⟩ := hp
        have := (List.getElem?_eq_some_iff.1 hb).1
        exact ⟨a, b, e, hp', by omega⟩
/-- Which event is before which. -/
def IsCauses (h : List Event) (M : List (List Bool)) : Prop := M.length = h.length ∧ ∀ (i : Nat) (row : List Bool), M[i]? = some row → row.length = h.length ∧ ∀ k, row[k]? = some true ↔ Hb h i k
theorem causes_law {h : List Event} {fu : Nat} (hl : h.length ≤ 60) (hfu : 100 ≤ fu) (hfu2 : fu ≤ 2 ^ 30) : Tot (partref_Causes fu h) (IsCauses h) := by
  unfold partref_Causes
  rw [Tot.bind_iff]
  refine Tot.rangeF (fun i z => CInv h i 0 z) ⟨by simp, fun q => ⟨fun k => by simp at k, fun ⟨a, b, _, _, k⟩ => by omega⟩⟩ (fun i z _ hi hz => causes_row hl (by omega) hfu hz) ?_
  intro z hz
  rw [Nat.zero_add] at hz
  have hin : InR h.length z := by
    intro q hq
    obtain ⟨a, b, rfl, ⟨hab, _, y, _, hb, _⟩, _⟩ := (hz.mem q).1 hq
    have := (List.getElem?_eq_some_iff.1 hb).1
    simp only
    omega
  obtain ⟨M, e, hM⟩ := closure_law (fu := fu) hin (by omega) (by omega) hfu2
  have hadj : Reach z = Hb h := by
    have : Adj z = Prec h := by
      funext a b
      apply propext
      unfold Adj
      rw [hz.mem]
      constructor
      · rintro ⟨a', b', e, hp', _⟩
        simp only [Pair.mk.injEq, Int.natCast_inj] at e
        obtain ⟨rfl, rfl⟩ := e
        exact hp'
      · intro hp
        refine ⟨a, b, rfl, hp, .inl ?_⟩
        obtain ⟨_, x, _, ha, _⟩ := hp
        exact (List.getElem?_eq_some_iff.1 ha).1
    unfold Reach Hb
    rw [this]
  rw [Tot.bind_iff, e, Tot.some_iff, Tot.some_iff]
  unfold IsClosure at hM
  rw [hadj] at hM
  exact hM
theorem IsCauses.lat {h : List Event} {M : List (List Bool)} (hM : IsCauses h M) {i k : Nat} {Q : Bool → Prop} (hi : i < h.length) (hk : k < h.length) (hQ : ∀ b : Bool, (b = true ↔ Hb h i k) → Q b) : Tot ((lat M (i : Int)).bind fun r => lat r (k : Int)) Q := by
  obtain ⟨h1, h2⟩ := hM
  have hi' : i < M.length := by omega
  obtain ⟨h3, h4⟩ := h2 i M[i] (by simp [hi'])
  rw [Tot.bind_iff, Tot.lat_iff]
  refine ⟨hi', ?_⟩
  rw [Tot.lat_iff]
  have hk' : k < M[i].length := by omega
  refine ⟨hk', hQ _ ?_⟩
  rw [← h4 k]
  simp [hk']
/-- Of a set that is told by numbers, so many are there up to j. -/
theorem count_step {h : List Event} {p : Int} {n : Int} {S : Nat → Prop} {j : Nat} {x : Event} (hb : BelowAt h p n S) (hx : h[j]? = some x) :
    (x.Proc = p → S j → min n (cntP h p (j + 1) : Int) = min n (cntP h p j : Int) + 1) ∧ ((x.Proc ≠ p ∨ ¬ S j) → min n (cntP h p (j + 1) : Int) = min n (cntP h p j : Int)) := by
  rw [cntP_succ hx]
  refine ⟨fun hp hs => ?_, fun hn => ?_⟩
  · have := (hb.iff j x hx hp).1 hs
    rw [cntP_succ hx, if_pos hp] at this
    rw [if_pos hp]; omega
  · by_cases hp : x.Proc = p
    · have hs : ¬ S j := hn.resolve_left fun k => k hp
      have := mt (hb.iff j x hx hp).2 hs
      rw [cntP_succ hx, if_pos hp] at this
      rw [if_pos hp]; omega
    · rw [if_neg hp]; simp
/-! ### Comparing -/
def LeV (a b : Vector Int 6) : Prop := ∀ (p : Nat) (hp : p < 6), a[p] ≤ b[p]
theorem LeV.anti {a b : Vector Int 6} (h1 : LeV a b) (h2 : LeV b a) : a = b := Vector.ext fun p hp => by have := h1 p hp; have := h2 p hp; omega
theorem LeV.refl (a : Vector Int 6) : LeV a a := fun _ _ => Int.le_refl _
open Classical in
noncomputable def cmpV (a b : Vector Int 6) : Int := if a = b then 0 else if LeV a b then 1 else if LeV b a then 2 else 3
end Go.Proofs.Ytclmlddmgccfjaa
