/-
  Plain facts on the specs' loops.
-/
import Derived.Test.YticifbmaapnfbaaGoC
namespace Go.Proofs.Yticifbmaapnfbaa
open Enc

theorem vat_nat {α : Type} {m : Nat} (v : Vector α m) (i : Nat) : vat v (i : Int) = v[i]? := by simp [vat]
theorem lat_nat {α : Type} (l : List α) (i : Nat) : lat l (i : Int) = l[i]? := by simp [lat]
theorem vat_lt {α : Type} {m : Nat} (v : Vector α m) {i : Nat} (h : i < m) : vat v (i : Int) = some v[i] := by rw [vat_nat]; simp [h]
theorem or_some (c x : Bool) : (bif c then some true else some x) = some (c || x) := by cases c <;> rfl
theorem and_some (c x : Bool) : (bif c then some x else some false) = some (c && x) := by cases c <;> rfl
theorem cond_some {α : Type} (c : Bool) (x y : α) : (bif c then some x else some y) = some (bif c then x else y) := by cases c <;> rfl
theorem bind_id {α : Type} (x : Option α) : (x.bind fun y => some y) = x := by cases x <;> rfl
/-- What a loop that only looks comes to: all rounds went, or one returned. -/
theorem rangeM_look {τ : Type} {body : Nat → Unit → Option (Ctl Unit τ)} : ∀ (k i : Nat), (∀ j, i ≤ j → j < i + k → body j () = some (.go ()) ∨ ∃ t, body j () = some (.ret t)) →
    (rangeM body k i () = some (.inl ()) ∧ ∀ j, i ≤ j → j < i + k → body j () = some (.go ())) ∨ ∃ m t, i ≤ m ∧ m < i + k ∧ (∀ j, i ≤ j → j < m → body j () = some (.go ())) ∧ body m () = some (.ret t) ∧ rangeM body k i () = some (.inr t)
  | 0, i, _ => .inl ⟨rfl, fun j h1 h2 => by omega⟩
  | k + 1, i, h => by
    rcases h i (by omega) (by omega) with h0 | ⟨t, h0⟩
    · rcases rangeM_look k (i + 1) (fun j h1 h2 => h j (by omega) (by omega)) with ⟨h1, h2⟩ | ⟨m, t, h1, h2, h3, h4, h5⟩
      · refine .inl ⟨by unfold rangeM; rw [h0]; exact h1, fun j a b => ?_⟩
        by_cases e : j = i
        · subst e; exact h0
        · exact h2 j (by omega) (by omega)
      · refine .inr ⟨m, t, by omega, by omega, fun j a b => ?_, h4, by unfold rangeM; rw [h0]; exact h5⟩
        by_cases e : j = i
        · subst e; exact h0
        · exact h3 j (by omega) b
    · exact .inr ⟨i, t, by omega, by omega, fun j a b => by omega, h0, by unfold rangeM; rw [h0]; rfl⟩
/-- A loop with an invariant. -/
theorem rangeF_inv {σ : Type} {body : Nat → σ → Option σ} (I : Nat → σ → Prop) : ∀ (k i : Nat) (s : σ), I i s → (∀ j s, i ≤ j → j < i + k → I j s → ∃ s', body j s = some s' ∧ I (j + 1) s') → ∃ s', rangeF body k i s = some s' ∧ I (i + k) s'
  | 0, i, s, h, _ => ⟨s, rfl, h⟩
  | k + 1, i, s, h, hb => by
    obtain ⟨s1, h1, h2⟩ := hb i s (by omega) (by omega) h
    obtain ⟨s2, h3, h4⟩ := rangeF_inv I k (i + 1) s1 h2 fun j s a b => hb j s (by omega) (by omega)
    exact ⟨s2, by unfold rangeF; rw [h1]; exact h3, by rw [show i + (k + 1) = i + 1 + k by omega]; exact h4⟩
theorem andThen_inl {σ τ : Type} {s : σ} {f : σ → Option τ} : andThen (some (.inl s)) f = f s := rfl
theorem andThen_inr {σ τ : Type} {t : τ} {f : σ → Option τ} : andThen (some (.inr t)) f = some t := rfl
theorem room_ok {α : Type} {l m : List α} (h : l.length + m.length ≤ 2 ^ 40) : room l m = some () := by simp [room, h]
theorem upTo_ok {n : Int} (h : n ≤ 2 ^ 63 - 1) : upTo n = some n.toNat := by unfold upTo; rw [if_pos h]
end Go.Proofs.Yticifbmaapnfbaa
