/-
  partref.Closure: what is reached over one pair or more.
-/
import Derived.Test.YticifbmaapnfbaaPpSp
import Derived.Test.YticifbmaapnfbaaGoN
namespace Go.Proofs.Yticifbmaapnfbaa
open Enc

theorem lat_lt {α : Type} {l : List α} {i : Nat} (h : i < l.length) : lat l (i : Int) = some l[i] := by rw [lat_nat]; simp [h]


def Adj (l : List Pair) (a b : Nat) : Prop := (⟨(a : Int), (b : Int)⟩ : Pair) ∈ l
def Reach (l : List Pair) : Nat → Nat → Prop := Relation.TransGen (Adj l)
/-- All pairs are of numbers below n. -/
def InR (n : Nat) (l : List Pair) : Prop := ∀ p ∈ l, 0 ≤ p.A ∧ p.A < n ∧ 0 ≤ p.B ∧ p.B < n

/-- What holds of a row and of what is to do; a: the number whose pairs are being gone through, k of them. -/
structure RowInv (l : List Pair) (n i : Nat) (row : List Bool) (todo : List Int) (cur : Option (Nat × Nat)) : Prop where
  lenR : row.length = n
  soundR : ∀ b, row[b]? = some true → Reach l i b
  todoR : ∀ t ∈ todo, ∃ k : Nat, t = (k : Int) ∧ k < n ∧ (k = i ∨ row[k]? = some true)
  doneR : ∀ c : Nat, (c = i ∨ row[c]? = some true) → (c : Int) ∈ todo ∨ (∃ k, cur = some (c, k)) ∨ ∀ b, Adj l c b → row[b]? = some true
  curR : ∀ c k, cur = some (c, k) → (c = i ∨ row[c]? = some true) ∧ ∀ j, j < k → ∀ b : Nat, l[j]? = some ⟨(c : Int), (b : Int)⟩ → row[b]? = some true

theorem count_flip {row : List Bool} {b : Nat} (h : row[b]? = some false) : (row.set b true).count false + 1 = row.count false := by
  obtain ⟨hb, hv⟩ := List.getElem?_eq_some_iff.1 h
  have e : row = row.take b ++ false :: row.drop (b + 1) := by rw [← hv, ← List.drop_eq_getElem_cons hb, List.take_append_drop]
  have e2 : row.set b true = row.take b ++ true :: row.drop (b + 1) := by rw [List.set_eq_take_append_cons_drop, if_pos hb]
  rw [e2]
  conv => rhs; rw [e]
  simp [List.count_append]
  omega

theorem closure_for {l : List Pair} {n i a : Nat} {M0 : List (List Bool)} {row0 : List Bool} {todo0 : List Int} (hl : InR n l) (hi : i < M0.length) (hm : row0.count false + todo0.length ≤ 2 ^ 30) (h0 : RowInv l n i row0 todo0 (some (a, 0))) :
    ∃ row todo, rangeF (partref_Closure_B4 l i (a : Int)) l.length 0 (todo0, M0.set i row0) = some (todo, M0.set i row) ∧ RowInv l n i row todo (some (a, l.length)) ∧ row.count false + todo.length = row0.count false + todo0.length := by
  refine Exists.elim (rangeF_inv (body := partref_Closure_B4 l i (a : Int)) (fun j s => ∃ row todo, s = (todo, M0.set i row) ∧ RowInv l n i row todo (some (a, j)) ∧ row.count false + todo.length = row0.count false + todo0.length)
    l.length 0 (todo0, M0.set i row0) ⟨row0, todo0, rfl, h0, rfl⟩ ?_) ?_
  · rintro j s _ hj ⟨row, todo, rfl, hI, hc⟩
    have hj' : j < l.length := by omega
    obtain ⟨q1, q2, q3, q4⟩ := hl l[j] (List.getElem_mem hj')
    have hset : ∀ r : List Bool, lat (M0.set i r) (i : Int) = some r := fun r => by rw [lat_nat, List.getElem?_set_self hi]
    unfold partref_Closure_B4
    rw [lat_lt hj']
    simp only [Option.bind_some]
    obtain ⟨b, hb⟩ := Int.eq_ofNat_of_zero_le q3
    have hbn : b < n := by omega
    have hbl : b < row.length := by rw [hI.lenR]; exact hbn
    have hcur := hI.curR a j rfl
    by_cases hA : l[j].A = (a : Int)
    · have hp : l[j] = (⟨(a : Int), (b : Int)⟩ : Pair) := by
        cases hh : l[j] with
        | mk A B => rw [hh] at hA hb; simp only at hA hb; subst hA hb; rfl
      have e1 : (l[j].A == (a : Int)) = true := by simpa using hA
      rw [e1, cond_true, hset, Option.bind_some, hb, lat_lt hbl]
      simp only [Option.bind_some]
      cases hrow : row[b] with
      | true =>
        refine ⟨_, rfl, row, todo, rfl, ⟨hI.lenR, hI.soundR, hI.todoR, fun c h => ?_, fun c k h => ?_⟩, hc⟩
        · rcases hI.doneR c h with h | ⟨k, h⟩ | h
          · exact .inl h
          · cases h; exact .inr (.inl ⟨_, rfl⟩)
          · exact .inr (.inr h)
        · cases h
          refine ⟨hcur.1, fun j' hj1 b' hb' => ?_⟩
          by_cases e : j' = j
          · subst e
            rw [List.getElem?_eq_getElem hj', hp] at hb'
            simp only [Option.some.injEq, Pair.mk.injEq, Int.natCast_inj, true_and] at hb'
            subst hb'
            simp [hbl, hrow]
          · exact hcur.2 j' (by omega) b' hb'
      | false =>
        have hflip : row[b]? = some false := by simp [hbl, hrow]
        have hmono : ∀ c, row[c]? = some true → (row.set b true)[c]? = some true := fun c h => by
          by_cases e : b = c
          · subst e; rw [hflip] at h; cases h
          · rw [List.getElem?_set_ne e]; exact h
        have hnew : (row.set b true)[b]? = some true := List.getElem?_set_self hbl
        have hroom : todo.length ≤ 2 ^ 30 := by omega
        simp only [Bool.not_false, cond_true, hset, Option.bind_some, lat_lt hbl, Let_eq, Int.toNat_natCast, List.set_set]
        rw [room_ok (by simp; omega)]
        refine ⟨_, rfl, row.set b true, todo ++ [(b : Int)], rfl, ⟨by simp [hI.lenR], fun c h => ?_, fun t ht => ?_, fun c h => ?_, fun c k h => ?_⟩, ?_⟩
        · by_cases e : b = c
          · subst e
            have hadj : Adj l a b := by unfold Adj; rw [← hp]; exact List.getElem_mem hj'
            rcases hcur.1 with h | h
            · subst h; exact .single hadj
            · exact .tail (hI.soundR a h) hadj
          · rw [List.getElem?_set_ne e] at h; exact hI.soundR c h
        · rcases List.mem_append.1 ht with ht | ht
          · obtain ⟨k, e1, e2, e3⟩ := hI.todoR t ht
            exact ⟨k, e1, e2, e3.imp id (hmono k)⟩
          · simp at ht; exact ⟨b, ht, hbn, .inr hnew⟩
        · by_cases e : b = c
          · subst e; exact .inl (by simp)
          · have h' : c = i ∨ row[c]? = some true := h.imp id fun h => by rw [List.getElem?_set_ne e] at h; exact h
            rcases hI.doneR c h' with h | ⟨k, h⟩ | h
            · exact .inl (by simp [h])
            · cases h; exact .inr (.inl ⟨_, rfl⟩)
            · exact .inr (.inr fun b' hb' => hmono b' (h b' hb'))
        · cases h
          refine ⟨hcur.1.imp id (hmono _), fun j' hj1 b' hb' => ?_⟩
          by_cases e : j' = j
          · subst e
            rw [List.getElem?_eq_getElem hj', hp] at hb'
            simp only [Option.some.injEq, Pair.mk.injEq, Int.natCast_inj, true_and] at hb'
            subst hb'
            exact hnew
          · exact hmono b' (hcur.2 j' (by omega) b' hb')
        · have := count_flip hflip
          simp; omega
    · have e1 : (l[j].A == (a : Int)) = false := by simpa using hA
      rw [e1, cond_false]
      simp only [Option.bind_some, cond_false]
      refine ⟨_, rfl, row, todo, rfl, ⟨hI.lenR, hI.soundR, hI.todoR, fun c h => ?_, fun c k h => ?_⟩, hc⟩
      · rcases hI.doneR c h with h | ⟨k, h⟩ | h
        · exact .inl h
        · cases h; exact .inr (.inl ⟨_, rfl⟩)
        · exact .inr (.inr h)
      · cases h
        refine ⟨hcur.1, fun j' hj1 b' hb' => ?_⟩
        by_cases e : j' = j
        · subst e
          rw [List.getElem?_eq_getElem hj'] at hb'
          exact absurd (by rw [Option.some.inj hb']) hA
        · exact hcur.2 j' (by omega) b' hb'
  · rintro s ⟨h1, row, todo, rfl, h2, h3⟩
    rw [Nat.zero_add] at h2
    exact ⟨row, todo, h1, h2, h3⟩

theorem closure_while {l : List Pair} {n i : Nat} {M0 : List (List Bool)} (hl : InR n l) (hi : i < M0.length) : ∀ (fu : Nat) (row : List Bool) (todo : List Int), row.count false + todo.length < fu → fu ≤ 2 ^ 30 → RowInv l n i row todo none →
    ∃ row', whileM (partref_Closure_B2 l i) fu (todo, M0.set i row) = some (.inl ([], M0.set i row')) ∧ RowInv l n i row' [] none
  | 0, _, _, h, _, _ => by omega
  | fu + 1, row, [], h, hf, hI => ⟨row, by unfold whileM partref_Closure_B2; rfl, hI⟩
  | fu + 1, row, t :: rest, h, hf, hI => by
    obtain ⟨k, rfl, hk, hkr⟩ := hI.todoR t (by simp)
    have h0 : RowInv l n i row rest (some (k, 0)) := ⟨hI.lenR, hI.soundR, fun t ht => hI.todoR t (by simp [ht]), fun c hc => by
        rcases hI.doneR c hc with h | ⟨_, h⟩ | h
        · rcases List.mem_cons.1 h with h | h
          · have : c = k := by omega
            subst this; exact .inr (.inl ⟨0, rfl⟩)
          · exact .inl h
        · cases h
        · exact .inr (.inr h), fun c j h => by cases h; exact ⟨hkr, fun j hj => by omega⟩⟩
    simp only [List.length_cons] at h
    obtain ⟨row1, todo1, e1, h1, hc⟩ := closure_for (M0 := M0) hl hi (by omega) h0
    have h2 : RowInv l n i row1 todo1 none := ⟨h1.lenR, h1.soundR, h1.todoR, fun c hc => by
        rcases h1.doneR c hc with h | ⟨j, h⟩ | h
        · exact .inl h
        · cases h
          refine .inr (.inr fun b hb => ?_)
          obtain ⟨j, hj⟩ := List.getElem?_of_mem hb
          exact (h1.curR _ l.length rfl).2 j (List.getElem?_eq_some_iff.1 hj).1 b hj
        · exact .inr (.inr h), fun c j h => by cases h⟩
    obtain ⟨row', e2, h3⟩ := closure_while hl hi fu row1 todo1 (by omega) (by omega) h2
    refine ⟨row', ?_, h3⟩
    unfold whileM partref_Closure_B2
    have g1 : decide (((((k : Int) :: rest : List Int).length : Int)) > 0) = true := by simp
    have g2 : lat ((k : Int) :: rest) (0 : Int) = some (k : Int) := rfl
    have g3 : cutL ((k : Int) :: rest) 1 ((((k : Int) :: rest).length : Int)) = some rest := by
      unfold cutL
      rw [if_pos (by simp; omega)]
      simp
    simp only [g1, cond_true, g2, g3, Option.bind_some, e1]
    exact e2
/-- A row, when it is done. -/
theorem RowInv.all {l : List Pair} {n i : Nat} {row : List Bool} (h : RowInv l n i row [] none) (b : Nat) : row[b]? = some true ↔ Reach l i b := by
  have hd : ∀ c : Nat, (c = i ∨ row[c]? = some true) → ∀ b, Adj l c b → row[b]? = some true := fun c hc => by
    rcases h.doneR c hc with h | ⟨_, h⟩ | h
    · simp at h
    · cases h
    · exact h
  constructor
  · exact h.soundR b
  · intro hr
    induction hr with
    | single ha => exact hd i (.inl rfl) _ ha
    | tail _ ha ih => exact hd _ (.inr ih) _ ha
/-- The matrix of what is reached. -/
def IsClosure (l : List Pair) (n : Nat) (M : List (List Bool)) : Prop := M.length = n ∧ ∀ (i : Nat) (row : List Bool), M[i]? = some row → row.length = n ∧ ∀ b, row[b]? = some true ↔ Reach l i b
theorem closure_law {l : List Pair} {n fu : Nat} (hl : InR n l) (hn : n ≤ 2 ^ 20) (hfu : n + 2 ≤ fu) (hfu2 : fu ≤ 2 ^ 30) : ∃ M, partref_Closure fu (n : Int) l = some M ∧ IsClosure l n M := by
  have hmk : mkLen (n : Int) = some n := by unfold mkLen; rw [if_pos (by omega)]; rfl
  have hup : upTo (n : Int) = some n := by unfold upTo; rw [if_pos (by omega)]; rfl
  unfold partref_Closure
  simp only [hmk, hup, Option.bind_some]
  refine Exists.elim (rangeF_inv (body := partref_Closure_B0 fu (n : Int) l) (fun i M => M.length = n ∧ ∀ (j : Nat) (row : List Bool), j < i → M[j]? = some row → row.length = n ∧ ∀ b, row[b]? = some true ↔ Reach l j b)
    n 0 (List.replicate n []) ⟨by simp, fun j row h => by omega⟩ ?_) ?_
  · rintro i M _ hi ⟨h1, h2⟩
    have hi' : i < M.length := by omega
    have h0 : RowInv l n i (List.replicate n false) [(i : Int)] none := ⟨by simp, fun b h => by
        have := (List.getElem?_eq_some_iff.1 h).2; simp at this, fun t ht => by
        simp at ht; exact ⟨i, ht, by omega, .inl rfl⟩, fun c hc => by
        rcases hc with rfl | h
        · exact .inl (by simp)
        · have := (List.getElem?_eq_some_iff.1 h).2; simp at this, fun c k h => by cases h⟩
    obtain ⟨row, e, hr⟩ := closure_while (M0 := M) hl hi' fu (List.replicate n false) [(i : Int)] (by simp; omega) hfu2 h0
    refine ⟨M.set i row, ?_, by simp [h1], fun j r hj hr' => ?_⟩
    · unfold partref_Closure_B0
      simp only [hmk, Option.bind_some, lat_lt hi', Let_eq, Int.toNat_natCast, e, andThen_inl]
    · by_cases hji : i = j
      · subst hji
        rw [List.getElem?_set_self hi'] at hr'
        obtain rfl := Option.some.inj hr'
        exact ⟨hr.lenR, hr.all⟩
      · rw [List.getElem?_set_ne hji] at hr'
        exact h2 j r (by omega) hr'
  · rintro M ⟨h1, h2, h3⟩
    refine ⟨M, by rw [h1]; rfl, h2, fun i row hr => h3 i row ?_ hr⟩
    have := (List.getElem?_eq_some_iff.1 hr).1
    omega
end Go.Proofs.Yticifbmaapnfbaa
