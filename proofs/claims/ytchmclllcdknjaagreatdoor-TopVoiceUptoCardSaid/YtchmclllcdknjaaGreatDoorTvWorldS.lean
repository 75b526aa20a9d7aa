/-
  One voice: who has fallen.
-/
import Derived.Test.YtchmclllcdknjaaGreatDoorTvWorldT
namespace Go.Proofs.YtchmclllcdknjaaGreatDoor
open Enc

def fln (a : AW) : List Bool := a.ps.map (·.fallen)
theorem fl_set {a : AW} {i : Nat} {x y : Procs} (hx : a.ps[i]? = some x) (hf : y.fallen = x.fallen) : fln { a with ps := a.ps.set i y } = fln a := by
  unfold fln
  show List.map _ (a.ps.set i y) = _
  rw [List.map_set, hf]
  exact set_self (by rw [List.getElem?_map, hx]; rfl)
theorem fl_fold {α : Type} {f : AW → Nat → α → AW} (h : ∀ b j x, fln (f b j x) = fln b) (l : List α) (i : Nat) (b : AW) : fln (foldI f i l b) = fln b :=
  foldI_inv (fun c => fln c = fln b) l i b (fun c j x _ hc => (h c j x).trans hc) rfl
theorem fl_send (a : AW) (k f t s : Int) (x : Str) : fln (sendM a k f t s x) = fln a := by unfold fln; rw [sendM_ps]
theorem fl_ask (s f : Int) : ∀ (k i : Nat) (b : AW), fln (askGo s f k i b) = fln b
  | 0, _, _ => rfl
  | k + 1, i, b => by
    unfold askGo
    cases b.ord[i]? with
    | none => rfl
    | some m => exact (fl_ask s f k (i + 1) _).trans (fl_send ..)
theorem fl_hear (b : AW) (p : Int) (t : Str) : fln (hearM b p t) = fln b := by
  unfold hearM
  cases hx : b.ps[p.toNat]? with
  | none => rfl
  | some x => exact fl_set hx rfl
theorem fl_chg (L : List Saying) (b : AW) (i : Nat) : fln (chgOne L b i) = fln b := by
  unfold chgOne
  cases hx : b.ps[i]? with
  | none => rfl
  | some x =>
    refine fl_set hx ?_
    cases act b (i : Int) <;> rfl
theorem fl_deliv (fu : Nat) (a : AW) (n : Note) : fln (delivM fu a n) = fln a := by
  unfold delivM
  cases (!knw a n.From) with
  | true => rfl
  | false =>
  cases n.Kind == 1 with
  | true =>
    simp only [cond_true, cond_false]
    unfold orderM
    cases hx : a.ps[n.From.toNat]? with
    | none => rfl
    | some x =>
      simp only
      cases decide (n.Seq > 16777214) with
      | true => rfl
      | false =>
        rw [cond_false, fl_fold fun b j t => by unfold fln; rw [(ordOne_like ..).ps]]
        exact fl_set hx rfl
  | false =>
  cases n.Kind == 3 with
  | true => exact fl_ask ..
  | false =>
  cases n.Kind == 2 with
  | true =>
    simp only [cond_true, cond_false]
    unfold takeM
    cases hx : a.ps[n.To.toNat]? with
    | none => rfl
    | some x =>
      simp only
      cases decide (n.Seq > 16777214) with
      | true => rfl
      | false =>
        rw [cond_false, fl_fold fun b j t => fl_hear b n.To t]
        exact fl_set hx rfl
  | false => rfl
theorem fl_do (fu : Nat) (a : AW) (d : Deed) : fln (doM fu a d).1 = if (d.Kind == 4) = true then fln (fallM a d.Who).1 else fln a := by
  unfold doM
  cases h1 : d.Kind == 1 with
  | true =>
    have h4 : (d.Kind == 4) = false := by have := beq_iff_eq.1 h1; rw [this]; rfl
    rw [h4, if_neg (by simp), cond_true]
    unfold sayM
    cases (who a d.Who != 0) with
    | true => rfl
    | false =>
    cases decide (d.Text.length > 150) with
    | true => rfl
    | false =>
    cases decide (a.way.length = 60) with
    | true => rfl
    | false =>
    cases hx : a.ps[d.Who.toNat]? with
    | none => rfl
    | some x =>
      simp only [cond_false]
      cases fullF x.from_ with
      | true => rfl
      | false => rw [cond_false]; simp only; rw [fl_send]; exact fl_set hx rfl
  | false =>
  cases h2 : d.Kind == 2 with
  | true =>
    have h4 : (d.Kind == 4) = false := by have := beq_iff_eq.1 h2; rw [this]; rfl
    rw [h4, if_neg (by simp)]
    simp only [cond_true, cond_false]; unfold fln; rw [(again_like a d.Who).ps]
  | false =>
  cases h3 : d.Kind == 3 with
  | true =>
    have h4 : (d.Kind == 4) = false := by have := beq_iff_eq.1 h3; rw [this]; rfl
    rw [h4, if_neg (by simp)]
    simp only [cond_true, cond_false]
    unfold moveM
    cases !(decide (d.How ≥ 1) && decide (d.How ≤ 3)) with
    | true => rfl
    | false =>
    cases !(decide (d.Who ≥ 0) && decide (d.Who ≤ (a.way.length : Int) - 1)) with
    | true => rfl
    | false =>
    cases (d.How == 3) && decide (a.way.length = 60) with
    | true => rfl
    | false =>
    cases a.way[d.Who.toNat]? with
    | none => rfl
    | some n =>
      simp only [cond_false]
      cases d.How == 3 with
      | true => rfl
      | false =>
        rw [cond_false]
        simp only
        cases ((d.How == 1) && (n.View == a.view.Num)) && act a n.To with
        | true => rw [cond_true, fl_deliv]; rfl
        | false => rfl
  | false =>
  cases h4 : d.Kind == 4 with
  | true => rfl
  | false =>
  rw [if_neg (by simp)]
  cases d.Kind == 5 with
  | true =>
    simp only [cond_true, cond_false]
    unfold changeM
    cases (nextV a.view (glM a).1).2 != 0 with
    | true => rfl
    | false =>
      rw [cond_false]
      show fln (foldI _ 0 a.ps a) = _
      rw [fl_fold fun b j x => fl_chg ..]
  | false => rfl
/-- The list of those who fell. -/
def Fell (a : AW) (es : List Int) : Prop := ∀ (i : Nat) b, (fln a)[i]? = some b → (b = true ↔ (i : Int) ∈ es)
theorem Fell.new {n : Nat} : Fell (newA n) [] := fun i b hb => by
  have : (List.replicate n false)[i]? = some b := by
    have e : fln (newA n) = List.replicate n false := by unfold fln newA; show List.map _ (List.replicate n Procs.zero) = _; rw [List.map_replicate]; rfl
    rw [← e]; exact hb
  have := (List.mem_replicate.1 (List.mem_of_getElem? this)).2
  rw [this]; simp
theorem Fell.do {fu : Nat} {a : AW} {es : List Int} (h : Fell a es) (d : Deed) : Fell (doM fu a d).1 (if ((doM fu a d).2 == 0 && d.Kind == 4) = true then es ++ [d.Who] else es) := by
  intro i b hb
  rw [fl_do] at hb
  by_cases h4 : (d.Kind == 4) = true
  · rw [if_pos h4] at hb
    have e4 := beq_iff_eq.1 h4
    have ed : doM fu a d = fallM a d.Who := by unfold doM; rw [e4]; rfl
    rw [ed, h4, Bool.and_true]
    unfold fallM at hb ⊢
    cases hk : knw a d.Who with
    | false =>
      rw [hk] at hb
      exact h i b hb
    | true =>
      obtain ⟨j, hj, hjl⟩ := knw_iff.1 hk
      have hx : a.ps[j]? = some a.ps[j] := by simp [hjl]
      generalize a.ps[j] = x at hx
      rw [hk, hj, Int.toNat_natCast, hx] at hb
      rw [hj, Int.toNat_natCast, hx]
      simp only [Bool.not_true, cond_false, beq_self_eq_true, if_true] at hb ⊢
      have hb' : ((fln a).set j true)[i]? = some b := by
        unfold fln at hb ⊢
        rw [← hb]
        show _ = (List.map _ (a.ps.set j _))[i]?
        rw [List.map_set]
      by_cases c : i = j
      · subst c
        rw [List.getElem?_set_self (by unfold fln; rw [List.length_map]; exact hjl)] at hb'
        rw [← Option.some.inj hb']
        simp
      · rw [List.getElem?_set_ne (fun e => c e.symm)] at hb'
        rw [h i b hb', List.mem_append, List.mem_singleton]
        exact ⟨.inl, fun q => q.resolve_right (by omega)⟩
  · rw [if_neg h4] at hb
    rw [show (d.Kind == 4) = false by simpa using h4, Bool.and_false]
    exact h i b hb
end Go.Proofs.YtchmclllcdknjaaGreatDoor
