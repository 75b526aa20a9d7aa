/-
  One voice: what is told to those who are there is what is ordered.
-/
import Derived.Test.YtchmclllcdknjaaGreatDoorTvWorldG
namespace Go.Proofs.YtchmclllcdknjaaGreatDoor
open Enc

def readL (l : List (Int × Int × Str)) : List Saying := l.map fun m => ⟨m.1, m.2.2⟩
/-- What one process has been told. -/
def Told (base : List Saying) (ord : List (Int × Int × Str)) (x : Procs) : Prop :=
  (0 ≤ x.to.Next ∧ x.to.Next ≤ ord.length) ∧ x.log = base ++ readL (ord.take x.to.Next.toNat) ∧ ∀ p ∈ x.to.Early, ∃ m, ord[p.Seq.toNat]? = some m ∧ p.Text = enc3 m
def NV (v : Int) (ord : List (Int × Int × Str)) (n : Note) : Prop := n.View ≤ v ∧ (n.Kind = 2 → n.View = v → ∃ m, ord[n.Seq.toNat]? = some m ∧ n.Text = enc3 m)
structure PV (base : List Saying) (a : AW) : Prop where
  log : ∀ (i : Nat) x, a.ps[i]? = some x → act a (i : Int) = true → Told base a.ord x
  way : ∀ n ∈ a.way, NV a.view.Num a.ord n
theorem act_get {a : AW} {i : Nat} {x : Procs} (hx : a.ps[i]? = some x) : act a (i : Int) = (isIn a.view.Members i && !x.fallen) := by
  have hi := (List.getElem?_eq_some_iff.1 hx).1
  have hk : knw a (i : Int) = true := knw_iff.2 ⟨i, rfl, hi⟩
  unfold act
  rw [hk, Int.toNat_natCast, hx, Bool.true_and]
theorem PV.send {base : List Saying} {a : AW} (h : PV base a) {k f t s : Int} {x : Str} (h2 : k = 2 → ∃ m, a.ord[s.toNat]? = some m ∧ x = enc3 m) : PV base (sendM a k f t s x) := by
  unfold sendM
  cases hc : (okN (noteM a.view k f t s x) && decide (a.way.length < 60)) with
  | false => exact h
  | true =>
    refine ⟨h.log, fun n hn => ?_⟩
    rcases List.mem_append.1 hn with q | q
    · exact h.way n q
    · rw [List.mem_singleton.1 q]
      exact ⟨Int.le_refl _, fun e _ => h2 e⟩
/-- One process changes, its standing does not. -/
theorem PV.set {base : List Saying} {a : AW} (h : PV base a) {i : Nat} {x y : Procs} (hx : a.ps[i]? = some x) (hf : y.fallen = x.fallen) (hy : Told base a.ord x → Told base a.ord y) : PV base { a with ps := a.ps.set i y } := by
  have hi := (List.getElem?_eq_some_iff.1 hx).1
  refine ⟨fun j z hz ha => ?_, h.way⟩
  have hz' : (a.ps.set i y)[j]? = some z := hz
  by_cases c : j = i
  · subst c
    rw [List.getElem?_set_self hi] at hz'
    obtain rfl := Option.some.inj hz'
    have e := act_get (a := { a with ps := a.ps.set j y }) hz
    rw [e, hf] at ha
    exact hy (h.log j x hx (by rw [act_get hx]; exact ha))
  · rw [List.getElem?_set_ne (fun e => c e.symm)] at hz'
    refine h.log j z hz' ?_
    have e := act_get (a := { a with ps := a.ps.set i y }) hz
    rw [e] at ha
    rw [act_get hz']; exact ha
theorem PV.say {base : List Saying} {a : AW} (h : PV base a) (p : Int) (t : Str) : PV base (sayM a p t).1 := by
  unfold sayM
  cases hw : (who a p != 0) with
  | true => exact h
  | false =>
    obtain ⟨i, x, rfl, hx, ha⟩ := who_zero hw
    rw [cond_false]
    cases decide (t.length > 150) with
    | true => exact h
    | false =>
    cases decide (a.way.length = 60) with
    | true => exact h
    | false =>
      rw [cond_false, cond_false, Int.toNat_natCast, hx]
      simp only
      cases fullF x.from_ with
      | true => exact h
      | false =>
        rw [cond_false]
        exact PV.send (k := 1) (h.set (y := { x with from_ := ⟨x.from_.Base, x.from_.Late ++ [t]⟩ }) hx rfl fun q => q) (fun e => absurd e (by decide))
theorem PV.again {base : List Saying} {a : AW} (h : PV base a) (p : Int) : PV base (againM a p).1 := by
  unfold againM
  cases hw : (who a p != 0) with
  | true => exact h
  | false =>
    obtain ⟨i, x, rfl, hx, ha⟩ := who_zero hw
    rw [cond_false, Int.toNat_natCast, hx]
    exact PV.send (k := 3) (foldI_inv (PV base) _ 0 a (fun b j q _ hb => hb.send (fun e => absurd e (by decide))) h) (fun e => absurd e (by decide))
theorem PV.fall {base : List Saying} {a : AW} (h : PV base a) (p : Int) : PV base (fallM a p).1 := by
  unfold fallM
  cases hk : knw a p with
  | false => exact h
  | true =>
    obtain ⟨i, rfl, hi⟩ := knw_iff.1 hk
    have hx : a.ps[i]? = some a.ps[i] := by simp [hi]
    generalize a.ps[i] = x at hx
    rw [Int.toNat_natCast, hx]
    simp only [Bool.not_true, cond_false]
    refine ⟨fun j z hz ha => ?_, h.way⟩
    have hz' : (a.ps.set i { x with fallen := true })[j]? = some z := hz
    have e := act_get (a := { a with ps := a.ps.set i { x with fallen := true } }) hz
    rw [e] at ha
    by_cases c : j = i
    · subst c
      rw [List.getElem?_set_self hi] at hz'
      obtain rfl := Option.some.inj hz'
      simp at ha
    · rw [List.getElem?_set_ne (fun e => c e.symm)] at hz'
      exact h.log j z hz' (by rw [act_get hz']; exact ha)
theorem Told.more {base : List Saying} {ord more : List (Int × Int × Str)} {x : Procs} (h : Told base ord x) : Told base (ord ++ more) x := by
  obtain ⟨h1, h2, h3⟩ := h
  refine ⟨⟨h1.1, by rw [List.length_append]; omega⟩, by rw [List.take_append_of_le_length (by omega)]; exact h2, fun p hp => ?_⟩
  obtain ⟨m, hm, ht⟩ := h3 p hp
  exact ⟨m, by rw [List.getElem?_append_left (List.getElem?_eq_some_iff.1 hm).1]; exact hm, ht⟩
theorem PV.ordOne {base : List Saying} {b : AW} (h : PV base b) (p q : Int) (t : Str) : PV base (ordOne b p q t) := by
  have h1 : PV base { b with ord := b.ord ++ [(p, q, t)] } := by
    refine ⟨fun i x hx ha => (h.log i x hx ha).more, fun n hn => ?_⟩
    obtain ⟨g1, g2⟩ := h.way n hn
    refine ⟨g1, fun e1 e2 => ?_⟩
    obtain ⟨m, hm, ht⟩ := g2 e1 e2
    exact ⟨m, by show (b.ord ++ [(p, q, t)])[n.Seq.toNat]? = _; rw [List.getElem?_append_left (List.getElem?_eq_some_iff.1 hm).1]; exact hm, ht⟩
  unfold Go.Proofs.YtchmclllcdknjaaGreatDoor.ordOne
  refine (foldI_inv (fun c : AW => PV base c ∧ c.ord = b.ord ++ [(p, q, t)]) _ 0 _ (fun c j x _ hc => ?_) ⟨h1, rfl⟩).1
  cases act c (j : Int) with
  | false => exact hc
  | true =>
    rw [cond_true]
    refine ⟨hc.1.send (fun _ => ⟨(p, q, t), ?_, rfl⟩), by rw [sendM_ord]; exact hc.2⟩
    rw [hc.2, Int.toNat_natCast]
    simp
end Go.Proofs.YtchmclllcdknjaaGreatDoor
