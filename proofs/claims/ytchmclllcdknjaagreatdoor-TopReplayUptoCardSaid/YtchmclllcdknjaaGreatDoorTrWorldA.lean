/-
  The code's world, told by plain functions: who is there, notes, sayings.
-/
import Derived.Test.YtchmclllcdknjaaGreatDoorTrWireCode
import Derived.Test.YtchmclllcdknjaaGreatDoorTrNumCode
namespace Go.Proofs.YtchmclllcdknjaaGreatDoor
open Enc

/-- A world whose notes and order are not yet text. -/
structure AW where
  view : View
  ps : List Procs
  ord : List (Int × Int × Str)
  way : List Note
def enc3 (m : Int × Int × Str) : Str := (((itS m.1 ++ ([58] : Str)) ++ itS m.2.1) ++ ([58] : Str)) ++ m.2.2
def AW.w (a : AW) : Wld := ⟨a.view, a.ps, a.ord.map enc3, a.way.map packS⟩
def G3 (m : Int × Int × Str) : Prop := (0 ≤ m.1 ∧ m.1 ≤ 5) ∧ (0 ≤ m.2.1 ∧ m.2.1 ≤ 16777300) ∧ m.2.2.length ≤ 150
theorem enc3_len {m : Int × Int × Str} (h : G3 m) : (enc3 m).length ≤ 170 := by
  obtain ⟨_, _, h1, _⟩ := itoa_law h.1.1 (show m.1 < 1000000000 by have := h.1.2; omega)
  obtain ⟨_, _, h2, _⟩ := itoa_law h.2.1.1 (show m.2.1 < 1000000000 by have := h.2.1.2; omega)
  have := h.2.2
  unfold enc3
  simp only [List.length_append, List.length_cons, List.length_nil]
  omega
structure GP (B : Nat) (x : Procs) : Prop where
  log : x.log.length ≤ B
  base : 0 ≤ x.from_.Base ∧ x.from_.Base + x.from_.Late.length ≤ 16777215
  late : x.from_.Late.length ≤ 16 ∧ ∀ t ∈ x.from_.Late, t.length ≤ 150
  to : GoodT x.to ∧ ∀ p ∈ x.to.Early, p.Seq ≤ 16777214 ∧ ∃ m, G3 m ∧ p.Text = enc3 m
  ords : GoodT x.orders ∧ ∀ p ∈ x.orders.Early, p.Seq ≤ 16777214 ∧ p.Text.length ≤ 150
def GN (n : Note) : Prop := NoteOk n ∧ (n.Kind = 1 → n.Text.length ≤ 150) ∧ (n.Kind = 2 → ∃ m, G3 m ∧ n.Text = enc3 m)
structure GA (B : Nat) (a : AW) : Prop where
  n : 1 ≤ a.ps.length ∧ a.ps.length ≤ 6
  ps : ∀ x ∈ a.ps, GP B x
  ord : a.ord.length ≤ B ∧ ∀ m ∈ a.ord, G3 m
  way : a.way.length ≤ 60 ∧ ∀ n ∈ a.way, GN n
  num : 0 ≤ a.view.Num ∧ a.view.Num ≤ 16777215
theorem GP.mono {B C : Nat} {x : Procs} (h : GP B x) (hc : B ≤ C) : GP C x := ⟨Nat.le_trans h.log hc, h.base, h.late, h.to, h.ords⟩
theorem GA.mono {B C : Nat} {a : AW} (h : GA B a) (hc : B ≤ C) : GA C a := ⟨h.n, fun x hx => (h.ps x hx).mono hc, ⟨Nat.le_trans h.ord.1 hc, h.ord.2⟩, h.way, h.num⟩
theorem GA.set {B : Nat} {a : AW} (h : GA B a) (i : Nat) {x : Procs} (hx : GP B x) : GA B { a with ps := a.ps.set i x } := by
  refine ⟨by simpa using h.n, fun y hy => ?_, h.ord, h.way, h.num⟩
  rcases List.mem_or_eq_of_mem_set hy with q | q
  · exact h.ps y q
  · exact q ▸ hx

/-! ### who is there -/
theorem winn_eq (a b c : Int) : world_in a b c = some (decide (a ≥ b) && decide (a ≤ c)) := by
  unfold world_in
  rw [and_some, Option.bind_some]
def knw (a : AW) (p : Int) : Bool := decide (p ≥ 0) && decide (p ≤ (a.ps.length : Int) - 1)
theorem knw_iff {a : AW} {p : Int} : knw a p = true ↔ ∃ i : Nat, p = (i : Int) ∧ i < a.ps.length := by
  unfold knw
  rw [Bool.and_eq_true, decide_eq_true_eq, decide_eq_true_eq]
  constructor
  · rintro ⟨h1, h2⟩
    obtain ⟨i, rfl⟩ := int_nat h1
    exact ⟨i, rfl, by omega⟩
  · rintro ⟨i, rfl, h⟩
    exact ⟨by omega, by omega⟩
def isIn (m : BitVec 8) (i : Nat) : Bool := (((m >>> i) &&& (1 : BitVec 8)).toNat : Int) == ((1 : BitVec 8).toNat : Int)
def act (a : AW) (p : Int) : Bool := knw a p && isIn a.view.Members p.toNat && (match a.ps[p.toNat]? with | some x => !x.fallen | none => false)
def who (a : AW) (p : Int) : Int := bif !knw a p then 1 else bif !act a p then 11 else 0
theorem known_law {a : AW} (hn : 1 ≤ a.ps.length ∧ a.ps.length ≤ 6) (p : Int) : world_World_known a.w p = some (bif !knw a p then 1 else 0) := by
  unfold world_World_known
  have e : a.w.all = a.ps := rfl
  rw [e, winn_eq, Option.bind_some, w64_id (by omega) (by omega)]
  have ek : (decide (p ≥ 0) && decide (p ≤ (a.ps.length : Int) - 1)) = knw a p := rfl
  rw [ek]
  cases knw a p <;> rfl
theorem cnt_nat (i : Nat) : cnt (i : Int) = some i := by unfold cnt; rw [if_pos (by omega)]; rfl
theorem active_law {a : AW} (hn : 1 ≤ a.ps.length ∧ a.ps.length ≤ 6) (p : Int) : world_World_active a.w p = some (act a p) := by
  unfold world_World_active
  have e : a.w.all = a.ps := rfl
  rw [e, winn_eq, Option.bind_some, w64_id (by omega) (by omega)]
  have ek : (decide (p ≥ 0) && decide (p ≤ (a.ps.length : Int) - 1)) = knw a p := rfl
  rw [ek]
  unfold act
  cases hk : knw a p with
  | false => rfl
  | true =>
    obtain ⟨i, rfl, hi⟩ := knw_iff.1 hk
    have hx : a.ps[i]? = some a.ps[i] := by simp [hi]
    rw [cond_true, cnt_nat, Option.bind_some, Option.bind_some, lat_nat, Int.toNat_natCast, hx]
    have ei : ((((a.w.view.Members >>> i) &&& (1 : BitVec 8)).toNat : Int) == ((1 : BitVec 8).toNat : Int)) = isIn a.view.Members i := rfl
    rw [ei]
    cases isIn a.view.Members i <;> rfl
theorem working_law {a : AW} (hn : 1 ≤ a.ps.length ∧ a.ps.length ≤ 6) (p : Int) : world_World_working a.w p = some (who a p) := by
  unfold world_World_working
  rw [known_law hn, Option.bind_some, active_law hn]
  unfold who
  cases knw a p
  · rfl
  · cases act a p <;> rfl
theorem who_zero {a : AW} {p : Int} (h : (who a p != 0) = false) : ∃ (i : Nat) (x : Procs), p = (i : Int) ∧ a.ps[i]? = some x ∧ act a p = true := by
  unfold who at h
  cases hk : knw a p with
  | false => rw [hk] at h; cases h
  | true =>
    rw [hk] at h
    obtain ⟨i, rfl, hi⟩ := knw_iff.1 hk
    cases ha : act a (i : Int) with
    | false => rw [ha] at h; cases h
    | true => exact ⟨i, a.ps[i], rfl, by simp [hi], rfl⟩

/-! ### the one who orders -/
def sq (v : View) : Int := ((view_First v).getD ((0 : Int), (0 : Int))).1
theorem vcheck_tot (v : View) : ∃ c, view_Check v = some c := by
  unfold view_Check view_outside
  rw [or_some, Option.bind_some, or_some, Option.bind_some, Option.bind_some, or_some, Option.bind_some]
  cases (((decide (v.Num < 0) || decide (v.Num > 16777215)) || ((v.Members.toNat : Int) == ((0 : BitVec 8).toNat : Int))) || (((v.Members >>> 6).toNat : Int) != ((0 : BitVec 8).toNat : Int))) <;> exact ⟨_, rfl⟩
theorem lat_at {α : Type} {l : List α} {i : Nat} (h : i < l.length) : lat l (i : Int) = some l[i] := by rw [lat_nat]; simp [h]
set_option maxRecDepth 20000 in
theorem first_tot (v : View) : ∃ r, view_First v = some r := by
  unfold view_First
  obtain ⟨c, e⟩ := vcheck_tot v
  rw [e, Option.bind_some]
  cases (c != 0) with
  | true => exact ⟨_, rfl⟩
  | false =>
    unfold math_bits_TrailingZeros8
    rw [cond_false, lat_at (by have := v.Members.isLt; exact this), Option.bind_some, Option.bind_some]
    exact ⟨_, rfl⟩
theorem seq_law (w : Wld) : world_World_sequencer w = some (sq w.view) := by
  unfold world_World_sequencer sq
  obtain ⟨r, e⟩ := first_tot w.view
  rw [e, Option.bind_some]; rfl

/-! ### notes -/
def okN (t : Note) : Bool := match wire_Check t with | some c => c == 0 | none => false
theorem okN_iff {t : Note} : okN t = true ↔ NoteOk t := by
  obtain ⟨c, e, hc⟩ := check_law t
  unfold okN; rw [e, beq_iff_eq]; exact hc
def noteM (v : View) (k f t s : Int) (x : Str) : Note := { Note.zero with Kind := k, From := f, To := t, View := v.Num, Seq := s, Text := x }
def sendM (a : AW) (k f t s : Int) (x : Str) : AW := bif okN (noteM a.view k f t s x) && decide (a.way.length < 60) then { a with way := a.way ++ [noteM a.view k f t s x] } else a
theorem send_law {a : AW} (h : a.way.length ≤ 60) (k f t s : Int) (x : Str) : world_World_send a.w k f t s x = some ((sendM a k f t s x).w.way, (sendM a k f t s x).w) := by
  unfold world_World_send
  have e : ({ Note.zero with Kind := k, From := f, To := t, View := a.w.view.Num, Seq := s, Text := x } : Note) = noteM a.view k f t s x := rfl
  have el : (a.w.way.length : Int) = (a.way.length : Int) := by show ((a.way.map packS).length : Int) = _; rw [List.length_map]
  rw [e, el]
  unfold sendM
  by_cases hok : NoteOk (noteM a.view k f t s x)
  · rw [pack_law hok, Option.bind_some, okN_iff.2 hok]
    simp only [beq_self_eq_true, cond_true, Option.bind_some, Bool.true_and]
    by_cases hl : a.way.length < 60
    · rw [decide_eq_true (show (a.way.length : Int) < 60 by omega), decide_eq_true hl, cond_true, cond_true, room_ok (by show (a.way.map packS).length + 1 ≤ _; rw [List.length_map]; omega), Option.bind_some]
      refine congrArg some ?_
      have e2 : (a.way ++ [noteM a.view k f t s x]).map packS = a.w.way ++ [packS (noteM a.view k f t s x)] := by rw [List.map_append]; rfl
      refine Prod.ext e2.symm ?_
      show (⟨a.view, a.ps, a.ord.map enc3, a.w.way ++ [packS (noteM a.view k f t s x)]⟩ : Wld) = ⟨a.view, a.ps, a.ord.map enc3, (a.way ++ [noteM a.view k f t s x]).map packS⟩
      rw [e2]
    · rw [decide_eq_false (show ¬ (a.way.length : Int) < 60 by omega), decide_eq_false hl, cond_false, cond_false]
  · obtain ⟨c, ec, hc⟩ := pack_bad hok
    have : okN (noteM a.view k f t s x) = false := by rw [Bool.eq_false_iff]; exact fun q => hok (okN_iff.1 q)
    rw [ec, Option.bind_some, this, hc]
    rfl
theorem sendM_view (a : AW) (k f t s : Int) (x : Str) : (sendM a k f t s x).view = a.view := by
  unfold sendM; cases (okN (noteM a.view k f t s x) && decide (a.way.length < 60)) <;> rfl
theorem sendM_ps (a : AW) (k f t s : Int) (x : Str) : (sendM a k f t s x).ps = a.ps := by
  unfold sendM; cases (okN (noteM a.view k f t s x) && decide (a.way.length < 60)) <;> rfl
theorem sendM_ord (a : AW) (k f t s : Int) (x : Str) : (sendM a k f t s x).ord = a.ord := by
  unfold sendM; cases (okN (noteM a.view k f t s x) && decide (a.way.length < 60)) <;> rfl
theorem sendM_way (a : AW) (k f t s : Int) (x : Str) : ∀ n ∈ (sendM a k f t s x).way, n ∈ a.way ∨ n = noteM a.view k f t s x := fun n hn => by
  unfold sendM at hn
  cases hc : (okN (noteM a.view k f t s x) && decide (a.way.length < 60)) with
  | false => rw [hc] at hn; exact .inl hn
  | true =>
    rw [hc] at hn
    rcases List.mem_append.1 hn with q | q
    · exact .inl q
    · exact .inr (List.mem_singleton.1 q)
theorem GA.send {B : Nat} {a : AW} (h : GA B a) {k f t s : Int} {x : Str} (h1 : k = 1 → x.length ≤ 150) (h2 : k = 2 → ∃ m, G3 m ∧ x = enc3 m) : GA B (sendM a k f t s x) := by
  unfold sendM
  cases hc : (okN (noteM a.view k f t s x) && decide (a.way.length < 60)) with
  | false => exact h
  | true =>
    rw [Bool.and_eq_true, decide_eq_true_eq] at hc
    refine ⟨h.n, h.ps, h.ord, ⟨by show (a.way ++ [_]).length ≤ 60; rw [List.length_append]; simp; omega, fun n hn => ?_⟩, h.num⟩
    rcases List.mem_append.1 hn with q | q
    · exact h.way.2 n q
    · rw [List.mem_singleton.1 q]
      exact ⟨okN_iff.1 hc.1, h1, h2⟩
end Go.Proofs.YtchmclllcdknjaaGreatDoor
