/-
  One voice: every deed leaves it one voice.
-/
import Derived.Test.YtchmclllcdknjaaGreatDoorTvWorldU
namespace Go.Proofs.YtchmclllcdknjaaGreatDoor
open Enc

theorem PV.way_sub {base : List Saying} {a : AW} (h : PV base a) {l : List Note} (hl : ∀ n ∈ l, n ∈ a.way) : PV base { a with way := l } := ⟨h.log, fun n hn => h.way n (hl n hn)⟩
theorem PV.deliv {base : List Saying} {B fu : Nat} {a : AW} {n : Note} (h : PV base a) (hG : GA B a) (hfu : 200 < fu) (hn : GN n) (hv : n.View = a.view.Num) (hnv : NV a.view.Num a.ord n) (ha : act a n.To = true) : PV base (delivM fu a n) := by
  unfold delivM
  cases !knw a n.From with
  | true => exact h
  | false =>
  cases n.Kind == 1 with
  | true => exact h.order fu n
  | false =>
  cases n.Kind == 3 with
  | true => exact PV.askGo _ _ _ _ h
  | false =>
  cases hk : n.Kind == 2 with
  | true => exact h.take hG hfu hn (by simpa using hk) hv hnv ha
  | false => exact h
theorem PV.move {base : List Saying} {B fu : Nat} {a : AW} (h : PV base a) (hG : GA B a) (hfu : 200 < fu) (k how : Int) : PV base (moveM fu a k how).1 := by
  unfold moveM
  cases !(decide (how ≥ 1) && decide (how ≤ 3)) with
  | true => exact h
  | false =>
  cases !(decide (k ≥ 0) && decide (k ≤ (a.way.length : Int) - 1)) with
  | true => exact h
  | false =>
  cases (how == 3) && decide (a.way.length = 60) with
  | true => exact h
  | false =>
  cases hx : a.way[k.toNat]? with
  | none => exact h
  | some n =>
    have hm := List.mem_of_getElem? hx
    simp only [cond_false]
    cases how == 3 with
    | true =>
      refine h.way_sub fun m hm' => ?_
      rcases List.mem_append.1 hm' with q | q
      · exact q
      · rw [List.mem_singleton.1 q]; exact hm
    | false =>
      rw [cond_false]
      have hb : PV base { a with way := a.way.take k.toNat ++ a.way.drop (k.toNat + 1) } := h.way_sub fun m hm' => by
        rcases List.mem_append.1 hm' with q | q
        · exact List.mem_of_mem_take q
        · exact List.mem_of_mem_drop q
      cases hq : ((how == 1) && (n.View == a.view.Num)) && act a n.To with
      | false => exact hb
      | true =>
        rw [Bool.and_eq_true, Bool.and_eq_true] at hq
        exact hb.deliv (hG.lose k.toNat) hfu (hG.way.2 n hm) (by simpa using hq.1.2) (h.way n hm) hq.2
theorem isIn_sub {m g : BitVec 8} {i : Nat} (h : isIn (m &&& ~~~g) i = true) : isIn m i = true := by
  have e : ∀ x : BitVec 8, isIn x i = x.getLsbD i := fun x => by
    unfold isIn
    rw [Bool.eq_iff_iff, beq_iff_eq]
    have : ((x >>> i) &&& (1 : BitVec 8)).toNat = (x.getLsbD i).toNat := by
      rw [BitVec.toNat_and, BitVec.toNat_ushiftRight, BitVec.getLsbD, show (1 : BitVec 8).toNat = 1 from rfl, Nat.and_one_is_mod, Nat.testBit, Nat.shiftRight_eq_div_pow, Nat.and_comm, Nat.and_one_is_mod]
      rcases Nat.mod_two_eq_zero_or_one (x.toNat / 2 ^ i) with q | q <;> rw [q] <;> rfl
    rw [this]
    cases x.getLsbD i <;> simp
  rw [e, BitVec.getLsbD_and, Bool.and_eq_true] at h
  rw [e]; exact h.1
theorem PV.change {base : List Saying} {B : Nat} {a : AW} (h : PV base a) (hG : GA B a) : ∃ base', PV base' (changeM a).1 := by
  obtain ⟨n1, n2⟩ := next_law a.view (glM a).1 hG.num
  unfold changeM
  generalize glM a = z at n1 n2
  obtain ⟨g, L⟩ := z
  simp only at n1 n2 ⊢
  cases hn : ((nextV a.view g).2 != 0) with
  | true => exact ⟨base, h⟩
  | false =>
    have hn0 : (nextV a.view g).2 = 0 := by simpa using hn
    obtain ⟨m1, m2, m3⟩ := n2 hn0
    refine ⟨L, ?_⟩
    rw [cond_false]
    have fin := foldI_at (f := fun (b : AW) i (_ : Procs) => chgOne L b i) (fun j b => b.view = a.view ∧ b.way = a.way ∧ b.ps.length = a.ps.length ∧ (∀ k : Nat, j ≤ k → b.ps[k]? = a.ps[k]?) ∧ ∀ (k : Nat) x, k < j → a.ps[k]? = some x → b.ps[k]? = some (bif act a (k : Int) then freshM L k x else { x with orders := ⟨0, []⟩ })) (l := a.ps) (fun i x b hx hb => by
      obtain ⟨b1, b2, b3, b4, b5⟩ := hb
      have hx' : b.ps[i]? = some x := by rw [b4 i (Nat.le_refl _)]; exact hx
      have hil := (List.getElem?_eq_some_iff.1 hx').1
      have hact : act b (i : Int) = act a (i : Int) := act_same b1 b3 (b4 i (Nat.le_refl _))
      have one : chgOne L b i = { b with ps := b.ps.set i (bif act a (i : Int) then freshM L i x else { x with orders := ⟨0, []⟩ }) } := by unfold chgOne; rw [hx', hact]
      rw [one]
      refine ⟨b1, b2, by simp [b3], fun k hk => ?_, fun k y hk hy => ?_⟩
      · show (b.ps.set i _)[k]? = _
        rw [List.getElem?_set_ne (by omega)]; exact b4 k (by omega)
      · show (b.ps.set i _)[k]? = _
        by_cases c : k = i
        · subst c
          rw [hx] at hy
          rw [← Option.some.inj hy, List.getElem?_set_self hil]
        · rw [List.getElem?_set_ne (fun e => c e.symm)]; exact b5 k y (by omega) hy) a.ps.length 0 a (by omega) ⟨rfl, rfl, rfl, fun k _ => rfl, fun k x hk => by omega⟩
    rw [List.drop_zero] at fin
    generalize foldI (fun (b : AW) i (_ : Procs) => chgOne L b i) 0 a.ps a = d at fin
    obtain ⟨b1, b2, b3, b4, b5⟩ := fin
    refine ⟨fun i y hy ha => ?_, fun n hn' => ?_⟩
    · have hil : i < a.ps.length := by rw [← b3]; exact (List.getElem?_eq_some_iff.1 hy).1
      have hx : a.ps[i]? = some a.ps[i] := by simp [hil]
      generalize a.ps[i] = x at hx
      have hy' : d.ps[i]? = some y := hy
      rw [b5 i x hil hx] at hy'
      rw [act_get hy, Bool.and_eq_true] at ha
      have hin : isIn a.view.Members i = true := by
        have : isIn (nextV a.view g).1.Members i = true := ha.1
        rw [m3] at this
        exact isIn_sub this
      cases hax : act a (i : Int) with
      | false =>
        rw [hax, cond_false] at hy'
        rw [act_get hx, hin, Bool.true_and] at hax
        have := ha.2
        rw [← Option.some.inj hy'] at this
        simp only at this
        rw [this] at hax; cases hax
      | true =>
        rw [hax, cond_true] at hy'
        rw [← Option.some.inj hy']
        exact ⟨⟨Int.le_refl _, Int.le_refl _⟩, by show L = L ++ []; simp, fun p hp => by cases hp⟩
    · have hn'' : n ∈ a.way := by rw [← b2]; exact hn'
      have hle := (h.way n hn'').1
      refine ⟨by show n.View ≤ (nextV a.view g).1.Num; omega, fun _ e => ?_⟩
      have e' : n.View = (nextV a.view g).1.Num := e
      omega
theorem PV.do {base : List Saying} {B fu : Nat} {a : AW} (h : PV base a) (hG : GA B a) (hfu : 200 < fu) (d : Deed) : ∃ base', PV base' (doM fu a d).1 := by
  unfold doM
  cases d.Kind == 1 with
  | true => exact ⟨base, h.say ..⟩
  | false =>
  cases d.Kind == 2 with
  | true => exact ⟨base, h.again ..⟩
  | false =>
  cases d.Kind == 3 with
  | true => exact ⟨base, h.move hG hfu ..⟩
  | false =>
  cases d.Kind == 4 with
  | true => exact ⟨base, h.fall ..⟩
  | false =>
  cases d.Kind == 5 with
  | true => exact h.change hG
  | false => exact ⟨base, h⟩
theorem PV.new {n : Nat} : PV [] (newA n) := by
  refine ⟨fun i x hx _ => ?_, fun m hm => by cases hm⟩
  have := (List.mem_replicate.1 (List.mem_of_getElem? hx)).2
  rw [this]
  exact ⟨⟨Int.le_refl _, Int.le_refl _⟩, rfl, fun p hp => by cases hp⟩
/-- Who has been told as much has been told the same. -/
theorem PV.same {base : List Saying} {a : AW} (h : PV base a) {i j : Nat} {x y : Procs} (hx : a.ps[i]? = some x) (hy : a.ps[j]? = some y) (ha : act a (i : Int) = true) (hb : act a (j : Int) = true) (hl : x.log.length = y.log.length) : x.log = y.log := by
  obtain ⟨⟨a1, a2⟩, a3, _⟩ := h.log i x hx ha
  obtain ⟨⟨b1, b2⟩, b3, _⟩ := h.log j y hy hb
  rw [a3, b3] at hl
  unfold readL at hl
  simp only [List.length_append, List.length_map, List.length_take] at hl
  have : x.to.Next.toNat = y.to.Next.toNat := by omega
  rw [a3, b3, this]
end Go.Proofs.YtchmclllcdknjaaGreatDoor
