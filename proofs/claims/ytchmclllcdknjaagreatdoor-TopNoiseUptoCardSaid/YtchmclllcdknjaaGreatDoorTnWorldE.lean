/-
  The code's world, told by plain functions: notes moved.
-/
import Derived.Test.YtchmclllcdknjaaGreatDoorTnWorldD
namespace Go.Proofs.YtchmclllcdknjaaGreatDoor
open Enc

def askGo (s f : Int) : Nat → Nat → AW → AW
  | 0, _, b => b
  | k + 1, i, b => match b.ord[i]? with
    | none => b
    | some m => askGo s f k (i + 1) (sendM b 2 s f (i : Int) (enc3 m))
def askM (a : AW) (n : Note) : AW := askGo (sq a.view) n.From 4 n.Seq.toNat a
theorem ask_loop {B : Nat} {a : AW} {n : Note} (hs : 0 ≤ n.Seq ∧ n.Seq ≤ 16777215) : ∀ (k i : Nat) (b : AW) (fu : Nat), k < fu → (i : Int) + k = n.Seq + 4 → Like a b → GA B b →
    ∃ j, whileM (world_World_deliver_B1 a.w n) fu ((i : Int), b.w, b.w.way) = some (.inl (j, (askGo (sq a.view) n.From k i b).w, (askGo (sq a.view) n.From k i b).w.way)) ∧ Like a (askGo (sq a.view) n.From k i b) ∧ GA B (askGo (sq a.view) n.From k i b) := by
  have stop : ∀ (i : Nat) (b : AW) (fu : Nat), 0 < fu → Like a b → ((i : Int) < a.ord.length → ¬ (i : Int) < n.Seq + 4) → ∃ j, whileM (world_World_deliver_B1 a.w n) fu ((i : Int), b.w, b.w.way) = some (.inl (j, b.w, b.w.way)) := fun i b fu hf hl hc => by
    obtain ⟨fu, rfl⟩ : ∃ g, fu = g + 1 := ⟨fu - 1, by omega⟩
    refine ⟨i, ?_⟩
    have hol : (a.w.ordered.length : Int) = a.ord.length := by show ((a.ord.map enc3).length : Int) = _; rw [List.length_map]
    unfold whileM world_World_deliver_B1
    simp only
    rw [hol, w64_id (show -9223372036854775808 ≤ n.Seq + 4 by omega) (by omega), and_some, Option.bind_some, hl.w]
    by_cases c : (i : Int) < a.ord.length
    · rw [decide_eq_true c, decide_eq_false (hc c)]; rfl
    · rw [decide_eq_false c]; rfl
  intro k
  induction k with
  | zero =>
    intro i b fu hf hi hl hg
    obtain ⟨j, hj⟩ := stop i b fu hf hl (fun _ => by omega)
    exact ⟨j, hj, hl, hg⟩
  | succ k ih =>
    intro i b fu hf hi hl hg
    cases hm : b.ord[i]? with
    | none =>
      have hlen : b.ord.length ≤ i := List.getElem?_eq_none_iff.1 hm
      obtain ⟨j, hj⟩ := stop i b fu (by omega) hl (fun c => by rw [hl.ord] at hlen; omega)
      unfold askGo
      rw [hm]
      exact ⟨j, hj, hl, hg⟩
    | some m =>
      have hil : i < b.ord.length := (List.getElem?_eq_some_iff.1 hm).1
      have hil2 : i < a.ord.length := by rw [← hl.ord]; exact hil
      have hgm := hg.ord.2 m (List.mem_of_getElem? hm)
      obtain ⟨fu, rfl⟩ : ∃ g, fu = g + 1 := ⟨fu - 1, by omega⟩
      have hl2 := hl.send 2 (sq a.view) n.From (i : Int) (enc3 m)
      have hg2 : GA B (sendM b 2 (sq a.view) n.From (i : Int) (enc3 m)) := hg.send (fun e => absurd e (by decide)) (fun _ => ⟨m, hgm, rfl⟩)
      obtain ⟨j, h1, h2, h3⟩ := ih (i + 1) _ fu (by omega) (by push_cast; omega) hl2 hg2
      unfold askGo
      rw [hm]
      refine ⟨j, ?_, h2, h3⟩
      have hol : (a.w.ordered.length : Int) = a.ord.length := by show ((a.ord.map enc3).length : Int) = _; rw [List.length_map]
      have hlt : lat a.w.ordered (i : Int) = some (enc3 m) := by
        rw [lat_nat]; show (a.ord.map enc3)[i]? = _
        rw [List.getElem?_map, ← hl.ord, hm]; rfl
      have hb : world_World_deliver_B1 a.w n ((i : Int), b.w, b.w.way) = some (.go (((i + 1 : Nat) : Int), (sendM b 2 (sq a.view) n.From (i : Int) (enc3 m)).w, (sendM b 2 (sq a.view) n.From (i : Int) (enc3 m)).w.way)) := by
        unfold world_World_deliver_B1
        simp only
        rw [hol, w64_id (show -9223372036854775808 ≤ n.Seq + 4 by omega) (by omega), and_some, Option.bind_some, hl.w, decide_eq_true (show (i : Int) < a.ord.length by omega), decide_eq_true (show (i : Int) < n.Seq + 4 by omega), Bool.and_self, cond_true, seq_law, Option.bind_some, hlt, Option.bind_some,
          show b.w.view = a.view from hl.view, send_law hg.way.1, Option.bind_some]
        simp only
        have := hg.ord.1
        rw [hl2.w, w64_id (by omega) (by omega)]
        rfl
      unfold whileM
      rw [hb, Option.bind_some]
      exact h1
def delivM (fu : Nat) (a : AW) (n : Note) : AW :=
  bif !knw a n.From then a else
  bif n.Kind == 1 then orderM fu a n else
  bif n.Kind == 3 then askM a n else
  bif n.Kind == 2 then takeM fu a n else a
theorem deliver_law {B fu : Nat} {a : AW} {n : Note} (hfu : 200 < fu) (h : GA B a) (hB : B ≤ 2 ^ 34) (hn : GN n) (hkn : knw a n.To = true) :
    world_World_deliver fu a.w n = some ((delivM fu a n).w.all, (delivM fu a n).w.ordered, (delivM fu a n).w.way, (delivM fu a n).w) ∧ GA (B + 17) (delivM fu a n) := by
  unfold world_World_deliver delivM
  rw [known_law h.n, Option.bind_some]
  cases hkf : knw a n.From with
  | false => exact ⟨rfl, h.mono (by omega)⟩
  | true =>
    simp only [Bool.not_true, cond_false, bne_self_eq_false]
    by_cases k1 : n.Kind = 1
    · obtain ⟨e1, e2⟩ := order_law hfu h hB hn k1 hkf
      rw [k1]
      simp only [beq_self_eq_true, cond_true]
      rw [e1, Option.bind_some]
      exact ⟨rfl, e2⟩
    · rw [show (n.Kind == 1) = false by simpa using k1]
      simp only [cond_false]
      by_cases k3 : n.Kind = 3
      · have hs := hn.1.seq
        obtain ⟨s, hs1⟩ := int_nat hs.1
        obtain ⟨j, l1, l2, l3⟩ := ask_loop (a := a) (n := n) hs 4 s a fu (by omega) (by omega) ⟨rfl, rfl, rfl⟩ h
        have ea : askM a n = askGo (sq a.view) n.From 4 s a := by unfold askM; rw [hs1]; rfl
        rw [k3, ea]
        simp only [beq_self_eq_true, cond_true]
        rw [hs1, l1, andThen_inl]
        simp only
        rw [l2.w]
        generalize askGo (sq a.view) n.From 4 s a = d at l2 l3
        refine ⟨?_, l3.mono (by omega)⟩
        have e1 : a.w.all = d.w.all := l2.ps.symm
        have e2 : a.w.ordered = d.w.ordered := by show a.ord.map enc3 = d.ord.map enc3; rw [l2.ord]
        rw [e1, e2]
      · rw [show (n.Kind == 3) = false by simpa using k3]
        simp only [cond_false]
        by_cases k2 : n.Kind = 2
        · obtain ⟨e1, e2, e3⟩ := take_law hfu h hB hn k2 hkn
          rw [k2]
          simp only [beq_self_eq_true, cond_true]
          rw [e1, Option.bind_some]
          generalize takeM fu a n = d at e2 e3
          refine ⟨?_, e2⟩
          have e1 : a.w.ordered = d.w.ordered := by show a.ord.map enc3 = d.ord.map enc3; rw [e3.ord]
          have e2 : a.w.way = d.w.way := by show a.way.map packS = d.way.map packS; rw [e3.way]
          rw [e1, e2]
        · rw [show (n.Kind == 2) = false by simpa using k2]
          exact ⟨rfl, h.mono (by omega)⟩

/-! ### a note moves -/
def moveM (fu : Nat) (a : AW) (k how : Int) : AW × Int :=
  bif !(decide (how ≥ 1) && decide (how ≤ 3)) then (a, 1) else
  bif !(decide (k ≥ 0) && decide (k ≤ (a.way.length : Int) - 1)) then (a, 6) else
  bif (how == 3) && decide (a.way.length = 60) then (a, 8) else
  match a.way[k.toNat]? with
  | none => (a, 0)
  | some n => bif how == 3 then ({ a with way := a.way ++ [n] }, 0) else
    (bif ((how == 1) && (n.View == a.view.Num)) && act a n.To then delivM fu { a with way := a.way.take k.toNat ++ a.way.drop (k.toNat + 1) } n else { a with way := a.way.take k.toNat ++ a.way.drop (k.toNat + 1) }, 0)
theorem delete_law {l : List Str} {i : Nat} (h : i < l.length) (hl : l.length ≤ 2 ^ 40) : slices_Delete_string_string l (i : Int) ((i + 1 : Nat) : Int) = some (l.take i ++ l.drop (i + 1)) := by
  unfold slices_Delete_string_string
  have c1 : ∃ x, cutL l (i : Int) ((i + 1 : Nat) : Int) = some x := ⟨_, by unfold cutL; rw [if_pos (by omega)]⟩
  have c2 : ∃ x, cutL l 0 (i : Int) = some x := ⟨_, by unfold cutL; rw [if_pos (by omega)]⟩
  have c3 : ∃ x, cutL l ((i + 1 : Nat) : Int) (l.length : Int) = some x := ⟨_, by unfold cutL; rw [if_pos (by omega)]⟩
  obtain ⟨x1, e1⟩ := c1
  obtain ⟨x2, e2⟩ := c2
  obtain ⟨x3, e3⟩ := c3
  rw [e1, Option.bind_some, show ((i : Int) == ((i + 1 : Nat) : Int)) = false by simp; omega, cond_false, e2, Option.bind_some, e3, Option.bind_some]
  rfl
theorem GA.lose {B : Nat} {a : AW} (h : GA B a) (i : Nat) : GA B { a with way := a.way.take i ++ a.way.drop (i + 1) } := by
  refine ⟨h.n, h.ps, h.ord, ⟨?_, fun n hn => ?_⟩, h.num⟩
  · have := h.way.1; simp only [List.length_append, List.length_take, List.length_drop]; omega
  · rcases List.mem_append.1 hn with q | q
    · exact h.way.2 n (List.mem_of_mem_take q)
    · exact h.way.2 n (List.mem_of_mem_drop q)
theorem act_way {a : AW} (l : List Note) (p : Int) : act { a with way := l } p = act a p := rfl
theorem move_law {B fu : Nat} {a : AW} (hfu : 200 < fu) (h : GA B a) (hB : B ≤ 2 ^ 34) (k how : Int) :
    world_World_Move fu a.w k how = some ((moveM fu a k how).1.w.all, (moveM fu a k how).1.w.ordered, (moveM fu a k how).1.w, (moveM fu a k how).2) ∧ GA (B + 17) (moveM fu a k how).1 := by
  unfold world_World_Move moveM
  have hwl : (a.w.way.length : Int) = (a.way.length : Int) := by show ((a.way.map packS).length : Int) = _; rw [List.length_map]
  have hw60 := h.way.1
  rw [winn_eq, Option.bind_some]
  cases hh : (decide (how ≥ 1) && decide (how ≤ 3)) with
  | false => exact ⟨rfl, h.mono (by omega)⟩
  | true =>
    simp only [Bool.not_true, cond_false]
    rw [hwl, w64_id (show -9223372036854775808 ≤ (a.way.length : Int) - 1 by omega) (by omega), winn_eq, Option.bind_some]
    cases hk : (decide (k ≥ 0) && decide (k ≤ (a.way.length : Int) - 1)) with
    | false => exact ⟨rfl, h.mono (by omega)⟩
    | true =>
      rw [Bool.and_eq_true, decide_eq_true_eq, decide_eq_true_eq] at hk
      obtain ⟨i, rfl⟩ := int_nat hk.1
      have hil : i < a.way.length := by omega
      simp only [Bool.not_true, cond_false]
      have e6 : ((a.way.length : Int) == 60) = decide (a.way.length = 60) := by rw [Bool.eq_iff_iff]; simp; omega
      rw [e6, and_some, Option.bind_some]
      cases h6 : ((how == 3) && decide (a.way.length = 60)) with
      | true => exact ⟨rfl, h.mono (by omega)⟩
      | false =>
        have hx : a.way[i]? = some a.way[i] := by simp [hil]
        generalize a.way[i] = n at hx
        have hgn := h.way.2 n (List.mem_of_getElem? hx)
        have hl : lat a.w.way (i : Int) = some (packS n) := by
          rw [lat_nat]; show (a.way.map packS)[i]? = _
          rw [List.getElem?_map, hx]; rfl
        simp only [cond_false]
        rw [hl, Option.bind_some, Int.toNat_natCast, hx]
        simp only
        cases h3 : (how == 3) with
        | true =>
          rw [h3, Bool.true_and, decide_eq_false_iff_not] at h6
          have hwl2 : a.w.way.length = a.way.length := List.length_map _
          rw [cond_true, room_ok (by simp; omega), Option.bind_some]
          refine ⟨?_, ?_⟩
          · have : (a.way ++ [n]).map packS = a.w.way ++ [packS n] := by rw [List.map_append]; rfl
            unfold AW.w at this ⊢
            simp only at this ⊢
            simp only [cond_true]
            rw [this]
          · show GA (B + 17) { a with way := a.way ++ [n] }
            refine ⟨h.n, fun x hx => (h.ps x hx).mono (by omega), ⟨by have := h.ord.1; simp only; omega, h.ord.2⟩, ⟨?_, fun m hm => ?_⟩, h.num⟩
            · simp only [List.length_append, List.length_cons, List.length_nil]; omega
            · rcases List.mem_append.1 hm with q | q
              · exact h.way.2 m q
              · rw [List.mem_singleton.1 q]; exact hgn
        | false =>
          simp only [cond_false]
          obtain ⟨b, hb⟩ : ∃ b : AW, b = { a with way := a.way.take i ++ a.way.drop (i + 1) } := ⟨_, rfl⟩
          have hgb : GA B b := by rw [hb]; exact h.lose i
          have hbw : ({ a.w with way := (a.w.way.take i ++ a.w.way.drop (i + 1)) } : Wld) = b.w := by
            rw [hb]
            unfold AW.w
            simp only [List.map_append, List.map_take, List.map_drop]
          have hbway : a.w.way.take i ++ a.w.way.drop (i + 1) = b.w.way := by rw [← hbw]
          have hact : act b n.To = act a n.To := by rw [hb]; rfl
          have hwl2 : a.w.way.length = a.way.length := List.length_map _
          rw [w64_id (show -9223372036854775808 ≤ (i : Int) + 1 by omega) (by omega), show (i : Int) + 1 = ((i + 1 : Nat) : Int) by rfl, delete_law (by rw [hwl2]; exact hil) (by omega), Option.bind_some, read_pack hgn.1, Option.bind_some]
          simp only [beq_self_eq_true]
          rw [and_some, Option.bind_some, Bool.and_true, and_some, Option.bind_some, hbw, active_law hgb.n, hact, Option.bind_some, and_some, Option.bind_some, hbway, ← hb]
          have ev : (n.View == a.w.view.Num) = (n.View == a.view.Num) := rfl
          rw [ev]
          cases hq : ((how == 1) && (n.View == a.view.Num) && act a n.To) with
          | false =>
            simp only [cond_false, Option.bind_some]
            refine ⟨?_, hgb.mono (by omega)⟩
            rw [hb]
            rfl
          | true =>
            rw [Bool.and_eq_true] at hq
            have hkn : knw b n.To = true := by
              have : act b n.To = true := by rw [hact]; exact hq.2
              unfold act at this
              rw [Bool.and_eq_true, Bool.and_eq_true] at this
              exact this.1.1
            obtain ⟨d1, d2⟩ := deliver_law hfu hgb hB hgn hkn
            simp only [cond_true]
            rw [d1, Option.bind_some, Option.bind_some]
            exact ⟨rfl, d2⟩
end Go.Proofs.YtchmclllcdknjaaGreatDoor
