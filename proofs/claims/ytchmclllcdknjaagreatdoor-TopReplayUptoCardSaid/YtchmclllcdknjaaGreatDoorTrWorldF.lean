/-
  The code's world, told by plain functions: a change; a deed.
-/
import Derived.Test.YtchmclllcdknjaaGreatDoorTrWorldE
namespace Go.Proofs.YtchmclllcdknjaaGreatDoor
open Enc

/-! ### the next view -/
def nextV (v : View) (g : BitVec 8) : View × Int := (view_Next v g 0).getD (View.zero, 1)
set_option maxRecDepth 20000 in
theorem ones_tot (m : BitVec 8) : ∃ r, math_bits_OnesCount8 m = some r ∧ 0 ≤ r ∧ r ≤ 255 := by
  unfold math_bits_OnesCount8
  rw [lat_at (by have := m.isLt; exact this), Option.bind_some]
  refine ⟨_, rfl, by omega, ?_⟩
  exact Int.ofNat_le.2 (Nat.le_of_lt_succ (BitVec.isLt _))
theorem next_law (v : View) (g : BitVec 8) (hv : 0 ≤ v.Num ∧ v.Num ≤ 16777215) : view_Next v g 0 = some (nextV v g) ∧ ((nextV v g).2 = 0 → (nextV v g).1.Num = v.Num + 1 ∧ v.Num + 1 ≤ 16777215 ∧ (nextV v g).1.Members = v.Members &&& ~~~g) := by
  have key : ∃ r, view_Next v g 0 = some r ∧ (r.2 = 0 → r.1.Num = v.Num + 1 ∧ v.Num + 1 ≤ 16777215 ∧ r.1.Members = v.Members &&& ~~~g) := by
    unfold view_Next view_outside view_half
    obtain ⟨c, e⟩ := vcheck_tot v
    rw [e, Option.bind_some, Option.bind_some, or_some, Option.bind_some]
    cases hc : (c != 0) with
    | true => exact ⟨_, rfl, fun h => by have h : c = 0 := h; subst h; cases hc⟩
    | false =>
      rw [cond_false]
      cases ((((g ||| (0 : BitVec 8)) >>> 6).toNat : Int) != ((0 : BitVec 8).toNat : Int)) || (((g &&& (0 : BitVec 8)).toNat : Int) != ((0 : BitVec 8).toNat : Int)) with
      | true => exact ⟨_, rfl, fun h => by cases h⟩
      | false =>
        rw [cond_false]
        cases hn : (v.Num == (16777215 : Int)) with
        | true => exact ⟨_, rfl, fun h => by cases h⟩
        | false =>
          have hn : v.Num ≠ 16777215 := by simpa using hn
          obtain ⟨r1, e1, _⟩ := ones_tot ((v.Members &&& ~~~g) &&& v.Members)
          obtain ⟨r2, e2, _⟩ := ones_tot v.Members
          rw [cond_false, e1, Option.bind_some, e2, Option.bind_some, Option.bind_some]
          cases decide ((w64 ((2 : Int) * r1)) > r2) with
          | false => exact ⟨_, rfl, fun h => by cases h⟩
          | true =>
            refine ⟨_, rfl, fun _ => ⟨w64_id (by omega) (by omega), by omega, ?_⟩⟩
            show (v.Members &&& ~~~g) ||| 0 = _
            simp
  obtain ⟨r, e, h⟩ := key
  have : nextV v g = r := by unfold nextV; rw [e]; rfl
  rw [this]; exact ⟨e, h⟩

/-! ### a change -/
def glM (a : AW) : BitVec 8 × List Saying :=
  foldI (fun (z : BitVec 8 × List Saying) i (x : Procs) => bif act a (i : Int) then (bif decide (x.log.length > z.2.length) then (z.1, x.log) else z) else (z.1 ||| (a.view.Members &&& ((1 : BitVec 8) <<< i)), z.2)) 0 a.ps ((0 : BitVec 8), ([] : List Saying))
theorem gl_law {B : Nat} {a : AW} (h : GA B a) : rangeF (world_World_Change_B0 a.w) a.ps.length 0 ((0 : BitVec 8), ([] : List Saying)) = some (glM a) ∧
    (∀ (j : Nat) x, a.ps[j]? = some x → act a (j : Int) = true → x.log.length ≤ (glM a).2.length) ∧ ((glM a).2 = [] ∨ ∃ (j : Nat) (x : Procs), a.ps[j]? = some x ∧ act a (j : Int) = true ∧ (glM a).2 = x.log) := by
  obtain ⟨l1, l2, l3⟩ := rangeF_emb (body := world_World_Change_B0 a.w) (fun z : BitVec 8 × List Saying => z) (fun (z : BitVec 8 × List Saying) i (x : Procs) => bif act a (i : Int) then (bif decide (x.log.length > z.2.length) then (z.1, x.log) else z) else (z.1 ||| (a.view.Members &&& ((1 : BitVec 8) <<< i)), z.2))
    (fun i z => (∀ (j : Nat) x, j < i → a.ps[j]? = some x → act a (j : Int) = true → x.log.length ≤ z.2.length) ∧ (z.2 = [] ∨ ∃ (j : Nat) (x : Procs), a.ps[j]? = some x ∧ act a (j : Int) = true ∧ z.2 = x.log)) (l := a.ps) (fun i x z hx hz => by
      have e : a.w.all = a.ps := rfl
      have step : ∀ z2 : BitVec 8 × List Saying, z.2.length ≤ z2.2.length → (act a (i : Int) = true → x.log.length ≤ z2.2.length) → ∀ (j : Nat) y, j < i + 1 → a.ps[j]? = some y → act a (j : Int) = true → y.log.length ≤ z2.2.length := fun z2 g1 g2 j y hj hy ha => by
        by_cases c : j = i
        · subst c; rw [hx] at hy; rw [← Option.some.inj hy]; exact g2 ha
        · exact Nat.le_trans (hz.1 j y (by omega) hy ha) g1
      unfold world_World_Change_B0
      rw [active_law h.n, Option.bind_some]
      cases ha : act a (i : Int) with
      | false =>
        rw [cond_false, cond_false, cnt_nat, Option.bind_some]
        exact ⟨rfl, step _ (Nat.le_refl _) (fun q => by rw [ha] at q; cases q), hz.2⟩
      | true =>
        rw [cond_true, cond_true, e, lat_nat, hx, Option.bind_some]
        by_cases c : x.log.length > z.2.length
        · rw [decide_eq_true c, decide_eq_true (show (x.log.length : Int) > (z.2.length : Int) by omega), cond_true, cond_true]
          exact ⟨rfl, step _ (by simp only; omega) (fun _ => Nat.le_refl _), .inr ⟨i, x, hx, ha, rfl⟩⟩
        · rw [decide_eq_false c, decide_eq_false (show ¬ (x.log.length : Int) > (z.2.length : Int) by omega), cond_false, cond_false]
          exact ⟨rfl, step _ (Nat.le_refl _) (fun _ => by omega), hz.2⟩) a.ps.length 0 ((0 : BitVec 8), ([] : List Saying)) (by omega) ⟨fun j x hj => by omega, .inl rfl⟩
  rw [List.drop_zero] at l1 l2 l3
  exact ⟨l1, fun j x hx => l2 j x (List.getElem?_eq_some_iff.1 hx).1 hx, l3⟩
def cntM (i : Nat) : List Saying → Nat
  | [] => 0
  | s :: l => (bif s.From == (i : Int) then 1 else 0) + cntM i l
theorem cnt_loop (i : Nat) (l : List Saying) (hl : l.length ≤ 2 ^ 40) : ∀ (k j : Nat) (z : Nat), j + k = l.length → z ≤ j → rangeF (world_World_Change_B5 i l) k j (z : Int) = some ((z + cntM i (l.drop j) : Nat) : Int)
  | 0, j, z, hk, _ => by
    rw [List.drop_of_length_le (by omega)]; rfl
  | k + 1, j, z, hk, hz => by
    have hj : j < l.length := by omega
    have hx : l[j]? = some l[j] := by simp [hj]
    rw [List.drop_eq_getElem_cons hj]
    generalize l[j] = s at hx
    unfold rangeF world_World_Change_B5
    rw [lat_nat, hx, Option.bind_some]
    unfold cntM
    have hw : w64 ((z : Int) + 1) = ((z + 1 : Nat) : Int) := by rw [w64_id (by omega) (by omega)]; rfl
    cases s.From == (i : Int) with
    | true =>
      rw [cond_true, hw, Option.bind_some, cond_true]
      have := cnt_loop i l hl k (j + 1) (z + 1) (by omega) (by omega)
      unfold world_World_Change_B5 at this
      rw [this, Nat.add_assoc]
    | false =>
      rw [cond_false, Option.bind_some, cond_false]
      have := cnt_loop i l hl k (j + 1) z (by omega) (by omega)
      unfold world_World_Change_B5 at this
      rw [this, Nat.zero_add]
theorem cntM_le (i : Nat) : ∀ l : List Saying, cntM i l ≤ l.length
  | [] => Nat.le_refl _
  | s :: l => by
    have := cntM_le i l
    unfold cntM
    cases s.From == (i : Int) <;> simp <;> omega
def freshM (L : List Saying) (i : Nat) (x : Procs) : Procs := { x with log := L, from_ := ⟨0, x.from_.Late.drop (min (cntM i (L.drop x.log.length)) x.from_.Late.length)⟩, to := ⟨0, []⟩, orders := ⟨0, []⟩ }
def chgOne (L : List Saying) (b : AW) (i : Nat) : AW :=
  match b.ps[i]? with
  | none => b
  | some x => { b with ps := b.ps.set i (bif act b (i : Int) then freshM L i x else { x with orders := ⟨0, []⟩ }) }
theorem good0 : GoodT ⟨0, []⟩ := ⟨by simp, by simp, by simp, List.Pairwise.nil, by simp, by simp⟩
theorem GP.fresh {B : Nat} {x : Procs} (h : GP B x) {L : List Saying} (hL : L.length ≤ B) (i : Nat) : GP B (freshM L i x) := by
  have h1 := h.late
  refine ⟨hL, ⟨Int.le_refl _, ?_⟩, ⟨?_, fun t ht => h1.2 t (List.mem_of_mem_drop ht)⟩, ⟨good0, fun p hp => by cases hp⟩, ⟨good0, fun p hp => by cases hp⟩⟩
  · show (0 : Int) + ((x.from_.Late.drop _).length : Int) ≤ _
    rw [List.length_drop]; omega
  · show (x.from_.Late.drop _).length ≤ 16
    rw [List.length_drop]; omega
theorem GP.quit {B : Nat} {x : Procs} (h : GP B x) : GP B { x with orders := ⟨0, []⟩ } := ⟨h.log, h.base, h.late, h.to, ⟨good0, fun p hp => by cases hp⟩⟩
theorem chg_step {B : Nat} {a b : AW} {L : List Saying} {i : Nat} {x : Procs} (h : GA B b) (hB : B ≤ 2 ^ 34) (hL : L.length ≤ B) (hl : LikeW a b) (hx : b.ps[i]? = some x) (hle : act b (i : Int) = true → x.log.length ≤ L.length) :
    world_World_Change_B3 a.w i (L, b.w, b.ps) = some (L, (chgOne L b i).w, (chgOne L b i).ps) ∧ GA B (chgOne L b i) ∧ LikeW a (chgOne L b i) := by
  have hp := h.ps x (List.mem_of_getElem? hx)
  have hi : i < b.ps.length := (List.getElem?_eq_some_iff.1 hx).1
  have hbw : ∀ ps, ({ b.w with all := ps, ordered := a.w.ordered, way := a.w.way } : Wld) = ({ b with ps := ps } : AW).w := fun ps => by
    unfold AW.w; simp only; rw [hl.ord, hl.way]
  have hset : ∀ y : Procs, (b.ps.set i y)[i]? = some y := fun y => by rw [List.getElem?_set_self hi]
  have hlate := hp.late.1
  have hlog := hp.log
  have one : chgOne L b i = { b with ps := b.ps.set i (bif act b (i : Int) then freshM L i x else { x with orders := ⟨0, []⟩ }) } := by unfold chgOne; rw [hx]
  rw [one]
  refine ⟨?_, ?_, ?_⟩
  · unfold world_World_Change_B3
    simp only
    rw [lat_nat, hx, Option.bind_some, hbw, show ({ b with ps := b.ps } : AW).w = b.w from rfl, active_law h.n, Option.bind_some]
    cases ha : act b (i : Int) with
    | false =>
      simp only [cond_false, Option.bind_some]
      rw [lat_nat, hx, Option.bind_some, Let_eq, Int.toNat_natCast]
      refine congrArg some (Prod.ext rfl (Prod.ext ?_ rfl))
      simp only
      exact hbw _
    | true =>
      have hle' := hle ha
      have ec : cutL L (x.log.length : Int) (L.length : Int) = some (L.drop x.log.length) := by
        unfold cutL; rw [if_pos (by omega)]
        simp only [Int.toNat_natCast]
        rw [List.take_of_length_le (by simp)]
      have hc := cnt_loop i (L.drop x.log.length) (by simp; omega) (L.drop x.log.length).length 0 0 (by omega) (by omega)
      rw [List.drop_zero, Nat.zero_add] at hc
      have hc' : rangeF (world_World_Change_B5 i (L.drop x.log.length)) (L.drop x.log.length).length 0 (0 : Int) = some ((cntM i (L.drop x.log.length) : Nat) : Int) := hc
      have em : min ((cntM i (L.drop x.log.length) : Nat) : Int) (x.from_.Late.length : Int) = ((min (cntM i (L.drop x.log.length)) x.from_.Late.length : Nat) : Int) := by omega
      have ed : cutL x.from_.Late ((min (cntM i (L.drop x.log.length)) x.from_.Late.length : Nat) : Int) (x.from_.Late.length : Int) = some (x.from_.Late.drop (min (cntM i (L.drop x.log.length)) x.from_.Late.length)) := by
        unfold cutL; rw [if_pos (by omega)]
        simp only [Int.toNat_natCast]
        rw [List.take_of_length_le (by simp)]
      simp only [cond_true]
      rw [ec, Option.bind_some, hc', Option.bind_some, clone_says (by omega), Option.bind_some, Let_eq, Int.toNat_natCast, lat_nat, hset, Option.bind_some, Option.bind_some]
      simp only
      rw [em, ed, Option.bind_some, clone_strs (by simp; omega), Option.bind_some, Let_eq, Option.bind_some, Let_eq, List.set_set, lat_nat, hset, Option.bind_some, Let_eq, List.set_set, Option.bind_some]
      simp only
      rw [lat_nat, hset, Option.bind_some, Let_eq, List.set_set]
      refine congrArg some (Prod.ext rfl (Prod.ext ?_ rfl))
      simp only
      exact hbw _
  · refine h.set i ?_
    cases act b (i : Int)
    · exact hp.quit
    · exact hp.fresh hL i
  · exact ⟨hl.view, hl.ord, hl.way, by simp only [List.length_set]; exact hl.len⟩
def changeM (a : AW) : AW × Int :=
  bif (nextV a.view (glM a).1).2 != 0 then (a, (nextV a.view (glM a).1).2) else
  ({ foldI (fun b i (_ : Procs) => chgOne (glM a).2 b i) 0 a.ps a with view := (nextV a.view (glM a).1).1, ord := [] }, 0)
theorem act_same {a b : AW} {i : Nat} (h1 : b.view = a.view) (h2 : b.ps.length = a.ps.length) (h3 : b.ps[i]? = a.ps[i]?) : act b (i : Int) = act a (i : Int) := by
  unfold act knw
  rw [h1, h2, Int.toNat_natCast, h3]
theorem chg_other {L : List Saying} {b : AW} {i j : Nat} (h : j ≠ i) : (chgOne L b i).ps[j]? = b.ps[j]? := by
  unfold chgOne
  cases b.ps[i]? with
  | none => rfl
  | some x => simp only; rw [List.getElem?_set_ne (fun e => h e.symm)]
theorem change_law {B : Nat} {a : AW} (h : GA B a) (hB : B ≤ 2 ^ 34) : world_World_Change a.w = some ((changeM a).1.w.all, (changeM a).1.w, (changeM a).2) ∧ GA B (changeM a).1 ∧ (changeM a).1.way = a.way := by
  obtain ⟨g1, g2, g3⟩ := gl_law h
  have e : a.w.all = a.ps := rfl
  have hL : (glM a).2.length ≤ B := by
    rcases g3 with q | ⟨j, x, hx, _, q⟩
    · rw [q]; exact Nat.zero_le _
    · rw [q]; exact (h.ps x (List.mem_of_getElem? hx)).log
  obtain ⟨n1, n2⟩ := next_law a.view (glM a).1 h.num
  unfold world_World_Change changeM
  rw [e, g1, Option.bind_some]
  generalize glM a = z at g2 hL n1 n2
  obtain ⟨g, L⟩ := z
  simp only at g2 hL n1 n2 ⊢
  have ev : a.w.view = a.view := rfl
  rw [ev, n1, Option.bind_some]
  cases hn : ((nextV a.view g).2 != 0) with
  | true => exact ⟨rfl, h, rfl⟩
  | false =>
    have hn0 : (nextV a.view g).2 = 0 := by simpa using hn
    obtain ⟨m1, m2, m3⟩ := n2 hn0
    simp only [cond_false]
    obtain ⟨l1, l2, l3, l4⟩ := rangeF_emb (body := world_World_Change_B3 a.w) (fun b : AW => (L, b.w, b.ps)) (fun b i (_ : Procs) => chgOne L b i) (fun i b => GA B b ∧ LikeW a b ∧ ∀ j : Nat, i ≤ j → b.ps[j]? = a.ps[j]?) (l := a.ps) (fun i x b hx hb => by
      obtain ⟨b1, b2, b3⟩ := hb
      have hx' : b.ps[i]? = some x := by rw [b3 i (Nat.le_refl _)]; exact hx
      obtain ⟨s1, s2, s3⟩ := chg_step b1 hB hL b2 hx' (fun ha => g2 i x hx (by rw [← act_same b2.view b2.len (b3 i (Nat.le_refl _))]; exact ha))
      exact ⟨s1, s2, s3, fun j hj => by rw [chg_other (by omega)]; exact b3 j (by omega)⟩) a.ps.length 0 a (by omega) ⟨h, ⟨rfl, rfl, rfl, rfl⟩, fun j _ => rfl⟩
    rw [List.drop_zero] at l1 l2 l3 l4
    generalize foldI (fun b i (_ : Procs) => chgOne L b i) 0 a.ps a = d at l1 l2 l3 l4
    have l1' : rangeF (world_World_Change_B3 a.w) a.ps.length 0 (L, a.w, a.ps) = some (L, d.w, d.ps) := l1
    rw [l1', Option.bind_some]
    simp only
    refine ⟨?_, ⟨l2.n, l2.ps, ⟨Nat.zero_le _, fun m hm => by cases hm⟩, l2.way, ?_⟩, l3.way⟩
    · have : a.w.way = d.w.way := by show a.way.map packS = d.way.map packS; rw [l3.way]
      rw [this]
      rfl
    · have := h.num
      simp only
      omega

/-! ### a deed -/
def doM (fu : Nat) (a : AW) (d : Deed) : AW × Int :=
  bif d.Kind == 1 then sayM a d.Who d.Text else
  bif d.Kind == 2 then againM a d.Who else
  bif d.Kind == 3 then moveM fu a d.Who d.How else
  bif d.Kind == 4 then fallM a d.Who else
  bif d.Kind == 5 then changeM a else (a, 1)
theorem say_ord (a : AW) (p : Int) (t : Str) : (sayM a p t).1.ord = a.ord := by
  unfold sayM
  cases (who a p != 0) with
  | true => rfl
  | false =>
    cases decide (t.length > 150) with
    | true => rfl
    | false =>
      cases decide (a.way.length = 60) with
      | true => rfl
      | false =>
        cases a.ps[p.toNat]? with
        | none => rfl
        | some x =>
          simp only [cond_false]
          cases fullF x.from_ with
          | true => rfl
          | false => simp only [cond_false]; rw [sendM_ord]
theorem again_like (a : AW) (p : Int) : Like a (againM a p).1 := by
  unfold againM
  cases (who a p != 0) with
  | true => exact ⟨rfl, rfl, rfl⟩
  | false =>
    cases a.ps[p.toNat]? with
    | none => exact ⟨rfl, rfl, rfl⟩
    | some x => exact Like.send (foldI_inv (Like a) _ 0 a (fun b j q _ hb => hb.send ..) ⟨rfl, rfl, rfl⟩) ..
theorem fall_same (a : AW) (p : Int) : (fallM a p).1.ord = a.ord ∧ (fallM a p).1.way = a.way := by
  unfold fallM
  cases (!knw a p) with
  | true => exact ⟨rfl, rfl⟩
  | false =>
    cases a.ps[p.toNat]? with
    | none => exact ⟨rfl, rfl⟩
    | some x => exact ⟨rfl, rfl⟩
theorem foldI_len {α : Type} {f : AW → Nat → α → AW} (h : ∀ b j x, (f b j x).ps.length = b.ps.length) : ∀ (l : List α) (i : Nat) (b : AW), (foldI f i l b).ps.length = b.ps.length
  | [], _, _ => rfl
  | x :: l, i, b => (foldI_len h l (i + 1) _).trans (h b i x)
theorem len_send (a : AW) (k f t s : Int) (x : Str) : (sendM a k f t s x).ps.length = a.ps.length := by rw [sendM_ps]
theorem len_ask (s f : Int) : ∀ (k i : Nat) (b : AW), (askGo s f k i b).ps.length = b.ps.length
  | 0, _, _ => rfl
  | k + 1, i, b => by
    unfold askGo
    cases b.ord[i]? with
    | none => rfl
    | some m => exact (len_ask s f k (i + 1) _).trans (len_send ..)
theorem len_hear (b : AW) (p : Int) (t : Str) : (hearM b p t).ps.length = b.ps.length := by
  unfold hearM
  cases b.ps[p.toNat]? with
  | none => rfl
  | some x => simp
theorem len_chg (L : List Saying) (b : AW) (i : Nat) : (chgOne L b i).ps.length = b.ps.length := by
  unfold chgOne
  cases b.ps[i]? with
  | none => rfl
  | some x => simp
theorem len_deliv (fu : Nat) (a : AW) (n : Note) : (delivM fu a n).ps.length = a.ps.length := by
  unfold delivM
  cases (!knw a n.From) with
  | true => rfl
  | false =>
  cases n.Kind == 1 with
  | true =>
    simp only [cond_true, cond_false]
    unfold orderM
    cases a.ps[n.From.toNat]? with
    | none => rfl
    | some x =>
      simp only
      cases decide (n.Seq > 16777214) with
      | true => rfl
      | false =>
        rw [cond_false, foldI_len fun b j t => by rw [(ordOne_like ..).ps]]
        simp
  | false =>
  cases n.Kind == 3 with
  | true => exact len_ask ..
  | false =>
  cases n.Kind == 2 with
  | true =>
    simp only [cond_true, cond_false]
    unfold takeM
    cases a.ps[n.To.toNat]? with
    | none => rfl
    | some x =>
      simp only
      cases decide (n.Seq > 16777214) with
      | true => rfl
      | false =>
        rw [cond_false, foldI_len fun b j t => len_hear b n.To t]
        simp
  | false => rfl
theorem len_do (fu : Nat) (a : AW) (d : Deed) : (doM fu a d).1.ps.length = a.ps.length := by
  unfold doM
  cases d.Kind == 1 with
  | true =>
    rw [cond_true]
    unfold sayM
    cases (who a d.Who != 0) with
    | true => rfl
    | false =>
    cases decide (d.Text.length > 150) with
    | true => rfl
    | false =>
    cases decide (a.way.length = 60) with
    | true => rfl
    | false =>
    cases a.ps[d.Who.toNat]? with
    | none => rfl
    | some x =>
      simp only [cond_false]
      cases fullF x.from_ with
      | true => rfl
      | false => rw [cond_false]; simp only; rw [len_send]; simp
  | false =>
  cases d.Kind == 2 with
  | true => simp only [cond_true, cond_false]; rw [(again_like a d.Who).ps]
  | false =>
  cases d.Kind == 3 with
  | true =>
    simp only [cond_true, cond_false]
    unfold moveM
    cases !(decide (d.How ≥ 1) && decide (d.How ≤ 3)) with
    | true => rfl
    | false =>
    cases !(decide (d.Who ≥ 0) && decide (d.Who ≤ (a.way.length : Int) - 1)) with
    | true => rfl
    | false =>
    cases (d.How == 3) && decide (a.way.length = 60) with
    | true => rfl
    | false =>
    cases a.way[d.Who.toNat]? with
    | none => rfl
    | some n =>
      simp only [cond_false]
      cases d.How == 3 with
      | true => rfl
      | false =>
        rw [cond_false]
        simp only
        cases ((d.How == 1) && (n.View == a.view.Num)) && act a n.To with
        | true => rw [cond_true, len_deliv]
        | false => rfl
  | false =>
  cases d.Kind == 4 with
  | true =>
    simp only [cond_true, cond_false]
    unfold fallM
    cases !knw a d.Who with
    | true => rfl
    | false =>
    cases a.ps[d.Who.toNat]? with
    | none => rfl
    | some x => simp
  | false =>
  cases d.Kind == 5 with
  | true =>
    simp only [cond_true, cond_false]
    unfold changeM
    cases (nextV a.view (glM a).1).2 != 0 with
    | true => rfl
    | false =>
      rw [cond_false]
      show (foldI _ 0 a.ps a).ps.length = _
      rw [foldI_len fun b j x => len_chg ..]
  | false => rfl
theorem do_law {B fu : Nat} {a : AW} (hfu : 200 < fu) (h : GA B a) (hB : B ≤ 2 ^ 34) (d : Deed) : parttop_doOf fu a.w d = some ((doM fu a d).1.w.all, (doM fu a d).1.w, (doM fu a d).2) ∧ GA (B + 17) (doM fu a d).1 := by
  unfold parttop_doOf doM
  cases d.Kind == 1 with
  | true =>
    rw [cond_true, cond_true, say_law h, Option.bind_some]
    refine ⟨?_, (h.say ..).mono (by omega)⟩
    have := say_ord a d.Who d.Text
    generalize sayM a d.Who d.Text = r at this
    have e : a.w.ordered = r.1.w.ordered := by show a.ord.map enc3 = r.1.ord.map enc3; rw [this]
    rw [e]
  | false =>
  cases d.Kind == 2 with
  | true =>
    simp only [cond_true, cond_false]
    rw [again_law h, Option.bind_some]
    refine ⟨?_, (h.again ..).mono (by omega)⟩
    have := again_like a d.Who
    generalize againM a d.Who = r at this
    have e1 : a.w.all = r.1.w.all := this.ps.symm
    have e2 : a.w.ordered = r.1.w.ordered := by show a.ord.map enc3 = r.1.ord.map enc3; rw [this.ord]
    rw [e1, e2]
  | false =>
  cases d.Kind == 3 with
  | true =>
    simp only [cond_true, cond_false]
    obtain ⟨e1, e2⟩ := move_law hfu h hB d.Who d.How
    rw [e1, Option.bind_some]
    exact ⟨rfl, e2⟩
  | false =>
  cases d.Kind == 4 with
  | true =>
    simp only [cond_true, cond_false]
    rw [fall_law h, Option.bind_some]
    refine ⟨?_, (h.fall ..).mono (by omega)⟩
    obtain ⟨q1, q2⟩ := fall_same a d.Who
    generalize fallM a d.Who = r at q1 q2
    have e1 : a.w.ordered = r.1.w.ordered := by show a.ord.map enc3 = r.1.ord.map enc3; rw [q1]
    have e2 : a.w.way = r.1.w.way := by show a.way.map packS = r.1.way.map packS; rw [q2]
    rw [e1, e2]
  | false =>
  cases d.Kind == 5 with
  | true =>
    simp only [cond_true, cond_false]
    obtain ⟨c1, c2, c3⟩ := change_law h hB
    rw [c1, Option.bind_some]
    refine ⟨?_, c2.mono (by omega)⟩
    generalize changeM a = r at c3
    have e2 : a.w.way = r.1.w.way := by show a.way.map packS = r.1.way.map packS; rw [c3]
    rw [e2]
  | false => exact ⟨rfl, h.mono (by omega)⟩
end Go.Proofs.YtchmclllcdknjaaGreatDoor
