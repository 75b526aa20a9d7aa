/-
  The code's world, told by plain functions: notes that come.
-/
import Derived.Test.YtchmclllcdknjaaGreatDoorTrWorldB
namespace Go.Proofs.YtchmclllcdknjaaGreatDoor
open Enc

/-! ### the lane's receiver -/
def takeV (fu : Nat) (r : To) (p : Parcel) : To × List Str :=
  match lane_Take fu r p with
  | some (o, ts, _) => (o, ts)
  | none => (r, [])
theorem take_v {r : To} {p : Parcel} {fu : Nat} (hfu : 200 < fu) (h : GoodT r) (hp : 0 ≤ p.Seq ∧ p.Seq ≤ 16777214) (ht : p.Text.length ≤ 200) :
    lane_Take fu r p = some ((takeV fu r p).1, (takeV fu r p).2, 0) ∧ Took r p (takeV fu r p).1 (takeV fu r p).2 ∧ (p.Seq = r.Next → 1 ≤ (takeV fu r p).2.length) ∧ (takeV fu r p).2.length ≤ 17 := by
  obtain ⟨o, ts, e, h1, h2, h3⟩ := take_code hfu h hp ht
  have : takeV fu r p = (o, ts) := by unfold takeV; rw [e]
  rw [this]
  exact ⟨e, h1, h2, h3⟩
theorem take_over {r : To} {p : Parcel} {fu : Nat} (h : GoodT r) (hp : p.Seq > 16777214) : ∃ o, lane_Take fu r p = some (o, [], 1) := by
  unfold lane_Take
  rw [to_ok h, Option.bind_some]
  simp only [bne_self_eq_false, cond_false]
  rw [lin_eq, Option.bind_some, decide_eq_false (show ¬ p.Seq ≤ 16777214 by omega), Bool.and_false, Bool.not_false, cond_true]
  exact ⟨_, rfl⟩
theorem took_good {r : To} {p : Parcel} {o : To} {ts : List Str} (h : GoodT r) (hs : ∀ x ∈ r.Early, x.Seq ≤ 16777214) (hp : p.Seq ≤ 16777214) (ht : Took r p o ts) : GoodT o := by
  have h1 := ht.next
  have hlo := h.lo
  have hhi := h.hi
  refine ⟨by omega, ?_, ht.len, ht.inc, fun x hx => ⟨(ht.rng x hx).1, by have := (ht.rng x hx).2.1; omega⟩, ht.txt⟩
  rcases Nat.eq_zero_or_pos ts.length with e | e
  · omega
  · have hg : ts[ts.length - 1]? = some (ts[ts.length - 1]'(by omega)) := by simp
    rcases ht.from_ _ _ hg with q | q
    · have := hs _ q; simp only at this; omega
    · rw [← q] at hp; simp only at hp; omega

/-! ### what is said comes to be ordered -/
def ordOne (b : AW) (p q : Int) (t : Str) : AW :=
  foldI (fun (c : AW) j (_ : Procs) => bif act c (j : Int) then sendM c 2 (sq b.view) (j : Int) (b.ord.length : Int) (enc3 (p, q, t)) else c) 0 b.ps { b with ord := b.ord ++ [(p, q, t)] }
theorem ordOne_like (b : AW) (p q : Int) (t : Str) : Like { b with ord := b.ord ++ [(p, q, t)] } (ordOne b p q t) := by
  unfold ordOne
  refine foldI_inv (Like { b with ord := b.ord ++ [(p, q, t)] }) _ 0 _ (fun c j x _ hc => ?_) ⟨rfl, rfl, rfl⟩
  cases act c (j : Int)
  · exact hc
  · exact hc.send ..
theorem GA.ordOne {B : Nat} {b : AW} (h : GA B b) {p q : Int} {t : Str} (hg : G3 (p, q, t)) : GA (B + 1) (ordOne b p q t) := by
  have h1 : GA (B + 1) { b with ord := b.ord ++ [(p, q, t)] } := by
    refine ⟨h.n, fun x hx => (h.ps x hx).mono (by omega), ⟨?_, fun m hm => ?_⟩, h.way, h.num⟩
    · have := h.ord.1; simp only [List.length_append, List.length_cons, List.length_nil]; omega
    · rcases List.mem_append.1 hm with e | e
      · exact h.ord.2 m e
      · rw [List.mem_singleton.1 e]; exact hg
  unfold Go.Proofs.YtchmclllcdknjaaGreatDoor.ordOne
  refine foldI_inv (GA (B + 1)) _ 0 _ (fun c j x _ hc => ?_) h1
  cases act c (j : Int)
  · exact hc
  · exact hc.send (fun e => absurd e (by decide)) (fun _ => ⟨_, hg, rfl⟩)
def orderM (fu : Nat) (a : AW) (n : Note) : AW :=
  match a.ps[n.From.toNat]? with
  | none => a
  | some x => bif decide (n.Seq > 16777214) then a else
    foldI (fun b i t => ordOne b n.From (x.orders.Next + (i : Int)) t) 0 (takeV fu x.orders ⟨n.Seq, n.Text⟩).2 { a with ps := a.ps.set n.From.toNat { x with orders := (takeV fu x.orders ⟨n.Seq, n.Text⟩).1 } }
theorem order_step {B : Nat} {b : AW} {n : Note} {x8 : Procs} {l : List Str} {i : Nat} {t : Str} (h : GA B b) (hB : B ≤ 2 ^ 35) (hl : l[i]? = some t) (hg : G3 (n.From, x8.orders.Next + (i : Int), t)) :
    world_World_order_B0 n x8 l b.ps i (b.w, b.w.ordered, b.w.way) = some ((ordOne b n.From (x8.orders.Next + (i : Int)) t).w, (ordOne b n.From (x8.orders.Next + (i : Int)) t).w.ordered, (ordOne b n.From (x8.orders.Next + (i : Int)) t).w.way) := by
  obtain ⟨g1, g2, g3⟩ := hg
  simp only at g1 g2 g3
  obtain ⟨i1, _, i2, _⟩ := itoa_law g1.1 (show n.From < 1000000000 by omega)
  obtain ⟨j1, _, j2, _⟩ := itoa_law g2.1 (show x8.orders.Next + (i : Int) < 1000000000 by omega)
  have hol : b.w.ordered.length = b.ord.length := List.length_map _
  have ho := h.ord.1
  unfold world_World_order_B0
  simp only
  rw [lat_nat, hl, Option.bind_some, i1, Option.bind_some, room_ok (by simp; omega), Option.bind_some]
  by_cases hx : True
  · have hw : w64 (x8.orders.Next + (i : Int)) = x8.orders.Next + (i : Int) := w64_id (by omega) (by omega)
    rw [hw, j1, Option.bind_some, room_ok (by simp only [List.length_append, List.length_cons, List.length_nil]; omega), Option.bind_some, room_ok (by simp only [List.length_append, List.length_cons, List.length_nil]; omega), Option.bind_some,
      room_ok (by simp only [List.length_append, List.length_cons, List.length_nil]; omega), Option.bind_some, room_ok (by simp only [List.length_cons, List.length_nil]; omega), Option.bind_some]
    obtain ⟨b1, hb1⟩ : ∃ b1 : AW, b1 = { b with ord := b.ord ++ [(n.From, x8.orders.Next + (i : Int), t)] } := ⟨_, rfl⟩
    have he : (((itS n.From ++ ([58] : Str)) ++ itS (x8.orders.Next + (i : Int))) ++ ([58] : Str)) ++ t = enc3 (n.From, x8.orders.Next + (i : Int), t) := rfl
    rw [he]
    have hb1w : b1.w = ({ b.w with all := b.ps, ordered := b.w.ordered ++ [enc3 (n.From, x8.orders.Next + (i : Int), t)], way := b.w.way } : Wld) := by
      rw [hb1]
      unfold AW.w
      simp only [List.map_append, List.map_cons, List.map_nil]
    have hbo : b1.w.ordered = b.w.ordered ++ [enc3 (n.From, x8.orders.Next + (i : Int), t)] := by rw [hb1w]
    have hga : b1.way.length ≤ 60 := by rw [hb1]; exact h.way.1
    have hn : 1 ≤ b1.ps.length ∧ b1.ps.length ≤ 6 := by rw [hb1]; exact h.n
    obtain ⟨l1, l2⟩ := rangeF_emb (body := world_World_order_B2 b.ps b.w.ordered t (itS n.From) (itS (x8.orders.Next + (i : Int)))) (fun c : AW => (c.w, c.w.way))
      (fun (c : AW) j (_ : Procs) => bif act c (j : Int) then sendM c 2 (sq b.view) (j : Int) (b.ord.length : Int) (enc3 (n.From, x8.orders.Next + (i : Int), t)) else c) (fun _ c => Like b1 c ∧ c.way.length ≤ 60) (l := b.ps) (fun j y c _ hc => by
        obtain ⟨hc1, hc2⟩ := hc
        have hcw : ({ c.w with all := b.ps, ordered := b.w.ordered ++ [enc3 (n.From, x8.orders.Next + (i : Int), t)], way := c.w.way } : Wld) = c.w := by
          have := hc1.w
          rw [hbo, show b1.w.all = b.ps by rw [hb1]; rfl] at this
          exact this
        unfold world_World_order_B2
        simp only
        rw [he, hcw, active_law (by rw [hc1.ps]; exact hn), Option.bind_some]
        cases hac : act c (j : Int) with
        | false => exact ⟨rfl, hc1, hc2⟩
        | true =>
          have hsl : w64 (((b.w.ordered ++ [enc3 (n.From, x8.orders.Next + (i : Int), t)]).length : Int) - 1) = (b.ord.length : Int) := by
            have hl1 : ((b.w.ordered ++ [enc3 (n.From, x8.orders.Next + (i : Int), t)]).length : Int) = (b.ord.length : Int) + 1 := by rw [List.length_append, hol]; rfl
            rw [hl1, w64_id (by omega) (by omega)]; omega
          have hv : c.w.view = b.view := by show c.view = b.view; rw [hc1.view, hb1]
          rw [cond_true, cond_true, seq_law, Option.bind_some, hv, hsl, send_law hc2, Option.bind_some]
          have hl2 := hc1.send 2 (sq b.view) (j : Int) (b.ord.length : Int) (enc3 (n.From, x8.orders.Next + (i : Int), t))
          have hcw2 := hl2.w
          rw [hbo, show b1.w.all = b.ps by rw [hb1]; rfl] at hcw2
          refine ⟨by simp only; rw [hcw2], hl2, ?_⟩
          unfold sendM
          cases hq : (okN (noteM c.view 2 (sq b.view) (j : Int) (b.ord.length : Int) (enc3 (n.From, x8.orders.Next + (i : Int), t))) && decide (c.way.length < 60)) with
          | false => exact hc2
          | true =>
            rw [Bool.and_eq_true, decide_eq_true_eq] at hq
            show (c.way ++ [_]).length ≤ 60
            rw [List.length_append]; simp; omega) b.ps.length 0 b1 (by omega) ⟨⟨rfl, rfl, rfl⟩, hga⟩
    rw [List.drop_zero] at l1 l2
    have hfold : foldI (fun (c : AW) j (_ : Procs) => bif act c (j : Int) then sendM c 2 (sq b.view) (j : Int) (b.ord.length : Int) (enc3 (n.From, x8.orders.Next + (i : Int), t)) else c) 0 b.ps b1 = ordOne b n.From (x8.orders.Next + (i : Int)) t := by
      rw [hb1]; rfl
    rw [hfold] at l1 l2
    generalize ordOne b n.From (x8.orders.Next + (i : Int)) t = d at l1 l2
    have l1' : rangeF (world_World_order_B2 b.ps b.w.ordered t (itS n.From) (itS (x8.orders.Next + (i : Int)))) b.ps.length 0 (({ b.w with all := b.ps, ordered := b.w.ordered ++ [enc3 (n.From, x8.orders.Next + (i : Int), t)], way := b.w.way } : Wld), b.w.way) = some (d.w, d.w.way) := by
      rw [← hb1w]
      have : b1.w.way = b.w.way := by rw [hb1]; rfl
      rw [← this]; exact l1
    rw [l1', Option.bind_some]
    simp only
    have hdw := l2.1.w
    rw [hbo, show b1.w.all = b.ps by rw [hb1]; rfl] at hdw
    have hdo : d.w.ordered = b.w.ordered ++ [enc3 (n.From, x8.orders.Next + (i : Int), t)] := by rw [← hbo]; show d.ord.map enc3 = _; rw [l2.1.ord]; rfl
    rw [hdw, hdo]
  · exact absurd trivial hx
end Go.Proofs.YtchmclllcdknjaaGreatDoor
