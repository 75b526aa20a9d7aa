/-
  The code's world, told by plain functions: what is ordered, what is told, what is asked for.
-/
import Derived.Test.YtchmclllcdknjaaGreatDoorTrWorldC
namespace Go.Proofs.YtchmclllcdknjaaGreatDoor
open Enc

theorem order_law {B fu : Nat} {a : AW} {n : Note} (hfu : 200 < fu) (h : GA B a) (hB : B ≤ 2 ^ 34) (hn : GN n) (hk : n.Kind = 1) (hkn : knw a n.From = true) :
    world_World_order fu a.w n = some ((orderM fu a n).w.all, (orderM fu a n).w.ordered, (orderM fu a n).w.way, (orderM fu a n).w) ∧ GA (B + 17) (orderM fu a n) := by
  obtain ⟨i, hi, hil⟩ := knw_iff.1 hkn
  have hx : a.ps[i]? = some a.ps[i] := by simp [hil]
  generalize a.ps[i] = x at hx
  have hp := h.ps x (List.mem_of_getElem? hx)
  have e : a.w.all = a.ps := rfl
  have hsq := hn.1.seq
  have hfr := hn.1.from_
  have ht := hn.2.1 hk
  unfold world_World_order orderM
  rw [e, hi, lat_nat, hx, Option.bind_some, Int.toNat_natCast, hx]
  simp only
  have ep : ({ Parcel.zero with Seq := n.Seq, Text := n.Text } : Parcel) = ⟨n.Seq, n.Text⟩ := rfl
  rw [ep]
  by_cases hs : n.Seq > 16777214
  · obtain ⟨o, ho⟩ := take_over (fu := fu) (p := ⟨n.Seq, n.Text⟩) hp.ords.1 hs
    rw [ho, decide_eq_true hs]
    exact ⟨rfl, h.mono (by omega)⟩
  · have hs' : n.Seq ≤ 16777214 := by omega
    obtain ⟨t1, t2, _, t4⟩ := take_v (r := x.orders) (p := ⟨n.Seq, n.Text⟩) hfu hp.ords.1 ⟨hsq.1, hs'⟩ (by simp only; omega)
    have hog := took_good hp.ords.1 (fun y hy => (hp.ords.2 y hy).1) hs' t2
    have hnx := hp.ords.1.hi
    have hnl := hp.ords.1.lo
    rw [t1, decide_eq_false hs]
    generalize takeV fu x.orders ⟨n.Seq, n.Text⟩ = r at t2 t4 hog
    obtain ⟨o, ts⟩ := r
    simp only at t2 t4 hog
    simp only [Option.bind_some, Let_eq, bne_self_eq_false, cond_false]
    have hop : GP B { x with orders := o } := ⟨hp.log, hp.base, hp.late, hp.to, hog, fun y hy => by
      rcases (t2.rng y hy).2.2 with q | q
      · exact hp.ords.2 y q
      · rw [q]; exact ⟨hs', ht⟩⟩
    have hga := h.set i hop
    obtain ⟨l1, l2⟩ := rangeF_emb (body := world_World_order_B0 n x ts (a.ps.set i { x with orders := o })) (fun b : AW => (b.w, b.w.ordered, b.w.way)) (fun b j t => ordOne b (i : Int) (x.orders.Next + (j : Int)) t)
      (fun j b => b.ps = a.ps.set i { x with orders := o } ∧ GA (B + j) b) (l := ts) (fun j t b hj hb => by
        obtain ⟨hb1, hb2⟩ := hb
        have hjl := (List.getElem?_eq_some_iff.1 hj).1
        have hg : G3 (n.From, x.orders.Next + (j : Int), t) := by
          refine ⟨hfr, ⟨by simp only; omega, by simp only; omega⟩, ?_⟩
          rcases t2.from_ j t hj with q | q
          · exact (hp.ords.2 _ q).2
          · have : t = n.Text := by injection q
            rw [this]; exact ht
        have hst := order_step (l := ts) hb2 (by omega) hj hg
        rw [hb1] at hst
        refine ⟨by rw [← hi]; exact hst, ?_, ?_⟩
        · rw [(ordOne_like ..).ps]; exact hb1
        · rw [← hi]; exact hb2.ordOne hg) ts.length 0 { a with ps := a.ps.set i { x with orders := o } } (by omega) ⟨rfl, hga⟩
    rw [List.drop_zero] at l1 l2
    generalize foldI (fun (b : AW) j t => ordOne b (i : Int) (x.orders.Next + (j : Int)) t) 0 ts { a with ps := a.ps.set i { x with orders := o } } = d at l1 l2
    have l1' : rangeF (world_World_order_B0 n x ts (a.ps.set i ({ x with orders := o } : Procs))) ts.length 0 (({ a.w with all := a.ps.set i ({ x with orders := o } : Procs) } : Wld), a.w.ordered, a.w.way) = some (d.w, d.w.ordered, d.w.way) := l1
    have l1'' : rangeF (world_World_order_B0 n x ts (a.ps.set i ({ x with orders := ({ o with Early := o.Early } : To) } : Procs))) ts.length 0 (({ a.w with all := a.ps.set i ({ x with orders := ({ o with Early := o.Early } : To) } : Procs) } : Wld), a.w.ordered, a.w.way) = some (d.w, d.w.ordered, d.w.way) := l1'
    refine ⟨?_, l2.2.mono (by omega)⟩
    rw [l1'', Option.bind_some]
    show some (a.ps.set i ({ x with orders := o } : Procs), d.w.ordered, d.w.way, ({ d.w with all := a.ps.set i ({ x with orders := o } : Procs), ordered := d.w.ordered, way := d.w.way } : Wld)) = _
    rw [← l2.1]
    rfl

/-! ### what is told -/
def prs (t : Str) : Int × Int × Str :=
  (((strconv_Atoi ((strings_Cut t ([58] : Str)).getD (([] : Str), ([] : Str), false)).1).getD ((0 : Int), ())).1,
   ((strconv_Atoi ((strings_Cut ((strings_Cut t ([58] : Str)).getD (([] : Str), ([] : Str), false)).2.1 ([58] : Str)).getD (([] : Str), ([] : Str), false)).1).getD ((0 : Int), ())).1,
   ((strings_Cut ((strings_Cut t ([58] : Str)).getD (([] : Str), ([] : Str), false)).2.1 ([58] : Str)).getD (([] : Str), ([] : Str), false)).2.1)
theorem enc3_cut {m : Int × Int × Str} (h : G3 m) : strings_Cut (enc3 m) ([58] : Str) = some (itS m.1, itS m.2.1 ++ 58 :: m.2.2, true) ∧ strings_Cut (itS m.2.1 ++ 58 :: m.2.2) ([58] : Str) = some (itS m.2.1, m.2.2, true) ∧ strconv_Atoi (itS m.1) = some (m.1, ()) ∧ strconv_Atoi (itS m.2.1) = some (m.2.1, ()) := by
  obtain ⟨_, a1, a2, a3, a4⟩ := itoa_law h.1.1 (show m.1 < 1000000000 by have := h.1.2; omega)
  obtain ⟨_, b1, b2, b3, b4⟩ := itoa_law h.2.1.1 (show m.2.1 < 1000000000 by have := h.2.1.2; omega)
  have h3 := h.2.2
  have e : enc3 m = itS m.1 ++ 58 :: (itS m.2.1 ++ 58 :: m.2.2) := by unfold enc3; simp
  refine ⟨?_, cut_law b1 b3 (by simp; omega), a4, b4⟩
  rw [e]
  exact cut_law a1 a3 (by simp; omega)
theorem prs_enc {m : Int × Int × Str} (h : G3 m) : prs (enc3 m) = m := by
  obtain ⟨h1, h2, h3, h4⟩ := enc3_cut h
  unfold prs
  rw [h1]
  simp only [Option.getD_some]
  rw [h2]
  simp only [Option.getD_some]
  rw [h3, h4]
  rfl
def hearM (b : AW) (p : Int) (t : Str) : AW :=
  match b.ps[p.toNat]? with
  | none => b
  | some x => { b with ps := b.ps.set p.toNat { x with log := x.log ++ [⟨(prs t).1, (prs t).2.2⟩], from_ := bif (prs t).1 == p then heardV x.from_ ((prs t).2.1 + 1) else x.from_ } }
def takeM (fu : Nat) (a : AW) (n : Note) : AW :=
  match a.ps[n.To.toNat]? with
  | none => a
  | some x => bif decide (n.Seq > 16777214) then a else
    foldI (fun b _ t => hearM b n.To t) 0 (takeV fu x.to ⟨n.Seq, n.Text⟩).2 { a with ps := a.ps.set n.To.toNat { x with to := (takeV fu x.to ⟨n.Seq, n.Text⟩).1 } }
structure LikeW (a b : AW) : Prop where
  view : b.view = a.view
  ord : b.ord = a.ord
  way : b.way = a.way
  len : b.ps.length = a.ps.length
theorem hear_step {B : Nat} {a b : AW} {n : Note} {l : List Str} {i j : Nat} {m : Int × Int × Str} (h : GA B b) (hB : B ≤ 2 ^ 35) (hl : LikeW a b) (hi : n.To = (i : Int)) (hil : i < b.ps.length) (hj : l[j]? = some (enc3 m)) (hg : G3 m) :
    world_World_take_B0 a.w n l j (b.w, b.ps) = some ((hearM b n.To (enc3 m)).w, (hearM b n.To (enc3 m)).ps) ∧ GA (B + 1) (hearM b n.To (enc3 m)) ∧ LikeW a (hearM b n.To (enc3 m)) := by
  obtain ⟨c1, c2, c3, c4⟩ := enc3_cut hg
  have hx : b.ps[i]? = some b.ps[i] := by simp [hil]
  generalize b.ps[i] = x at hx
  have hp := h.ps x (List.mem_of_getElem? hx)
  have hlog := hp.log
  have hq := hg.2.1
  have hw64 : w64 (m.2.1 + 1) = m.2.1 + 1 := w64_id (by omega) (by omega)
  have hbw : ∀ ps, ({ b.w with all := ps, ordered := a.w.ordered, way := a.w.way } : Wld) = ({ b with ps := ps } : AW).w := fun ps => by
    unfold AW.w; simp only; rw [hl.ord, hl.way]
  have hsl : i < b.ps.length := hil
  have hset : ∀ y : Procs, (b.ps.set i y)[i]? = some y := fun y => by rw [List.getElem?_set_self hsl]
  refine ⟨?_, ?_, ?_⟩
  · unfold world_World_take_B0 hearM
    rw [lat_nat, hj, Option.bind_some, c1, Option.bind_some]
    simp only
    rw [c2, Option.bind_some, c3, Option.bind_some, hi, lat_nat, Int.toNat_natCast, hx, Option.bind_some, room_ok (by simp; omega), Option.bind_some, Option.bind_some, Let_eq, prs_enc hg]
    simp only
    have es : ({ Saying.zero with From := m.1, Text := m.2.2 } : Saying) = ⟨m.1, m.2.2⟩ := rfl
    rw [es]
    cases hm : (m.1 == (i : Int)) with
    | false =>
      simp only [cond_false]
      rw [hbw]
    | true =>
      obtain ⟨g, c, hh, hv⟩ := heard_law (k := m.2.1 + 1) hp.gf (by omega)
      simp only [cond_true]
      rw [c4, Option.bind_some, lat_nat, hset, Option.bind_some]
      simp only
      rw [hw64, hh, Option.bind_some]
      simp only
      rw [← hv]
      cases hc : (c == 0) with
      | false =>
        simp only [cond_false]
        rw [hbw]
      | true =>
        simp only [cond_true]
        rw [Option.bind_some, Let_eq, List.set_set, hbw]
  · unfold hearM
    rw [hi, Int.toNat_natCast, hx]
    simp only
    have h1 := h.mono (show B ≤ B + 1 by omega)
    refine h1.set i ⟨?_, ?_, ?_, hp.to, hp.ords⟩
    · simp only [List.length_append, List.length_cons, List.length_nil]; omega
    · cases ((prs (enc3 m)).1 == (i : Int))
      · exact hp.base
      · exact (heardV_gf hp.gf).base
    · cases ((prs (enc3 m)).1 == (i : Int))
      · exact hp.late
      · exact (heardV_gf hp.gf).late
  · unfold hearM
    rw [hi, Int.toNat_natCast, hx]
    exact ⟨hl.view, hl.ord, hl.way, by simp only [List.length_set]; exact hl.len⟩
theorem take_law {B fu : Nat} {a : AW} {n : Note} (hfu : 200 < fu) (h : GA B a) (hB : B ≤ 2 ^ 34) (hn : GN n) (hk : n.Kind = 2) (hkn : knw a n.To = true) :
    world_World_take fu a.w n = some ((takeM fu a n).w.all, (takeM fu a n).w) ∧ GA (B + 17) (takeM fu a n) ∧ LikeW a (takeM fu a n) := by
  obtain ⟨i, hi, hil⟩ := knw_iff.1 hkn
  have hx : a.ps[i]? = some a.ps[i] := by simp [hil]
  generalize a.ps[i] = x at hx
  have hp := h.ps x (List.mem_of_getElem? hx)
  have e : a.w.all = a.ps := rfl
  have hsq := hn.1.seq
  obtain ⟨m, hm, htx⟩ := hn.2.2 hk
  have hml := enc3_len hm
  unfold world_World_take takeM
  rw [e, hi, lat_nat, hx, Option.bind_some, Int.toNat_natCast, hx]
  simp only
  have ep : ({ Parcel.zero with Seq := n.Seq, Text := n.Text } : Parcel) = ⟨n.Seq, n.Text⟩ := rfl
  rw [ep]
  by_cases hs : n.Seq > 16777214
  · obtain ⟨o, ho⟩ := take_over (fu := fu) (p := ⟨n.Seq, n.Text⟩) hp.to.1 hs
    rw [ho, decide_eq_true hs]
    exact ⟨rfl, h.mono (by omega), rfl, rfl, rfl, rfl⟩
  · have hs' : n.Seq ≤ 16777214 := by omega
    obtain ⟨t1, t2, _, t4⟩ := take_v (r := x.to) (p := ⟨n.Seq, n.Text⟩) hfu hp.to.1 ⟨hsq.1, hs'⟩ (by simp only; rw [htx]; omega)
    have hog := took_good hp.to.1 (fun y hy => (hp.to.2 y hy).1) hs' t2
    rw [t1, decide_eq_false hs]
    generalize takeV fu x.to ⟨n.Seq, n.Text⟩ = r at t2 t4 hog
    obtain ⟨o, ts⟩ := r
    simp only at t2 t4 hog
    simp only [Option.bind_some, Let_eq, bne_self_eq_false, cond_false]
    have hop : GP B { x with to := o } := ⟨hp.log, hp.base, hp.late, ⟨hog, fun y hy => by
      rcases (t2.rng y hy).2.2 with q | q
      · exact hp.to.2 y q
      · rw [q]; exact ⟨hs', m, hm, htx⟩⟩, hp.ords⟩
    have hga := h.set i hop
    have htxt : ∀ (j : Nat) t, ts[j]? = some t → ∃ m, G3 m ∧ t = enc3 m := fun j t hj => by
      rcases t2.from_ j t hj with q | q
      · exact (hp.to.2 _ q).2
      · have : t = n.Text := by injection q
        rw [this]; exact ⟨m, hm, htx⟩
    obtain ⟨l1, l2⟩ := rangeF_emb (body := world_World_take_B0 a.w n ts) (fun b : AW => (b.w, b.ps)) (fun b _ t => hearM b n.To t)
      (fun j b => GA (B + j) b ∧ LikeW a b) (l := ts) (fun j t b hj hb => by
        obtain ⟨m', g', rfl⟩ := htxt j t hj
        have hjl := (List.getElem?_eq_some_iff.1 hj).1
        have hb1 : GA (B + j) b := hb.1
        exact hear_step (B := B + j) hb1 (show B + j ≤ 2 ^ 35 by omega) hb.2 hi (by rw [hb.2.len]; exact hil) hj g') ts.length 0 { a with ps := a.ps.set i { x with to := o } } (by omega) ⟨hga, rfl, rfl, rfl, by simp⟩
    rw [List.drop_zero] at l1 l2
    rw [hi] at l1 l2
    generalize foldI (fun (b : AW) (_ : Nat) t => hearM b (i : Int) t) 0 ts { a with ps := a.ps.set i { x with to := o } } = d at l1 l2
    have l1'' : rangeF (world_World_take_B0 a.w n ts) ts.length 0 (({ a.w with all := a.ps.set i ({ x with to := ({ o with Early := o.Early } : To) } : Procs) } : Wld), a.ps.set i ({ x with to := ({ o with Early := o.Early } : To) } : Procs)) = some (d.w, d.ps) := l1
    refine ⟨?_, l2.1.mono (by omega), l2.2⟩
    rw [l1'', Option.bind_some]
    show some (d.ps, ({ d.w with all := d.ps, ordered := a.w.ordered, way := a.w.way } : Wld)) = _
    have : ({ d.w with all := d.ps, ordered := a.w.ordered, way := a.w.way } : Wld) = d.w := by
      unfold AW.w; simp only; rw [l2.2.ord, l2.2.way]
    rw [this]
    rfl
end Go.Proofs.YtchmclllcdknjaaGreatDoor
