/-
  One voice: what comes, what is told, what changes.
-/
import Derived.Test.YtchmclllcdknjaaGreatDoorTvWorldV
namespace Go.Proofs.YtchmclllcdknjaaGreatDoor
open Enc

theorem foldI_at {τ α : Type} {f : τ → Nat → α → τ} (I : Nat → τ → Prop) {l : List α} (h : ∀ (i : Nat) x b, l[i]? = some x → I i b → I (i + 1) (f b i x)) : ∀ (k i : Nat) (b : τ), i + k = l.length → I i b → I l.length (foldI f i (l.drop i) b)
  | 0, i, b, hk, hI => by
    rw [List.drop_of_length_le (by omega)]
    rw [← hk]; exact hI
  | k + 1, i, b, hk, hI => by
    have hi : i < l.length := by omega
    have hx : l[i]? = some l[i] := by simp [hi]
    rw [List.drop_eq_getElem_cons hi]
    exact foldI_at I h k (i + 1) _ (by omega) (h i _ b hx hI)
theorem PV.order {base : List Saying} {a : AW} (h : PV base a) (fu : Nat) (n : Note) : PV base (orderM fu a n) := by
  unfold orderM
  cases hx : a.ps[n.From.toNat]? with
  | none => exact h
  | some x =>
    simp only
    cases decide (n.Seq > 16777214) with
    | true => exact h
    | false => exact foldI_inv (PV base) _ 0 _ (fun b j t _ hb => hb.ordOne ..) (h.set (y := { x with orders := (takeV fu x.orders ⟨n.Seq, n.Text⟩).1 }) hx rfl fun q => q)
theorem PV.askGo {base : List Saying} (s f : Int) : ∀ (k i : Nat) {b : AW}, PV base b → PV base (askGo s f k i b)
  | 0, _, _, h => h
  | k + 1, i, b, h => by
    unfold Go.Proofs.YtchmclllcdknjaaGreatDoor.askGo
    cases hm : b.ord[i]? with
    | none => exact h
    | some m => exact PV.askGo s f k (i + 1) (h.send fun _ => ⟨m, by rw [Int.toNat_natCast]; exact hm, rfl⟩)
theorem hear_get {b : AW} {i : Nat} {x : Procs} {m : Int × Int × Str} (hx : b.ps[i]? = some x) (hg : G3 m) : ∃ f, hearM b (i : Int) (enc3 m) = { b with ps := b.ps.set i { x with log := x.log ++ [⟨m.1, m.2.2⟩], from_ := f } } := by
  unfold hearM
  rw [Int.toNat_natCast, hx, prs_enc hg]
  exact ⟨_, rfl⟩
theorem PV.take {base : List Saying} {B fu : Nat} {a : AW} {n : Note} (h : PV base a) (hG : GA B a) (hfu : 200 < fu) (hn : GN n) (hk : n.Kind = 2) (hv : n.View = a.view.Num) (hnv : NV a.view.Num a.ord n) (ha : act a n.To = true) : PV base (takeM fu a n) := by
  have hkn : knw a n.To = true := by unfold act at ha; rw [Bool.and_eq_true, Bool.and_eq_true] at ha; exact ha.1.1
  obtain ⟨i, hi, hil⟩ := knw_iff.1 hkn
  have hx : a.ps[i]? = some a.ps[i] := by simp [hil]
  generalize a.ps[i] = x at hx
  have hp := hG.ps x (List.mem_of_getElem? hx)
  obtain ⟨⟨t1, t2⟩, t3, t4⟩ := h.log i x hx (by rw [← hi]; exact ha)
  obtain ⟨mn, hmn, htn⟩ := hnv.2 hk hv
  unfold takeM
  rw [hi, Int.toNat_natCast, hx]
  simp only
  by_cases hs : n.Seq > 16777214
  · rw [decide_eq_true hs]; exact h
  · have hsq := hn.1.seq
    have hml := enc3_len (hG.ord.2 mn (List.mem_of_getElem? hmn))
    obtain ⟨_, k2, _, _⟩ := take_v (r := x.to) (p := ⟨n.Seq, n.Text⟩) hfu hp.to.1 ⟨hsq.1, by simp only; omega⟩ (by simp only; rw [htn]; omega)
    rw [decide_eq_false hs]
    generalize takeV fu x.to ⟨n.Seq, n.Text⟩ = r at k2
    obtain ⟨o, ts⟩ := r
    simp only at k2
    rw [cond_false]
    simp only
    obtain ⟨N, hN⟩ := int_nat t1
    have hts : ∀ (j : Nat) t, ts[j]? = some t → ∃ m, a.ord[N + j]? = some m ∧ t = enc3 m ∧ G3 m := fun j t hj => by
      rcases k2.from_ j t hj with q | q
      · obtain ⟨m, e1, e2⟩ := t4 _ q
        refine ⟨m, ?_, e2, hG.ord.2 m (List.mem_of_getElem? e1)⟩
        have : ((x.to.Next + (j : Int))).toNat = N + j := by omega
        simp only at e1; rw [this] at e1; exact e1
      · have q1 : x.to.Next + (j : Int) = n.Seq := by injection q
        have q2 : t = n.Text := by injection q
        refine ⟨mn, ?_, q2.trans htn, hG.ord.2 mn (List.mem_of_getElem? hmn)⟩
        have : n.Seq.toNat = N + j := by omega
        rw [this] at hmn; exact hmn
    have fin := foldI_at (f := fun (b : AW) (_ : Nat) t => hearM b (i : Int) t) (fun j b => b.view = a.view ∧ b.ord = a.ord ∧ b.way = a.way ∧ (∀ k : Nat, k ≠ i → b.ps[k]? = a.ps[k]?) ∧ ∃ y, b.ps[i]? = some y ∧ y.fallen = x.fallen ∧ y.to = o ∧ y.log = x.log ++ readL ((a.ord.drop N).take j)) (l := ts) (fun j t b hj hb => by
      obtain ⟨b1, b2, b3, b4, y, b5, b6, b7, b8⟩ := hb
      obtain ⟨m, e1, rfl, e3⟩ := hts j t hj
      obtain ⟨f, hf⟩ := hear_get b5 e3
      rw [hf]
      have hil2 := (List.getElem?_eq_some_iff.1 b5).1
      refine ⟨b1, b2, b3, fun k hk => ?_, _, List.getElem?_set_self hil2, b6, b7, ?_⟩
      · show (b.ps.set i _)[k]? = _
        rw [List.getElem?_set_ne (fun e => hk e.symm)]; exact b4 k hk
      · show y.log ++ [_] = _
        have hd : (a.ord.drop N)[j]? = some m := by rw [List.getElem?_drop]; exact e1
        rw [b8, List.take_add_one, hd]
        unfold readL
        rw [List.map_append, List.append_assoc]
        rfl) ts.length 0 { a with ps := a.ps.set i { x with to := o } } (by omega) ⟨rfl, rfl, rfl, fun k hk => by
          show (a.ps.set i _)[k]? = _
          rw [List.getElem?_set_ne (fun e => hk e.symm)], _, List.getElem?_set_self hil, rfl, rfl, by simp [readL]⟩
    rw [List.drop_zero] at fin
    generalize foldI (fun (b : AW) (_ : Nat) t => hearM b (i : Int) t) 0 ts { a with ps := a.ps.set i { x with to := o } } = d at fin
    obtain ⟨b1, b2, b3, b4, y, b5, b6, b7, b8⟩ := fin
    have hnx := k2.next
    have hle : N + ts.length ≤ a.ord.length := by
      rcases Nat.eq_zero_or_pos ts.length with e | e
      · omega
      · have hg : ts[ts.length - 1]? = some (ts[ts.length - 1]'(by omega)) := by simp
        obtain ⟨m, e1, _⟩ := hts _ _ hg
        have := (List.getElem?_eq_some_iff.1 e1).1
        omega
    have hty : Told base a.ord y := by
      refine ⟨by rw [b7]; omega, ?_, fun p hp => ?_⟩
      · rw [b7, b8, t3, show o.Next.toNat = N + ts.length by omega, show x.to.Next.toNat = N by omega, List.append_assoc]
        unfold readL
        rw [← List.map_append, ← List.take_add]
      · rw [b7] at hp
        rcases (k2.rng p hp).2.2 with q | q
        · exact t4 p q
        · rw [q]; exact ⟨mn, hmn, htn⟩
    refine ⟨fun j z hz haz => ?_, fun m hm => ?_⟩
    · rw [b2]
      by_cases c : j = i
      · subst c; rw [b5] at hz; rw [← Option.some.inj hz]; exact hty
      · have hz' := hz
        rw [b4 j c] at hz'
        refine h.log j z hz' ?_
        rw [act_get hz, b1] at haz
        rw [act_get hz']; exact haz
    · rw [b1, b2]; rw [b3] at hm; exact h.way m hm
end Go.Proofs.YtchmclllcdknjaaGreatDoor
