/-
  The law: who has been told as much has the same values.
-/
import Derived.Test.YtchmclllcdknjaaGreatDoorTvWorldS
import Derived.Test.YtchmclllcdknjaaGreatDoorTvSameRead2
namespace Go.Proofs.YtchmclllcdknjaaGreatDoor
open Enc

theorem vals_loop (l : List Saying) (hl : l.length ≤ 2 ^ 38) : ∀ (k i : Nat) (z : List Str), i + k = l.length → z.length ≤ i → rangeF (world_World_Vals_B0 (l, 0)) k i z = some (z ++ (l.drop i).map (·.Text))
  | 0, i, z, hk, _ => by
    rw [List.drop_of_length_le (by omega)]
    show some z = some (z ++ [])
    rw [List.append_nil]
  | k + 1, i, z, hk, hz => by
    have hi : i < l.length := by omega
    have hx : l[i]? = some l[i] := by simp [hi]
    have hb : world_World_Vals_B0 (l, 0) i z = some (z ++ [l[i].Text]) := by
      unfold world_World_Vals_B0
      simp only
      rw [lat_nat, hx, Option.bind_some, room_ok (by simp; omega), Option.bind_some]
    unfold rangeF
    rw [hb, Option.bind_some, vals_loop l hl k (i + 1) _ (by omega) (by simp; omega), List.drop_eq_getElem_cons hi, List.map_cons, List.append_assoc]
    rfl
def valV (fu : Nat) (l : List Saying) : Vector Int 10 := ((same_Run fu (Vector.replicate 10 (0 : Int)) (l.map (·.Text))).getD (Vector.replicate 10 0, 0)).1
theorem vals_law {B fu : Nat} {a : AW} (hfu : 2 ^ 21 + 400 < fu) (h : GA B a) (hB : B ≤ 2 ^ 35) {i : Nat} (hi : i < a.ps.length) : world_World_Vals fu a.w (i : Int) = some (valV fu a.ps[i].log, 0) := by
  have hp := h.ps a.ps[i] (List.getElem_mem hi)
  have hlog := hp.log
  obtain ⟨r, r1, _⟩ := run_law (fu := fu) (v := Vector.replicate 10 (0 : Int)) (l := a.ps[i].log.map (·.Text)) (fun s hs => by
    obtain ⟨x, hx, rfl⟩ := List.mem_map.1 hs
    have := hp.txt x hx
    omega) hfu
  have hl := vals_loop a.ps[i].log (by omega) a.ps[i].log.length 0 [] (by omega) (by simp)
  rw [List.drop_zero, List.nil_append] at hl
  unfold world_World_Vals
  rw [log_law h hB hi, Option.bind_some]
  simp only [bne_self_eq_false, cond_false]
  rw [hl, Option.bind_some, r1, Option.bind_some]
  unfold valV
  rw [r1]
  rfl
theorem there_law {a : AW} {es : List Int} (hF : Fell a es) {i : Nat} (hi : i < a.ps.length) : parttop_there a.w es (i : Int) = some (act a (i : Int)) := by
  have hx : a.ps[i]? = some a.ps[i] := by simp [hi]
  have hf : (fln a)[i]? = some a.ps[i].fallen := by unfold fln; rw [List.getElem?_map, hx]; rfl
  have hm := hF i _ hf
  rw [act_get hx]
  unfold parttop_there world_World_View
  rw [Option.bind_some, cnt_nat, Option.bind_some, eq_slices_Contains_int_int]
  have e : ((((a.w.view.Members >>> i) &&& (1 : BitVec 8)).toNat : Int) == ((1 : BitVec 8).toNat : Int)) = isIn a.view.Members i := rfl
  rw [e, Option.bind_some]
  have hd : es.contains (i : Int) = a.ps[i].fallen := by
    rw [Bool.eq_iff_iff, List.contains_iff_mem]; exact hm.symm
  rw [hd]
  cases isIn a.view.Members i <;> rfl
theorem voice_law {x : Int} {ds : List Deed} (hd : ds.length ≤ 2 ^ 21) : parttop_TopVoice 4194304 x ds = some true := by
  obtain ⟨n, hn, h1, h6⟩ := few_law x
  have hfu : 2 ^ 21 + 400 < 4194304 := by omega
  have hw := works_law
  generalize hF : 4194304 = fu at hfu hw
  have run1 : Tot (rangeF (parttop_TopVoice_B0 fu ds) ds.length 0 ((newA n).w, ([] : List Int), (newA n).w.all)) fun z => ∃ es b base, z = (b.w, es, b.w.all) ∧ es.length ≤ ds.length ∧ GA (17 * ds.length) b ∧ PV base b ∧ Fell b es ∧ b.ps.length = n := by
    refine Tot.rangeF (fun i z => ∃ es b base, z = (b.w, es, b.w.all) ∧ es.length ≤ i ∧ GA (17 * i) b ∧ PV base b ∧ Fell b es ∧ b.ps.length = n) ⟨[], newA n, [], rfl, Nat.le_refl _, GA.new ⟨h1, h6⟩, PV.new, Fell.new, by simp [newA]⟩ ?_ (fun z hz => by rwa [Nat.zero_add] at hz)
    rintro i _ _ hi ⟨es, b, base, rfl, hl, hG, hP, hFe, hpl⟩
    have hi : i < ds.length := by omega
    have hx : ds[i]? = some ds[i] := by simp [hi]
    generalize ds[i] = d at hx
    obtain ⟨d1, d2⟩ := do_law (fu := fu) (by omega) hG (by omega) d
    obtain ⟨base', hP'⟩ := hP.do hG (fu := fu) (by omega) d
    have hF' := hFe.do (fu := fu) d
    have hlen := len_do fu b d
    unfold parttop_TopVoice_B0
    simp only
    rw [lat_nat, hx, Option.bind_some, show ({ b.w with all := b.w.all } : Wld) = b.w from rfl, d1, Option.bind_some, and_some, Option.bind_some]
    simp only
    cases hc : ((doM fu b d).2 == 0 && d.Kind == 4) with
    | true =>
      rw [hc, if_pos rfl] at hF'
      rw [cond_true, room_ok (by simp; omega), Option.bind_some, Tot.some_iff]
      exact ⟨_, (doM fu b d).1, base', rfl, by simp; omega, by rw [Nat.mul_add]; exact d2, hP', hF', by omega⟩
    | false =>
      rw [hc, if_neg (by simp)] at hF'
      rw [cond_false, Tot.some_iff]
      exact ⟨_, (doM fu b d).1, base', rfl, by omega, by rw [Nat.mul_add]; exact d2, hP', hF', by omega⟩
  obtain ⟨z, r1, es, b, base, rfl, hel, hG, hP, hFe, hpl⟩ := run1
  have run2 : Tot (rangeM (parttop_TopVoice_B2 fu (n : Int) b.w es b.w.all) n 0 ()) fun o => ∃ s, o = .inl s := by
    refine Tot.rangeM (fun _ _ => True) trivial ?_ (fun z _ => ⟨z, rfl⟩)
    intro i _ _ hi _
    have hi : i < b.ps.length := by omega
    unfold parttop_TopVoice_B2
    rw [show ({ b.w with all := b.w.all } : Wld) = b.w from rfl, log_law hG (by omega) hi, Option.bind_some, vals_law hfu hG (by omega) hi, Option.bind_some]
    simp only [bne_self_eq_false, cond_false, Option.bind_some]
    rw [upTo_ok (by omega), Option.bind_some, Int.toNat_natCast, Tot.andThen_iff]
    refine Tot.rangeM (fun _ _ => True) trivial ?_ (fun z _ => Tot.inl_iff.2 (Tot.some_iff.2 (Tot.go_iff.2 trivial)))
    intro j _ _ hj _
    have hj : j < b.ps.length := by omega
    unfold parttop_TopVoice_B4
    rw [show ({ b.w with all := b.w.all } : Wld) = b.w from rfl, log_law hG (by omega) hj, Option.bind_some, vals_law hfu hG (by omega) hj, Option.bind_some, there_law hFe hi, Option.bind_some, there_law hFe hj, Option.bind_some, and_some, Option.bind_some, and_some, Option.bind_some]
    simp only
    rw [and_some, Option.bind_some]
    have hfin : (((act b (i : Int) && act b (j : Int)) && ((b.ps[i].log.length : Int) == (b.ps[j].log.length : Int))) && !(decide (valV fu b.ps[i].log = valV fu b.ps[j].log))) = false := by
      rw [Bool.eq_false_iff]
      intro q
      rw [Bool.and_eq_true, Bool.and_eq_true, Bool.and_eq_true] at q
      obtain ⟨⟨⟨q1, q2⟩, q3⟩, q4⟩ := q
      have he := hP.same (i := i) (j := j) (x := b.ps[i]) (y := b.ps[j]) (by simp [hi]) (by simp [hj]) q1 q2 (by have := beq_iff_eq.1 q3; omega)
      rw [he] at q4
      simp at q4
    rw [hfin, cond_false, Tot.some_iff]
    exact Tot.go_iff.2 trivial
  obtain ⟨o, r2, s, rfl⟩ := run2
  unfold parttop_TopVoice
  rw [hw, Option.bind_some]
  simp only [Bool.not_true, cond_false]
  rw [hn, Option.bind_some, new_law ⟨h1, h6⟩, Option.bind_some]
  simp only [bne_self_eq_false, cond_false]
  rw [r1, Option.bind_some]
  simp only
  rw [upTo_ok (by omega), Option.bind_some, Int.toNat_natCast, r2, andThen_inl]
theorem voice_up (x : Int) (a : List Deed) {p : Prop} (_ : p) (ha : a.length ≤ 1048576 ∧ ∀ r ∈ a, Bnd.ok 1048576 r) : ∃ fu, parttop_TopVoice fu x a = some true :=
  ⟨4194304, voice_law (by have := ha.1; omega)⟩
end Go.Proofs.YtchmclllcdknjaaGreatDoor
