/-
  The law: the same deeds make the same.
-/
import Derived.Test.YtchmclllcdknjaaGreatDoorTrWorldG
namespace Go.Proofs.YtchmclllcdknjaaGreatDoor
open Enc

theorem replay_law {x : Int} {a b : List Deed} (ha : a.length ≤ 2 ^ 21) (hb : b.length ≤ 2 ^ 21) : parttop_TopReplay 4194304 x a b = some true := by
  obtain ⟨n, hn, h1, h6⟩ := few_law x
  have hg := GA.new ⟨h1, h6⟩
  have hfu : 200 < 4194304 := by omega
  generalize hF : 4194304 = fu at hfu
  -- the first run
  have run1 : Tot (rangeF (parttop_TopReplay_B0 fu a) a.length 0 ((newA n).w, ([] : List Int), (newA n).w.all)) fun z => ∃ es, z = ((stA fu a (newA n)).w, es, (stA fu a (newA n)).w.all) ∧ es.length = a.length ∧ GA (17 * a.length) (stA fu a (newA n)) ∧
      ∀ (j : Nat) d, a[j]? = some d → es[j]? = some (doM fu (stA fu (a.take j) (newA n)) d).2 := by
    refine Tot.rangeF (fun i z => ∃ es, z = ((stA fu (a.take i) (newA n)).w, es, (stA fu (a.take i) (newA n)).w.all) ∧ es.length = i ∧ GA (17 * i) (stA fu (a.take i) (newA n)) ∧ ∀ (j : Nat) d, j < i → a[j]? = some d → es[j]? = some (doM fu (stA fu (a.take j) (newA n)) d).2)
      ⟨[], rfl, rfl, hg, fun j d hj => by omega⟩ ?_ (fun z hz => ?_)
    · rintro i _ _ hi ⟨es, rfl, hl, hG, hes⟩
      have hi : i < a.length := by omega
      have hx : a[i]? = some a[i] := by simp [hi]
      generalize a[i] = d at hx
      obtain ⟨d1, d2⟩ := do_law hfu hG (by omega) d
      have et : a.take (i + 1) = a.take i ++ [d] := by rw [List.take_add_one, hx]; rfl
      have es1 : stA fu (a.take (i + 1)) (newA n) = (doM fu (stA fu (a.take i) (newA n)) d).1 := by rw [et, stA_snoc]
      rw [es1]
      generalize hA : stA fu (a.take i) (newA n) = A at hG d1 d2 hes
      unfold parttop_TopReplay_B0
      simp only
      rw [lat_nat, hx, Option.bind_some, show ({ A.w with all := A.w.all } : Wld) = A.w from rfl, d1, Option.bind_some, room_ok (by simp; omega), Option.bind_some, Tot.some_iff]
      refine ⟨_, rfl, by simp [hl], by rw [Nat.mul_add]; exact d2, fun j d' hj hd' => ?_⟩
      by_cases c : j = i
      · subst c
        rw [hx] at hd'
        rw [← Option.some.inj hd', hA, List.getElem?_append_right (by omega), hl]
        simp
      · rw [List.getElem?_append_left (by omega)]
        exact hes j d' (by omega) hd'
    · rw [Nat.zero_add, List.take_length] at hz
      obtain ⟨es, e1, e2, e3, e4⟩ := hz
      exact ⟨es, e1, e2, e3, fun j d hd => e4 j d (List.getElem?_eq_some_iff.1 hd).1 hd⟩
  obtain ⟨z, r1, es, rfl, hel, hGa, hes⟩ := run1
  -- the second
  have run2 : Tot (rangeM (parttop_TopReplay_B2 fu a (n : Int) (stA fu a (newA n)).w es (stA fu a (newA n)).w.all (a ++ b)) (a ++ b).length 0 ((newA n).w, (newA n).w.all)) fun o => ∃ s, o = .inl s := by
    refine Tot.rangeM (fun i z => z = ((stA fu ((a ++ b).take i) (newA n)).w, (stA fu ((a ++ b).take i) (newA n)).w.all) ∧ GA (17 * i) (stA fu ((a ++ b).take i) (newA n)) ∧ (stA fu ((a ++ b).take i) (newA n)).ps.length = n) ⟨rfl, hg, by simp [stA, newA]⟩ ?_ (fun z _ => ⟨z, rfl⟩)
    rintro i _ _ hi ⟨rfl, hG, hpl⟩
    have hi : i < (a ++ b).length := by omega
    have hil : i < a.length + b.length := by rw [← List.length_append]; exact hi
    have hx : (a ++ b)[i]? = some (a ++ b)[i] := by simp [hil]
    generalize (a ++ b)[i] = d at hx
    obtain ⟨d1, d2⟩ := do_law hfu hG (by omega) d
    have et : (a ++ b).take (i + 1) = (a ++ b).take i ++ [d] := by rw [List.take_add_one, hx]; rfl
    have es1 : stA fu ((a ++ b).take (i + 1)) (newA n) = (doM fu (stA fu ((a ++ b).take i) (newA n)) d).1 := by rw [et, stA_snoc]
    rw [es1]
    generalize hA : stA fu ((a ++ b).take i) (newA n) = A at hG d1 d2 hpl
    unfold parttop_TopReplay_B2
    simp only
    rw [lat_nat, hx, Option.bind_some, Tot.andThen_iff]
    have first : (bif (i : Int) == (a.length : Int) then ((upTo (n : Int)).bind fun nn116 => andThen (rangeM (parttop_TopReplay_B4 (stA fu a (newA n)).w (stA fu a (newA n)).w.all A.w A.w.all) nn116 0 ()) fun _ => some (.inl ())) else some (.inl ()) : Option (Unit ⊕ (Ctl (Wld × (List Procs)) Bool))) = some (.inl ()) := by
      by_cases c : i = a.length
      · have hAa : A = stA fu a (newA n) := by rw [← hA, c, List.take_left' rfl]
        rw [show ((i : Int) == (a.length : Int)) = true by simp [c], cond_true, upTo_ok (by omega), Option.bind_some, Int.toNat_natCast, ← hAa]
        have lp : Tot (rangeM (parttop_TopReplay_B4 A.w A.w.all A.w A.w.all) n 0 ()) fun o => ∃ s, o = .inl s := by
          refine Tot.rangeM (fun _ _ => True) trivial ?_ (fun z _ => ⟨z, rfl⟩)
          intro p _ _ hp _
          have hp : p < A.ps.length := by omega
          unfold parttop_TopReplay_B4
          rw [show ({ A.w with all := A.w.all } : Wld) = A.w from rfl, log_law hG (by omega) hp, Option.bind_some, Option.bind_some, eq_slices_Equal_api_Saying_api_Saying, Option.bind_some, decide_eq_true rfl]
          exact Tot.some_iff.2 (Tot.go_iff.2 trivial)
        obtain ⟨o, eo, s, rfl⟩ := lp
        rw [eo]; rfl
      · rw [show ((i : Int) == (a.length : Int)) = false by simp; omega]; rfl
    refine Tot.of_eq first ?_
    rw [Tot.inl_iff, show ({ A.w with all := A.w.all } : Wld) = A.w from rfl, d1, Option.bind_some]
    have hcmp : (bif decide ((i : Int) < (es.length : Int)) then ((lat es (i : Int)).bind fun x151 => some ((doM fu A d).2 != x151)) else some false) = some false := by
      by_cases c : i < a.length
      · have hxa : a[i]? = some d := by rw [List.getElem?_append_left c] at hx; exact hx
        have hAa : A = stA fu (a.take i) (newA n) := by rw [← hA, List.take_append_of_le_length (by omega)]
        rw [decide_eq_true (show (i : Int) < (es.length : Int) by omega), cond_true, lat_nat, hes i d hxa, Option.bind_some, ← hAa]
        simp
      · rw [decide_eq_false (show ¬ (i : Int) < (es.length : Int) by omega)]; rfl
    rw [hcmp, Option.bind_some, cond_false, Tot.some_iff]
    refine Tot.go_iff.2 ⟨rfl, by rw [Nat.mul_add]; exact d2, ?_⟩
    have := len_do fu A d
    omega
  obtain ⟨o, r2, s, rfl⟩ := run2
  have hw : parttop_works fu = some true := by rw [← hF]; exact works_law
  unfold parttop_TopReplay
  rw [hw, Option.bind_some]
  simp only [Bool.not_true, cond_false]
  rw [hn, Option.bind_some, new_law ⟨h1, h6⟩, Option.bind_some, Option.bind_some]
  simp only [bne_self_eq_false, cond_false, Option.bind_some]
  rw [r1, Option.bind_some]
  simp only
  rw [eq_slices_Concat_api_Deed_api_Deed (by omega), Option.bind_some, r2, andThen_inl]
theorem replay_up (x : Int) (a b : List Deed) {p : Prop} (_ : p) (ha : a.length ≤ 1048576 ∧ ∀ r ∈ a, Bnd.ok 1048576 r) (hb : b.length ≤ 1048576 ∧ ∀ r ∈ b, Bnd.ok 1048576 r) : ∃ fu, parttop_TopReplay fu x a b = some true :=
  ⟨4194304, replay_law (by have := ha.1; omega) (by have := hb.1; omega)⟩
end Go.Proofs.YtchmclllcdknjaaGreatDoor
