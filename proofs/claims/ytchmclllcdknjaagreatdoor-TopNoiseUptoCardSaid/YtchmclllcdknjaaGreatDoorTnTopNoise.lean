/-
  The law: what can't be read does nothing to the values, and what is said twice counts twice.
-/
import Derived.Test.YtchmclllcdknjaaGreatDoorTnWorldN
import Derived.Test.YtchmclllcdknjaaGreatDoorTnWorldVals
namespace Go.Proofs.YtchmclllcdknjaaGreatDoor
open Enc

theorem moves_law {n fu B : Nat} {T : List Str} {c : AW} (hfu : 200 < fu) (hB : B + 340 ≤ 2 ^ 34) (hM : MidN n T 20 c) (hG : GA B c) :
    Tot (rangeM (parttop_TopNoise_B2 fu) 20 0 (c.w, c.w.all, c.w.ordered)) fun o => ∃ d : AW, o = .inl (d.w, d.w.all, d.w.ordered) ∧ Quiet n T d ∧ GA (B + 340) d := by
  refine Tot.rangeM (fun j z => ∃ d : AW, z = (d.w, d.w.all, d.w.ordered) ∧ MidN n T (20 - j) d ∧ GA (B + 17 * j) d) ⟨c, rfl, hM, hG⟩ ?_ (fun z hz => ?_)
  · rintro j _ _ hj ⟨d, rfl, hMd, hGd⟩
    have hstep := MidN.step (fu := fu) hfu (m := 20 - (j + 1)) (by rw [show 20 - (j + 1) + 1 = 20 - j by omega]; exact hMd)
    obtain ⟨m1, m2⟩ := move_law hfu hGd (by omega) 0 1
    unfold parttop_TopNoise_B2 world_World_Way
    simp only
    rw [show ({ d.w with all := d.w.all, ordered := d.w.ordered } : Wld) = d.w from rfl, Option.bind_some, show (d.w.way.length : Int) = (d.way.length : Int) by show ((d.way.map packS).length : Int) = _; rw [List.length_map]]
    rcases hstep with ⟨h1, h2⟩ | ⟨h1, h2, h3⟩
    · rw [h1, decide_eq_false (by simp), cond_false, Tot.some_iff]
      exact Tot.go_iff.2 ⟨d, rfl, h2, hGd.mono (by omega)⟩
    · rw [decide_eq_true (by omega), cond_true, m1, Option.bind_some]
      simp only [h2, bne_self_eq_false, cond_false]
      rw [Tot.some_iff]
      exact Tot.go_iff.2 ⟨_, rfl, h3, by rw [show B + 17 * (j + 1) = B + 17 * j + 17 by omega]; exact m2⟩
  · obtain ⟨d, rfl, h1, h2⟩ := hz
    exact ⟨d, rfl, MidN.zero h1, h2⟩
theorem noise_law {x : Int} {l : List Str} : parttop_TopNoise 4194304 x l = some true := by
  obtain ⟨n, hn, h1, h6⟩ := few_law x
  have hfu : 2 ^ 21 + 400 < 4194304 := by omega
  have hw := works_law
  generalize hF : 4194304 = fu at hfu hw
  unfold parttop_TopNoise
  rw [hw, Option.bind_some]
  simp only [Bool.not_true, cond_false, Option.bind_some]
  by_cases hl : (l.length : Int) > 10000
  · rw [decide_eq_true hl]; rfl
  rw [decide_eq_false hl, cond_false, hn, Option.bind_some, new_law ⟨h1, h6⟩, Option.bind_some]
  simp only [bne_self_eq_false, cond_false]
  have run1 : Tot (rangeM (parttop_TopNoise_B0 fu l (n : Int)) l.length 0 ((newA n).w, ([] : List Str), (newA n).w.all, (newA n).w.ordered)) fun o => ∃ (b : AW) (T : List Str), o = .inl (b.w, T, b.w.all, b.w.ordered) ∧ Quiet n T b ∧ GA (357 * l.length) b ∧ T.length ≤ l.length ∧ ∀ s ∈ T, s.length ≤ 150 := by
    refine Tot.rangeM (fun i z => ∃ (b : AW) (T : List Str), z = (b.w, T, b.w.all, b.w.ordered) ∧ Quiet n T b ∧ GA (357 * i) b ∧ T.length ≤ i ∧ ∀ s ∈ T, s.length ≤ 150) ⟨newA n, [], rfl, Quiet.new, GA.new ⟨h1, h6⟩, Nat.le_refl _, fun s hs => by cases hs⟩ ?_ (fun z hz => ?_)
    · rintro i _ _ hi ⟨b, T, rfl, hQ, hG, hT, hS⟩
      have hi : i < l.length := by omega
      have hx : l[i]? = some l[i] := by simp [hi]
      generalize l[i] = t at hx
      have hm : i % n < n := Nat.mod_lt _ (by omega)
      have ht : (i : Int).tmod (n : Int) = ((i % n : Nat) : Int) := by rw [Int.tmod_eq_emod_of_nonneg (by omega)]; rfl
      have hord := say_ord b ((i % n : Nat) : Int) t
      have hs := say_law hG ((i % n : Nat) : Int) t
      have hGs := hG.say ((i % n : Nat) : Int) t
      have key : ∃ (T' : List Str), MidN n T' 20 (sayM b ((i % n : Nat) : Int) t).1 ∧ T'.length ≤ i + 1 ∧ (∀ s ∈ T', s.length ≤ 150) ∧ ((bif (sayM b ((i % n : Nat) : Int) t).2 == (0 : Int) then ((room T ([t] : List Str)).bind fun _ => some (T ++ [t])) else some T) = some T') := by
        by_cases h150 : t.length ≤ 150
        · obtain ⟨s1, q, s2, s3⟩ := say_noise ⟨h1, h6⟩ hQ (by omega) hm h150
          refine ⟨T ++ [t], .inr ⟨T, t, i % n, q, rfl, s2, .inr ⟨by omega, s3⟩⟩, by simp; omega, fun s hs => ?_, ?_⟩
          · rcases List.mem_append.1 hs with c | c
            · exact hS s c
            · rw [List.mem_singleton.1 c]; exact h150
          · rw [s1, room_ok (by simp; omega)]; rfl
        · have e := say_long ⟨h1, h6⟩ hQ hm h150
          rw [e]
          exact ⟨T, .inl hQ, by omega, hS, rfl⟩
      obtain ⟨T', k1, k2, k3, k4⟩ := key
      have hnz : nz (n : Int) = some () := by unfold nz; rw [if_neg (by omega)]
      unfold parttop_TopNoise_B0
      simp only
      rw [lat_nat, hx, Option.bind_some, hnz, Option.bind_some, ht, show ({ b.w with all := b.w.all, ordered := b.w.ordered } : Wld) = b.w from rfl, hs, Option.bind_some]
      simp only
      generalize sayM b ((i % n : Nat) : Int) t = r at hord hGs k1 k4
      have eo : b.w.ordered = r.1.w.ordered := by show b.ord.map enc3 = r.1.ord.map enc3; rw [hord]
      have ejoin : (bif r.2 == (0 : Int) then ((room T ([t] : List Str)).bind fun _ => some (({ r.1.w with all := r.1.w.all, ordered := b.w.ordered, way := r.1.w.way } : Wld), r.1.w.way, T ++ ([t] : List Str), r.1.w.all)) else some (({ r.1.w with all := r.1.w.all, ordered := b.w.ordered, way := r.1.w.way } : Wld), r.1.w.way, T, r.1.w.all)) = some (r.1.w, r.1.w.way, T', r.1.w.all) := by
        rw [eo]
        revert k4
        cases (r.2 == (0 : Int)) with
        | true =>
          simp only [cond_true]
          cases room T ([t] : List Str) with
          | none => intro h; cases h
          | some u => simp only [Option.bind_some]; intro h; rw [Option.some.inj h]
        | false =>
          simp only [cond_false]
          intro h; rw [Option.some.inj h]
      rw [ejoin, Option.bind_some]
      simp only
      rw [eo, show ({ r.1.w with all := r.1.w.all, ordered := r.1.w.ordered, way := r.1.w.way } : Wld) = r.1.w from rfl]
      obtain ⟨o, m1, d, rfl, m2, m3⟩ := moves_law (fu := fu) (by omega) (by omega) k1 hGs
      rw [m1, andThen_inl, Tot.some_iff]
      exact Tot.go_iff.2 ⟨d, T', rfl, m2, by rw [Nat.mul_add]; exact m3.mono (by omega), k2, k3⟩
    · obtain ⟨b, T, rfl, hz⟩ := hz
      rw [Nat.zero_add] at hz
      exact ⟨b, T, rfl, hz⟩
  obtain ⟨o, r1, b, T, rfl, hQ, hG, hT, hS⟩ := run1
  have hpl := hQ.1.len
  have e0 : ((newA n).w, 0).1 = (newA n).w := rfl
  rw [r1, andThen_inl]
  simp only
  obtain ⟨r, rr, _⟩ := run_law (fu := fu) (v := Vector.replicate 10 (0 : Int)) (l := T) (fun s hs => by have := hS s hs; omega) hfu
  have hbad := run_bad (by omega) rr
  rw [rr, Option.bind_some, upTo_ok (by omega), Option.bind_some, Int.toNat_natCast]
  have run2 : Tot (rangeM (parttop_TopNoise_B4 fu b.w T b.w.all b.w.ordered r) n 0 ()) fun o => ∃ s, o = .inl s := by
    refine Tot.rangeM (fun _ _ => True) trivial ?_ (fun z _ => ⟨z, rfl⟩)
    intro i _ _ hi _
    have hi : i < b.ps.length := by omega
    have hp := hQ.1.ps i b.ps[i] (by simp [hi])
    have hlg : b.ps[i].log.length = T.length := by rw [← hp.log, List.length_map]
    have hv : valV fu b.ps[i].log = r.1 := by unfold valV; rw [hp.log, rr]; rfl
    unfold parttop_TopNoise_B4
    rw [show ({ b.w with all := b.w.all, ordered := b.w.ordered } : Wld) = b.w from rfl, log_law hG (by omega) hi, Option.bind_some, vals_law hfu hG (by omega) hi, Option.bind_some]
    simp only [bne_self_eq_false, cond_false, Option.bind_some, hlg, hv, decide_true, Bool.not_true]
    rw [decide_eq_false (by omega), cond_false, Tot.some_iff]
    exact Tot.go_iff.2 trivial
  obtain ⟨o, r2, s, rfl⟩ := run2
  rw [r2, andThen_inl]
theorem noise_up (x : Int) (a : List Str) {p : Prop} (_ : p) (_ : a.length ≤ 1048576 ∧ ∀ r ∈ a, Bnd.ok 1048576 r) : ∃ fu, parttop_TopNoise fu x a = some true :=
  ⟨4194304, noise_law⟩
end Go.Proofs.YtchmclllcdknjaaGreatDoor
