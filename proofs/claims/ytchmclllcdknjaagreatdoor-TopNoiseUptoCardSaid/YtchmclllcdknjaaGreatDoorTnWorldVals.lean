/-
  The values of a process.
-/
import Derived.Test.YtchmclllcdknjaaGreatDoorTnWorldG
import Derived.Test.YtchmclllcdknjaaGreatDoorTnSameRead2
namespace Go.Proofs.YtchmclllcdknjaaGreatDoor
open Enc

theorem vals_loop (l : List Saying) (hl : l.length ≤ 2 ^ 38) : ∀ (k i : Nat) (z : List Str), i + k = l.length → z.length ≤ i → rangeF (world_World_Vals_B0 (l, 0)) k i z = some (z ++ (l.drop i).map (·.Text))
  | 0, i, z, hk, _ => by
    rw [List.drop_of_length_le (by omega)]
    show some z = some (z ++ [])
    rw [List.append_nil]
  | k + 1, i, z, hk, hz => by
    have hi : i < l.length := by omega
    have hx : l[i]? = some l[i] := by simp [hi]
    have hb : world_World_Vals_B0 (l, 0) i z = some (z ++ [l[i].Text]) := by
      unfold world_World_Vals_B0
      simp only
      rw [lat_nat, hx, Option.bind_some, room_ok (by simp; omega), Option.bind_some]
    unfold rangeF
    rw [hb, Option.bind_some, vals_loop l hl k (i + 1) _ (by omega) (by simp; omega), List.drop_eq_getElem_cons hi, List.map_cons, List.append_assoc]
    rfl
def valV (fu : Nat) (l : List Saying) : Vector Int 10 := ((same_Run fu (Vector.replicate 10 (0 : Int)) (l.map (·.Text))).getD (Vector.replicate 10 0, 0)).1
theorem vals_law {B fu : Nat} {a : AW} (hfu : 2 ^ 21 + 400 < fu) (h : GA B a) (hB : B ≤ 2 ^ 35) {i : Nat} (hi : i < a.ps.length) : world_World_Vals fu a.w (i : Int) = some (valV fu a.ps[i].log, 0) := by
  have hp := h.ps a.ps[i] (List.getElem_mem hi)
  have hlog := hp.log
  obtain ⟨r, r1, _⟩ := run_law (fu := fu) (v := Vector.replicate 10 (0 : Int)) (l := a.ps[i].log.map (·.Text)) (fun s hs => by
    obtain ⟨x, hx, rfl⟩ := List.mem_map.1 hs
    have := hp.txt x hx
    omega) hfu
  have hl := vals_loop a.ps[i].log (by omega) a.ps[i].log.length 0 [] (by omega) (by simp)
  rw [List.drop_zero, List.nil_append] at hl
  unfold world_World_Vals
  rw [log_law h hB hi, Option.bind_some]
  simp only [bne_self_eq_false, cond_false]
  rw [hl, Option.bind_some, r1, Option.bind_some]
  unfold valV
  rw [r1]
  rfl
theorem rangeF_post {σ : Type} {body : Nat → σ → Option σ} (I : Nat → σ → Prop) : ∀ (k i : Nat) (s t : σ), rangeF body k i s = some t → I i s → (∀ j s s', j < i + k → I j s → body j s = some s' → I (j + 1) s') → I (i + k) t
  | 0, i, s, t, h, hI, _ => by
    have : s = t := Option.some.inj h
    rw [← this]; exact hI
  | k + 1, i, s, t, h, hI, hb => by
    have h : (body i s).bind (fun s' => rangeF body k (i + 1) s') = some t := h
    obtain ⟨s', h1, h2⟩ := Option.bind_eq_some_iff.1 h
    have := rangeF_post I k (i + 1) s' t h2 (hb i s s' (by omega) hI h1) fun j s s' hj => hb j s s' (by omega)
    rwa [show i + (k + 1) = i + 1 + k by omega]
theorem run_bad {v : Vector Int 10} {l : List Str} {fu : Nat} {r : Vector Int 10 × Int} (hl : l.length ≤ 2 ^ 40) (h : same_Run fu v l = some r) : r.2 ≤ l.length := by
  unfold same_Run at h
  obtain ⟨⟨n, z⟩, h1, h2⟩ := Option.bind_eq_some_iff.1 h
  have h3 := rangeF_post (fun j (s : Int × Vector Int 10) => 0 ≤ s.1 ∧ s.1 ≤ j) _ _ _ _ h1 ⟨Int.le_refl _, Int.le_refl _⟩ (by
    rintro j ⟨m, y⟩ s' hj ⟨q1, q2⟩ hb
    simp only at q1 q2
    unfold same_Run_B0 at hb
    obtain ⟨x, _, hb⟩ := Option.bind_eq_some_iff.1 hb
    obtain ⟨c, _, hb⟩ := Option.bind_eq_some_iff.1 hb
    cases hc : (c.2 != (0 : Int)) with
    | true =>
      rw [hc, cond_true] at hb
      rw [← Option.some.inj hb]
      simp only
      rw [w64_id (by omega) (by omega)]
      omega
    | false =>
      rw [hc, cond_false] at hb
      obtain ⟨d, _, hb⟩ := Option.bind_eq_some_iff.1 hb
      rw [← Option.some.inj hb]
      simp only
      omega)
  rw [← Option.some.inj h2]
  simp only at h3 ⊢
  omega
end Go.Proofs.YtchmclllcdknjaaGreatDoor
