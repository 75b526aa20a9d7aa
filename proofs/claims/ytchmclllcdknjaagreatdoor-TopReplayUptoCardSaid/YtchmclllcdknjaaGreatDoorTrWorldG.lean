/-
  The code's world: how it begins, what is read off it, that it works.
-/
import Derived.Test.YtchmclllcdknjaaGreatDoorTrWorldF
namespace Go.Proofs.YtchmclllcdknjaaGreatDoor
open Enc

def newA (n : Nat) : AW := ⟨⟨0, ((1 : BitVec 8) <<< n) - (1 : BitVec 8)⟩, List.replicate n Procs.zero, [], []⟩
theorem new_law {n : Nat} (h : 1 ≤ n ∧ n ≤ 6) : world_New (n : Int) = some ((newA n).w, 0) := by
  unfold world_New
  have hm : mkLen (n : Int) = some n := by unfold mkLen; rw [if_pos (by omega)]; rfl
  rw [winn_eq, Option.bind_some, decide_eq_true (show (n : Int) ≥ 1 by omega), decide_eq_true (show (n : Int) ≤ 6 by omega), cnt_nat, hm]
  rfl
theorem GP.zero : GP 0 Procs.zero := ⟨Nat.le_refl _, ⟨Int.le_refl _, by show (0 : Int) + ((0 : Nat) : Int) ≤ _; omega⟩, ⟨Nat.zero_le _, fun t ht => by cases ht⟩, ⟨good0, fun p hp => by cases hp⟩, ⟨good0, fun p hp => by cases hp⟩⟩
theorem GA.new {n : Nat} (h : 1 ≤ n ∧ n ≤ 6) : GA 0 (newA n) := by
  refine ⟨by simpa [newA] using h, fun x hx => ?_, ⟨Nat.le_refl _, fun m hm => by cases hm⟩, ⟨Nat.zero_le _, fun m hm => by cases hm⟩, ⟨Int.le_refl _, by show (0 : Int) ≤ _; omega⟩⟩
  have := (List.mem_replicate.1 hx).2
  rw [this]; exact GP.zero
theorem log_law {B : Nat} {a : AW} (h : GA B a) (hB : B ≤ 2 ^ 35) {i : Nat} (hi : i < a.ps.length) : world_World_Log a.w (i : Int) = some (a.ps[i].log, 0) := by
  have hk : knw a (i : Int) = true := knw_iff.2 ⟨i, rfl, hi⟩
  have hp := (h.ps a.ps[i] (List.getElem_mem hi)).log
  have e : a.w.all = a.ps := rfl
  unfold world_World_Log
  rw [known_law h.n, hk, Option.bind_some]
  simp only [Bool.not_true, cond_false, bne_self_eq_false]
  rw [e, lat_at hi, Option.bind_some, clone_says (by omega), Option.bind_some]
theorem few_law (x : Int) : ∃ m : Nat, parttop_few x = some (m : Int) ∧ 1 ≤ m ∧ m ≤ 6 := by
  have h1 := Int.tmod_lt_of_pos x (show (0 : Int) < 6 by omega)
  have h2 : -6 < x.tmod 6 := by
    have := Int.tmod_lt_of_pos (-x) (show (0 : Int) < 6 by omega)
    rw [Int.neg_tmod] at this
    omega
  have e : w64 (x.tmod 6 + 6) = x.tmod 6 + 6 := w64_id (by omega) (by omega)
  obtain ⟨k, hk⟩ := int_nat (show 0 ≤ x.tmod 6 + 6 by omega)
  have hm : ((k : Int)).tmod 6 = ((k % 6 : Nat) : Int) := by
    rw [Int.tmod_eq_emod_of_nonneg (by omega)]; rfl
  have hr : partref_Rest x 6 = some ((k % 6 : Nat) : Int) := by
    unfold partref_Rest
    rw [decide_eq_false (by decide), cond_false, show nz (6 : Int) = some () from rfl, Option.bind_some, Option.bind_some, e, hk, hm]
  have hlt : k % 6 < 6 := Nat.mod_lt _ (by omega)
  refine ⟨k % 6 + 1, ?_, by omega, by omega⟩
  unfold parttop_few
  rw [hr, Option.bind_some, w64_id (by omega) (by omega)]
  rfl
theorem works_law : parttop_works 4194304 = some true := by kernel_rfl
/-- The world after some deeds. -/
def stA (fu : Nat) (ds : List Deed) (a : AW) : AW := ds.foldl (fun b d => (doM fu b d).1) a
theorem stA_snoc (fu : Nat) (ds : List Deed) (d : Deed) (a : AW) : stA fu (ds ++ [d]) a = (doM fu (stA fu ds a) d).1 := by unfold stA; rw [List.foldl_append]; rfl
end Go.Proofs.YtchmclllcdknjaaGreatDoor
