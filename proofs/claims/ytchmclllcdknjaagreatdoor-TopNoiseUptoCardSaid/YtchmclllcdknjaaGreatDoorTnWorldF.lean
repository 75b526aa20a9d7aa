/-
  The code's world, told by plain functions: a change; a deed.
-/
import Derived.Test.YtchmclllcdknjaaGreatDoorTnWorldE
namespace Go.Proofs.YtchmclllcdknjaaGreatDoor
open Enc

theorem good0 : GoodT ⟨0, []⟩ := ⟨by simp, by simp, by simp, List.Pairwise.nil, by simp, by simp⟩
theorem say_ord (a : AW) (p : Int) (t : Str) : (sayM a p t).1.ord = a.ord := by
  unfold sayM
  cases (who a p != 0) with
  | true => rfl
  | false =>
    cases decide (t.length > 150) with
    | true => rfl
    | false =>
      cases decide (a.way.length = 60) with
      | true => rfl
      | false =>
        cases a.ps[p.toNat]? with
        | none => rfl
        | some x =>
          simp only [cond_false]
          cases fullF x.from_ with
          | true => rfl
          | false => simp only [cond_false]; rw [sendM_ord]
end Go.Proofs.YtchmclllcdknjaaGreatDoor
