/-
  The history that is made of any events.
-/
import Derived.Test.YtclmlddmgccfjaaTlCuts
namespace Go.Proofs.Ytclmlddmgccfjaa
open Enc
theorem Right.nil : Right [] := ⟨by simp, fun i hi => by simp at hi⟩
theorem cloneE_law {l : List Event} (h : l.length ≤ 2 ^ 30) : slices_Clone_api_Event_api_Event l = some l := by
  unfold slices_Clone_api_Event_api_Event
  rw [room_ok (by simp; omega)]
  simp
theorem historyof_law (l : List Event) : Tot (parttop_historyOf l) Right := by
  unfold parttop_historyOf
  rw [Tot.bind_iff]
  refine Tot.rangeF (fun _ z => Right z) Right.nil ?_ fun z hz => Tot.some_iff.2 hz
  intro j z _ hj hz
  have hlen := hz.1
  unfold parttop_historyOf_B0
  rw [lat_lt (by omega), Option.bind_some, cloneE_law (by omega), Option.bind_some, Tot.let_iff]
  simp only
  rw [Tot.bind_iff, Tot.room_iff]
  refine ⟨by simp; omega, ?_⟩
  rw [Tot.bind_iff]
  refine (check_law _).mono fun c hc => ?_
  rw [Tot.ite_iff]
  refine ⟨fun k => ?_, fun _ => Tot.some_iff.2 hz⟩
  have k : c = 0 := by simpa using k
  subst k
  rw [Tot.bind_iff, Tot.room_iff, Tot.some_iff]
  exact ⟨by simp; omega, hc.right⟩
theorem top_grown : parttop_grown = some true := by kernel_rfl
end Go.Proofs.Ytclmlddmgccfjaa
