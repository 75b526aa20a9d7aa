/-
  The law Names: the constants have the values that it asks for.
-/
import Derived.Test.YtilflhdhcleneaaKit
namespace Go.Proofs.Ytilflhdhcleneaa
open Go.RowKit

set_option maxRecDepth 100000 in
set_option maxHeartbeats 4000000 in
theorem names_any (w : World) :
    Calls Try.prog 3 #[] w fun e w' => e = .returned (.bool true) ∧ Ext w w' := by
  go_enter Try.func3, Try.ntmps3
  go_wp2
  refine wp_loop_rounds 14 ?_
  iterate 14
    rw [rounds_succ]
    go_wp2
  refine wp_loop_rounds 5 ?_
  iterate 5
    rw [rounds_succ]
    go_wp2
  refine wp_loop_rounds 9 ?_
  repeat (first | (rw [rounds_succ]; go_wp2) | (refine wp_loop_rounds 6 ?_))
  go_outline
  go_ret
  exact ⟨rfl, by repeat (first | exact Ext.refl _ | apply Ext.alloc | apply Ext.drew | (refine Ext.setCell ?_ (by simp) _) | (refine Ext.trans ?_ (Grow.ext _)))⟩
end Go.Proofs.Ytilflhdhcleneaa
