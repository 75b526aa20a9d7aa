/-
  The law QuorumMakes holds for every input, as its row says.
-/
import Derived.Test.YtnljiedichjagaaRows
import Derived.Test.YtnljiedichjagaaQmP4
import Derived.Test.YtnljiedichjagaaGoJ
import Derived.Test.YtnljiedichjagaaGoN
import Derived.Test.YtnljiedichjagaaQmQuorumMakes
namespace Go.Proofs.Ytnljiedichjagaa
open Go.RowKit Go.ChangeShapes Go.WideShapes Go.ChangeAt Enc
set_option linter.unusedVariables false
set_option linter.unusedSimpArgs false
namespace lawQuorumMakes
theorem own : ownKnob Try.prog.godebug = none := by kernel_rfl
theorem laidOut : laidOutB Try.prog = true := by kernel_rfl
set_option maxRecDepth 100000 in
theorem walk (H : Type) (enc : TypeId × Value → H) (W : World) (base : Nat) (args : Array Value) (ds : List (DataW H)) (p : List MemPlace)
    (hval0 : ∀ (j : Nat) t v, Try.f4.params[j]? = some t → args[j]? = some v → Value.okWide Try.prog W .any base t v)
    (hA : DataW.TrodAll enc Try.prog W 0 (fun _ => true) true Try.f4.params.toList args.toList ds p)
    (hsz : (DataW.weightsEach Try.prog Try.f4.params.toList ds).all (· ≤ reachBytes) = true) :
    Calls Try.prog 4 args W fun e W' => e = .returned (.bool true) ∧ Ext W W' := by
  have hval := hval0
  clear hval0
  rw [Try.params4] at hval hA hsz
  obtain ⟨v0, vs0, d0, ds0, p0, q0, e0, rfl, rfl, k0, r0⟩ := trodAll_cons hA
  obtain ⟨v1, vs1, d1, ds1, p1, q1, e1, rfl, rfl, k1, r1⟩ := trodAll_cons r0
  obtain ⟨v2, vs2, d2, ds2, p2, q2, e2, rfl, rfl, k2, r2⟩ := trodAll_cons r1
  obtain ⟨v3, vs3, d3, ds3, p3, q3, e3, rfl, rfl, k3, r3⟩ := trodAll_cons r2
  obtain ⟨z1, rfl, rfl⟩ := trodAll_nil r3
  subst z1
  subst e3
  subst e2
  subst e1
  obtain rfl : args = #[v0, v1, v2, v3] := by cases args; simpa using e0
  have h0 := hval 0 36 v0 rfl rfl
  have h1 := hval 1 3 v1 rfl rfl
  have h2 := hval 2 3 v2 rfl rfl
  have h3 := hval 3 3 v3 rfl rfl
  clear hval hsz
  obtain ⟨x0, c0, g0⟩ := arg_cells k0 (TD.slice (ρ := Int) Try.underlying36 (by kernel_rfl) (by decide) (TD.int Try.underlying3))
  obtain rfl := arg_slice Try.underlying36 h0 c0
  obtain ⟨x1, c1, g1⟩ := arg_cells k1 (TD.int Try.underlying3)
  obtain rfl := arg_num Try.underlying3 h1 rfl c1
  obtain ⟨x2, c2, g2⟩ := arg_cells k2 (TD.int Try.underlying3)
  obtain rfl := arg_num Try.underlying3 h2 rfl c2
  obtain ⟨x3, c3, g3⟩ := arg_cells k3 (TD.int Try.underlying3)
  obtain rfl := arg_num Try.underlying3 h3 rfl c3
  obtain ⟨fu, hpl⟩ := quorummakes_law x0.v x1 x2 x3 g0.2 g1 g2 g3
  exact (partlaw_QuorumMakes_sim hpl W (Frz.of W) [] [] (List.Sublist.refl _) g0.1).law fun _ _ _ h => h.1
set_option maxRecDepth 100000 in
theorem lifted (os : Os) (started : os.Started) (H : Type) (enc : TypeId × Value → H) :
    ReturnsInHanded {} Try.checked os 4 .any (Rows.quorumMakesSpec.pre6 enc Try.prog Try.f4 Rows.quorumMakesRow.domain false) (Rows.quorumMakesSpec.post enc Try.prog Try.f4 false true false false) := by
  refine law_lift (C := Try.checked) (tb := 4) own started (by kernel_rfl) Try.func4
    (ChangeSpec.witness6 (enc := enc) (C := Try.checked) false ⟨#[], #[.slice none 0 0, .int .i64 0, .int .i64 0, .int .i64 0], []⟩ 8 (by kernel_rfl) (by kernel_rfl) (by kernel_rfl) (by kernel_rfl))
    laidOut ?_ rfl Try.underlying4 rfl ?_ (fun W base args ds p a b c => walk H enc W base args ds p a b c)
  · intro t ht
    have hc : (Try.f4.params.toList.all fun t => Try.prog.readableRec t && decide (t < Try.prog.types.size)) = true := by kernel_rfl
    have := List.all_eq_true.1 hc t ht
    rw [Bool.and_eq_true] at this
    exact ⟨this.1, of_decide_eq_true this.2⟩
  · intro ds hlen
    have hl : ds.length = 4 := hlen
    rcases ds with _ | ⟨d0, _ | ⟨d1, _ | ⟨d2, _ | ⟨d3, _ | ⟨dx, dl⟩⟩⟩⟩⟩ <;> simp at hl
    rfl
theorem proved : Rows.QuorumMakesSaid :=
  OpenClaim.holds_of_wide 4 Try.f4 rfl rfl rfl rfl rfl rfl rfl ⟨rfl, rfl, rfl, rfl, rfl⟩ rfl rfl rfl rfl rfl (by kernel_rfl) Try.func4 (by kernel_rfl)
    (of_decide_eq_true (by kernel_rfl)) (by unfold Func.isWrapper; first | (rw [if_pos (by decide +kernel)]; kernel_rfl) | (rw [if_neg (by decide +kernel)]; exact ⟨rfl, rfl⟩))
    (fun os started H enc _ => lifted os started H enc)
end lawQuorumMakes
end Go.Proofs.Ytnljiedichjagaa
