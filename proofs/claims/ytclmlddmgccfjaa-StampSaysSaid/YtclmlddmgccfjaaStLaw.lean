/-
  The law StampSays holds for every input, as its row says.
-/
import Derived.Test.YtclmlddmgccfjaaRows
import Derived.Test.YtclmlddmgccfjaaStP3
import Derived.Test.YtclmlddmgccfjaaGoJ
import Derived.Test.YtclmlddmgccfjaaGoN
import Derived.Test.YtclmlddmgccfjaaStStampSays
namespace Go.Proofs.Ytclmlddmgccfjaa
open Go.RowKit Go.ChangeShapes Go.WideShapes Go.ChangeAt Enc
set_option linter.unusedVariables false
set_option linter.unusedSimpArgs false
namespace lawStampSays
theorem own : ownKnob Try.prog.godebug = none := by kernel_rfl
theorem laidOut : laidOutB Try.prog = true := by kernel_rfl
theorem td_Event {H : Type} {eh : TypeId × Value → H} {W : World} : TD Try.prog H eh W 75 Event Rng.ok := fun fuel cs x hx => by
  obtain ⟨xs, m, _, _, hl, hn, hf⟩ := DataW.trod_struct Try.underlying75 hx
  have hc : Try.prog.cellsOf 75 = 3 := by kernel_rfl
  rw [hc] at hl
  obtain ⟨a0, e0, o0⟩ := td_field hf hn 0 (t := 3) (o := 0) (s := 1) rfl rfl rfl (by kernel_rfl) (TD.int Try.underlying3)
  obtain ⟨a1, e1, o1⟩ := td_field hf hn 1 (t := 3) (o := 1) (s := 1) rfl rfl rfl (by kernel_rfl) (TD.int Try.underlying3)
  obtain ⟨a2, e2, o2⟩ := td_field hf hn 2 (t := 3) (o := 2) (s := 1) rfl rfl rfl (by kernel_rfl) (TD.int Try.underlying3)
  have hp := pieces_eq (cs := cs) [1, 1, 1] 0 (by simp) (by rw [hl]; rfl)
  simp only [pieces, List.drop_zero, Nat.zero_add] at hp
  simp only [List.drop_zero] at e0; rw [e0, e1, e2] at hp
  exact ⟨(⟨a0, a1, a2⟩ : Event), hp, ⟨o0, o1, o2⟩⟩
set_option maxRecDepth 100000 in
theorem walk (H : Type) (enc : TypeId × Value → H) (W : World) (base : Nat) (args : Array Value) (ds : List (DataW H)) (p : List MemPlace)
    (hval0 : ∀ (j : Nat) t v, Try.f4.params[j]? = some t → args[j]? = some v → Value.okWide Try.prog W .any base t v)
    (hA : DataW.TrodAll enc Try.prog W 0 (fun _ => true) true Try.f4.params.toList args.toList ds p)
    (hsz : (DataW.weightsEach Try.prog Try.f4.params.toList ds).all (· ≤ reachBytes) = true) :
    Calls Try.prog 4 args W fun e W' => e = .returned (.bool true) ∧ Ext W W' := by
  have hval := hval0
  clear hval0
  rw [Try.params4] at hval hA hsz
  obtain ⟨v0, vs0, d0, ds0, p0, q0, e0, rfl, rfl, k0, r0⟩ := trodAll_cons hA
  obtain ⟨z1, rfl, rfl⟩ := trodAll_nil r0
  subst z1
  obtain rfl : args = #[v0] := by cases args; simpa using e0
  have h0 := hval 0 24 v0 rfl rfl
  clear hval hsz
  obtain ⟨x0, c0, g0⟩ := arg_cells k0 (TD.slice (ρ := Event) Try.underlying24 (by kernel_rfl) (by decide) td_Event)
  obtain rfl := arg_slice Try.underlying24 h0 c0
  obtain ⟨fu, hpl⟩ := stampsays_law x0.v g0.2
  exact (partlaw_StampSays_sim hpl W (Frz.of W) [] [] (List.Sublist.refl _) g0.1).law fun _ _ _ h => h.1
set_option maxRecDepth 100000 in
theorem lifted (os : Os) (started : os.Started) (H : Type) (enc : TypeId × Value → H) :
    ReturnsInHanded {} Try.checked os 4 .any (Rows.stampSaysSpec.pre6 enc Try.prog Try.f4 Rows.stampSaysRow.domain false) (Rows.stampSaysSpec.post enc Try.prog Try.f4 false true false false) := by
  refine law_lift (C := Try.checked) (tb := 4) own started (by kernel_rfl) Try.func4
    (ChangeSpec.witness6 (enc := enc) (C := Try.checked) false ⟨#[], #[.slice none 0 0], []⟩ 8 (by kernel_rfl) (by kernel_rfl) (by kernel_rfl) (by kernel_rfl))
    laidOut ?_ rfl Try.underlying4 rfl ?_ (fun W base args ds p a b c => walk H enc W base args ds p a b c)
  · intro t ht
    have hc : (Try.f4.params.toList.all fun t => Try.prog.readableRec t && decide (t < Try.prog.types.size)) = true := by kernel_rfl
    have := List.all_eq_true.1 hc t ht
    rw [Bool.and_eq_true] at this
    exact ⟨this.1, of_decide_eq_true this.2⟩
  · intro ds hlen
    have hl : ds.length = 1 := hlen
    rcases ds with _ | ⟨d0, _ | ⟨dx, dl⟩⟩ <;> simp at hl
    rfl
theorem proved : Rows.StampSaysSaid :=
  OpenClaim.holds_of_wide 4 Try.f4 rfl rfl rfl rfl rfl rfl rfl ⟨rfl, rfl, rfl, rfl, rfl⟩ rfl rfl rfl rfl rfl (by kernel_rfl) Try.func4 (by kernel_rfl)
    (of_decide_eq_true (by kernel_rfl)) (by unfold Func.isWrapper; first | (rw [if_pos (by decide +kernel)]; kernel_rfl) | (rw [if_neg (by decide +kernel)]; exact ⟨rfl, rfl⟩))
    (fun os started H enc _ => lifted os started H enc)
end lawStampSays
end Go.Proofs.Ytclmlddmgccfjaa
