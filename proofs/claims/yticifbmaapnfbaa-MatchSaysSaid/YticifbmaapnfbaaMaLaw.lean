/-
  The law MatchSays holds for every input, as its row says.
-/
import Derived.Test.YticifbmaapnfbaaRows
import Derived.Test.YticifbmaapnfbaaMaP3
import Derived.Test.YticifbmaapnfbaaGoJ
import Derived.Test.YticifbmaapnfbaaGoN
import Derived.Test.YticifbmaapnfbaaMaMatchSays
namespace Go.Proofs.Yticifbmaapnfbaa
open Go.RowKit Go.ChangeShapes Go.WideShapes Go.ChangeAt Enc
set_option linter.unusedVariables false
set_option linter.unusedSimpArgs false
namespace lawMatchSays
theorem own : ownKnob Try.prog.godebug = none := by kernel_rfl
theorem laidOut : laidOutB Try.prog = true := by kernel_rfl
theorem td_Pair {H : Type} {eh : TypeId × Value → H} {W : World} : TD Try.prog H eh W 49 Pair Rng.ok := fun fuel cs x hx => by
  obtain ⟨xs, m, _, _, hl, hn, hf⟩ := DataW.trod_struct Try.underlying49 hx
  have hc : Try.prog.cellsOf 49 = 2 := by kernel_rfl
  rw [hc] at hl
  obtain ⟨a0, e0, o0⟩ := td_field hf hn 0 (t := 3) (o := 0) (s := 1) rfl rfl rfl (by kernel_rfl) (TD.int Try.underlying3)
  obtain ⟨a1, e1, o1⟩ := td_field hf hn 1 (t := 3) (o := 1) (s := 1) rfl rfl rfl (by kernel_rfl) (TD.int Try.underlying3)
  have hp := pieces_eq (cs := cs) [1, 1] 0 (by simp) (by rw [hl]; rfl)
  simp only [pieces, List.drop_zero, Nat.zero_add] at hp
  simp only [List.drop_zero] at e0; rw [e0, e1] at hp
  exact ⟨(⟨a0, a1⟩ : Pair), hp, ⟨o0, o1⟩⟩
set_option maxRecDepth 100000 in
theorem walk (H : Type) (enc : TypeId × Value → H) (W : World) (base : Nat) (args : Array Value) (ds : List (DataW H)) (p : List MemPlace)
    (hval0 : ∀ (j : Nat) t v, Try.f7.params[j]? = some t → args[j]? = some v → Value.okWide Try.prog W .any base t v)
    (hA : DataW.TrodAll enc Try.prog W 0 (fun _ => true) true Try.f7.params.toList args.toList ds p)
    (hsz : (DataW.weightsEach Try.prog Try.f7.params.toList ds).all (· ≤ reachBytes) = true) :
    Calls Try.prog 7 args W fun e W' => e = .returned (.bool true) ∧ Ext W W' := by
  have hval := hval0
  clear hval0
  rw [Try.params7] at hval hA hsz
  obtain ⟨v0, vs0, d0, ds0, p0, q0, e0, rfl, rfl, k0, r0⟩ := trodAll_cons hA
  obtain ⟨v1, vs1, d1, ds1, p1, q1, e1, rfl, rfl, k1, r1⟩ := trodAll_cons r0
  obtain ⟨v2, vs2, d2, ds2, p2, q2, e2, rfl, rfl, k2, r2⟩ := trodAll_cons r1
  obtain ⟨z1, rfl, rfl⟩ := trodAll_nil r2
  subst z1
  subst e2
  subst e1
  obtain rfl : args = #[v0, v1, v2] := by cases args; simpa using e0
  have h0 := hval 0 3 v0 rfl rfl
  have h1 := hval 1 3 v1 rfl rfl
  have h2 := hval 2 22 v2 rfl rfl
  clear hval hsz
  obtain ⟨x0, c0, g0⟩ := arg_cells k0 (TD.int Try.underlying3)
  obtain rfl := arg_num Try.underlying3 h0 rfl c0
  obtain ⟨x1, c1, g1⟩ := arg_cells k1 (TD.int Try.underlying3)
  obtain rfl := arg_num Try.underlying3 h1 rfl c1
  obtain ⟨x2, c2, g2⟩ := arg_cells k2 (TD.slice (ρ := Pair) Try.underlying22 (by kernel_rfl) (by decide) td_Pair)
  obtain rfl := arg_slice Try.underlying22 h2 c2
  obtain ⟨fu, hpl⟩ := matchsays_law x0 x1 x2.v g0 g1 g2.2
  exact (partlaw_MatchSays_sim hpl W (Frz.of W) [] [] (List.Sublist.refl _) g2.1).law fun _ _ _ h => h.1
set_option maxRecDepth 100000 in
theorem lifted (os : Os) (started : os.Started) (H : Type) (enc : TypeId × Value → H) :
    ReturnsInHanded {} Try.checked os 7 .any (Rows.matchSaysSpec.pre6 enc Try.prog Try.f7 Rows.matchSaysRow.domain false) (Rows.matchSaysSpec.post enc Try.prog Try.f7 false true false false) := by
  refine law_lift (C := Try.checked) (tb := 4) own started (by kernel_rfl) Try.func7
    (ChangeSpec.witness6 (enc := enc) (C := Try.checked) false ⟨#[], #[.int .i64 0, .int .i64 0, .slice none 0 0], []⟩ 8 (by kernel_rfl) (by kernel_rfl) (by kernel_rfl) (by kernel_rfl))
    laidOut ?_ rfl Try.underlying4 rfl ?_ (fun W base args ds p a b c => walk H enc W base args ds p a b c)
  · intro t ht
    have hc : (Try.f7.params.toList.all fun t => Try.prog.readableRec t && decide (t < Try.prog.types.size)) = true := by kernel_rfl
    have := List.all_eq_true.1 hc t ht
    rw [Bool.and_eq_true] at this
    exact ⟨this.1, of_decide_eq_true this.2⟩
  · intro ds hlen
    have hl : ds.length = 3 := hlen
    rcases ds with _ | ⟨d0, _ | ⟨d1, _ | ⟨d2, _ | ⟨dx, dl⟩⟩⟩⟩ <;> simp at hl
    rfl
theorem proved : Rows.MatchSaysSaid :=
  OpenClaim.holds_of_wide 7 Try.f7 rfl rfl rfl rfl rfl rfl rfl ⟨rfl, rfl, rfl, rfl, rfl⟩ rfl rfl rfl rfl rfl (by kernel_rfl) Try.func7 (by kernel_rfl)
    (of_decide_eq_true (by kernel_rfl)) (by unfold Func.isWrapper; first | (rw [if_pos (by decide +kernel)]; kernel_rfl) | (rw [if_neg (by decide +kernel)]; exact ⟨rfl, rfl⟩))
    (fun os started H enc _ => lifted os started H enc)
end lawMatchSays
end Go.Proofs.Yticifbmaapnfbaa
