/-
  The law FlushSays holds for every input, as its row says.
-/
import Derived.Test.YtobikknjaomalaaRows
import Derived.Test.YtobikknjaomalaaFlP2
import Derived.Test.YtobikknjaomalaaGoJ
import Derived.Test.YtobikknjaomalaaGoN
import Derived.Test.YtobikknjaomalaaFlFlushSays
namespace Go.Proofs.Ytobikknjaomalaa
open Go.RowKit Go.ChangeShapes Go.WideShapes Go.ChangeAt Enc
set_option linter.unusedVariables false
set_option linter.unusedSimpArgs false
namespace lawFlushSays
theorem own : ownKnob Try.prog.godebug = none := by kernel_rfl
theorem laidOut : laidOutB Try.prog = true := by kernel_rfl
theorem td_View {H : Type} {eh : TypeId × Value → H} {W : World} : TD Try.prog H eh W 68 View Rng.ok := fun fuel cs x hx => by
  obtain ⟨xs, m, _, _, hl, hn, hf⟩ := DataW.trod_struct Try.underlying68 hx
  have hc : Try.prog.cellsOf 68 = 2 := by kernel_rfl
  rw [hc] at hl
  obtain ⟨a0, e0, o0⟩ := td_field hf hn 0 (t := 3) (o := 0) (s := 1) rfl rfl rfl (by kernel_rfl) (TD.int Try.underlying3)
  obtain ⟨a1, e1, o1⟩ := td_field hf hn 1 (t := 5) (o := 1) (s := 1) rfl rfl rfl (by kernel_rfl) (TD.u8 Try.underlying5)
  have hp := pieces_eq (cs := cs) [1, 1] 0 (by simp) (by rw [hl]; rfl)
  simp only [pieces, List.drop_zero, Nat.zero_add] at hp
  simp only [List.drop_zero] at e0; rw [e0, e1] at hp
  exact ⟨(⟨a0, a1⟩ : View), hp, ⟨o0, o1⟩⟩
theorem td_Flush {H : Type} {eh : TypeId × Value → H} {W : World} : TD Try.prog H eh W 71 FlushR (fun p => FlushR.rel W (Frz.of W) [] p ∧ Rng.ok p.v) := fun fuel cs x hx => by
  obtain ⟨xs, m, _, _, hl, hn, hf⟩ := DataW.trod_struct Try.underlying71 hx
  have hc : Try.prog.cellsOf 71 = 9 := by kernel_rfl
  rw [hc] at hl
  obtain ⟨a0, e0, o0⟩ := td_field hf hn 0 (t := 68) (o := 0) (s := 2) rfl rfl rfl (by kernel_rfl) td_View
  obtain ⟨a1, e1, o1⟩ := td_field hf hn 1 (t := 5) (o := 2) (s := 1) rfl rfl rfl (by kernel_rfl) (TD.u8 Try.underlying5)
  obtain ⟨a2, e2, o2⟩ := td_field hf hn 2 (t := 69) (o := 3) (s := 6) rfl rfl rfl (by kernel_rfl) (TD.vec (n := 6) Try.underlying69 (by kernel_rfl) (by kernel_rfl) (TD.slice (ρ := Int) Try.underlying36 (by kernel_rfl) (by decide) (TD.int Try.underlying3)))
  have hp := pieces_eq (cs := cs) [2, 1, 6] 0 (by simp) (by rw [hl]; rfl)
  simp only [pieces, List.drop_zero, Nat.zero_add] at hp
  simp only [List.drop_zero] at e0; rw [e0, e1, e2] at hp
  exact ⟨FlushR.mk (⟨a0, a1, (a2.map LR.v)⟩ : Flush) a2, hp, ⟨vtd_map _, vtd_rel o2⟩, ⟨o0, o1, vtd_rng o2⟩⟩
set_option maxRecDepth 100000 in
theorem walk (H : Type) (enc : TypeId × Value → H) (W : World) (base : Nat) (args : Array Value) (ds : List (DataW H)) (p : List MemPlace)
    (hval0 : ∀ (j : Nat) t v, Try.f7.params[j]? = some t → args[j]? = some v → Value.okWide Try.prog W .any base t v)
    (hA : DataW.TrodAll enc Try.prog W 0 (fun _ => true) true Try.f7.params.toList args.toList ds p)
    (hsz : (DataW.weightsEach Try.prog Try.f7.params.toList ds).all (· ≤ reachBytes) = true) :
    Calls Try.prog 7 args W fun e W' => e = .returned (.bool true) ∧ Ext W W' := by
  have hval := hval0
  clear hval0
  rw [Try.params7] at hval hA hsz
  obtain ⟨v0, vs0, d0, ds0, p0, q0, e0, rfl, rfl, k0, r0⟩ := trodAll_cons hA
  obtain ⟨v1, vs1, d1, ds1, p1, q1, e1, rfl, rfl, k1, r1⟩ := trodAll_cons r0
  obtain ⟨v2, vs2, d2, ds2, p2, q2, e2, rfl, rfl, k2, r2⟩ := trodAll_cons r1
  obtain ⟨v3, vs3, d3, ds3, p3, q3, e3, rfl, rfl, k3, r3⟩ := trodAll_cons r2
  obtain ⟨v4, vs4, d4, ds4, p4, q4, e4, rfl, rfl, k4, r4⟩ := trodAll_cons r3
  obtain ⟨z1, rfl, rfl⟩ := trodAll_nil r4
  subst z1
  subst e4
  subst e3
  subst e2
  subst e1
  obtain rfl : args = #[v0, v1, v2, v3, v4] := by cases args; simpa using e0
  have h0 := hval 0 71 v0 rfl rfl
  have h1 := hval 1 5 v1 rfl rfl
  have h2 := hval 2 3 v2 rfl rfl
  have h3 := hval 3 3 v3 rfl rfl
  have h4 := hval 4 5 v4 rfl rfl
  clear hval hsz
  obtain ⟨x0, c0, g0⟩ := arg_cells k0 td_Flush
  obtain rfl := arg_agg Try.underlying71 rfl h0 c0
  obtain ⟨x0, y0_2⟩ := x0
  obtain ⟨⟨m0_2, a0_2⟩, g0⟩ := g0
  obtain ⟨x1, c1, g1⟩ := arg_cells k1 (TD.u8 Try.underlying5)
  obtain rfl := arg_num Try.underlying5 h1 rfl c1
  obtain ⟨x2, c2, g2⟩ := arg_cells k2 (TD.int Try.underlying3)
  obtain rfl := arg_num Try.underlying3 h2 rfl c2
  obtain ⟨x3, c3, g3⟩ := arg_cells k3 (TD.int Try.underlying3)
  obtain rfl := arg_num Try.underlying3 h3 rfl c3
  obtain ⟨x4, c4, g4⟩ := arg_cells k4 (TD.u8 Try.underlying5)
  obtain rfl := arg_num Try.underlying5 h4 rfl c4
  obtain ⟨fu, hpl⟩ := flushsays_law x0 x1 x2 x3 x4 g0 g1 g2 g3 g4
  exact (partlaw_FlushSays_sim hpl W (Frz.of W) [] [] (List.Sublist.refl _) m0_2 a0_2).law fun _ _ _ h => h.1
set_option maxRecDepth 100000 in
theorem lifted (os : Os) (started : os.Started) (H : Type) (enc : TypeId × Value → H) :
    ReturnsInHanded {} Try.checked os 7 .any (Rows.flushSaysSpec.pre6 enc Try.prog Try.f7 Rows.flushSaysRow.domain false) (Rows.flushSaysSpec.post enc Try.prog Try.f7 false true false false) := by
  refine law_lift (C := Try.checked) (tb := 4) own started (by kernel_rfl) Try.func7
    (ChangeSpec.witness6 (enc := enc) (C := Try.checked) false ⟨#[], #[.agg #[.int .i64 0, .int .u8 0, .int .u8 0, .slice none 0 0, .slice none 0 0, .slice none 0 0, .slice none 0 0, .slice none 0 0, .slice none 0 0], .int .u8 0, .int .i64 0, .int .i64 0, .int .u8 0], []⟩ 8 (by kernel_rfl) (by kernel_rfl) (by kernel_rfl) (by kernel_rfl))
    laidOut ?_ rfl Try.underlying4 rfl ?_ (fun W base args ds p a b c => walk H enc W base args ds p a b c)
  · intro t ht
    have hc : (Try.f7.params.toList.all fun t => Try.prog.readableRec t && decide (t < Try.prog.types.size)) = true := by kernel_rfl
    have := List.all_eq_true.1 hc t ht
    rw [Bool.and_eq_true] at this
    exact ⟨this.1, of_decide_eq_true this.2⟩
  · intro ds hlen
    have hl : ds.length = 5 := hlen
    rcases ds with _ | ⟨d0, _ | ⟨d1, _ | ⟨d2, _ | ⟨d3, _ | ⟨d4, _ | ⟨dx, dl⟩⟩⟩⟩⟩⟩ <;> simp at hl
    rfl
theorem proved : Rows.FlushSaysSaid :=
  OpenClaim.holds_of_wide 7 Try.f7 rfl rfl rfl rfl rfl rfl rfl ⟨rfl, rfl, rfl, rfl, rfl⟩ rfl rfl rfl rfl rfl (by kernel_rfl) Try.func7 (by kernel_rfl)
    (of_decide_eq_true (by kernel_rfl)) (by unfold Func.isWrapper; first | (rw [if_pos (by decide +kernel)]; kernel_rfl) | (rw [if_neg (by decide +kernel)]; exact ⟨rfl, rfl⟩))
    (fun os started H enc _ => lifted os started H enc)
end lawFlushSays
end Go.Proofs.Ytobikknjaomalaa
