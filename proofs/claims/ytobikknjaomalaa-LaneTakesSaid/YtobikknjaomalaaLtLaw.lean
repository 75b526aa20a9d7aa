/-
  The law LaneTakes holds for every input, as its row says.
-/
import Derived.Test.YtobikknjaomalaaRows
import Derived.Test.YtobikknjaomalaaLtP1
import Derived.Test.YtobikknjaomalaaGoJ
import Derived.Test.YtobikknjaomalaaGoN
import Derived.Test.YtobikknjaomalaaLtLaneTakes
namespace Go.Proofs.Ytobikknjaomalaa
open Go.RowKit Go.ChangeShapes Go.WideShapes Go.ChangeAt Enc
set_option linter.unusedVariables false
set_option linter.unusedSimpArgs false
namespace lawLaneTakes
theorem own : ownKnob Try.prog.godebug = none := by kernel_rfl
theorem laidOut : laidOutB Try.prog = true := by kernel_rfl
theorem td_Parcel {H : Type} {eh : TypeId × Value → H} {W : World} : TD Try.prog H eh W 92 Parcel Rng.ok := fun fuel cs x hx => by
  obtain ⟨xs, m, _, _, hl, hn, hf⟩ := DataW.trod_struct Try.underlying92 hx
  have hc : Try.prog.cellsOf 92 = 2 := by kernel_rfl
  rw [hc] at hl
  obtain ⟨a0, e0, o0⟩ := td_field hf hn 0 (t := 3) (o := 0) (s := 1) rfl rfl rfl (by kernel_rfl) (TD.int Try.underlying3)
  obtain ⟨a1, e1, o1⟩ := td_field hf hn 1 (t := 9) (o := 1) (s := 1) rfl rfl rfl (by kernel_rfl) (TD.str Try.underlying9)
  have hp := pieces_eq (cs := cs) [1, 1] 0 (by simp) (by rw [hl]; rfl)
  simp only [pieces, List.drop_zero, Nat.zero_add] at hp
  simp only [List.drop_zero] at e0; rw [e0, e1] at hp
  exact ⟨(⟨a0, a1⟩ : Parcel), hp, ⟨o0, o1⟩⟩
theorem td_To {H : Type} {eh : TypeId × Value → H} {W : World} : TD Try.prog H eh W 90 ToR (fun p => ToR.rel W (Frz.of W) [] p ∧ Rng.ok p.v) := fun fuel cs x hx => by
  obtain ⟨xs, m, _, _, hl, hn, hf⟩ := DataW.trod_struct Try.underlying90 hx
  have hc : Try.prog.cellsOf 90 = 2 := by kernel_rfl
  rw [hc] at hl
  obtain ⟨a0, e0, o0⟩ := td_field hf hn 0 (t := 3) (o := 0) (s := 1) rfl rfl rfl (by kernel_rfl) (TD.int Try.underlying3)
  obtain ⟨a1, e1, o1⟩ := td_field hf hn 1 (t := 88) (o := 1) (s := 1) rfl rfl rfl (by kernel_rfl) (TD.slice (ρ := Parcel) Try.underlying88 (by kernel_rfl) (by decide) td_Parcel)
  have hp := pieces_eq (cs := cs) [1, 1] 0 (by simp) (by rw [hl]; rfl)
  simp only [pieces, List.drop_zero, Nat.zero_add] at hp
  simp only [List.drop_zero] at e0; rw [e0, e1] at hp
  exact ⟨ToR.mk (⟨a0, a1.v⟩ : To) a1.h, hp, o1.1, ⟨o0, o1.2⟩⟩
set_option maxRecDepth 100000 in
theorem walk (H : Type) (enc : TypeId × Value → H) (W : World) (base : Nat) (args : Array Value) (ds : List (DataW H)) (p : List MemPlace)
    (hval0 : ∀ (j : Nat) t v, Try.f8.params[j]? = some t → args[j]? = some v → Value.okWide Try.prog W .any base t v)
    (hA : DataW.TrodAll enc Try.prog W 0 (fun _ => true) true Try.f8.params.toList args.toList ds p)
    (hsz : (DataW.weightsEach Try.prog Try.f8.params.toList ds).all (· ≤ reachBytes) = true) :
    Calls Try.prog 8 args W fun e W' => e = .returned (.bool true) ∧ Ext W W' := by
  have hval := hval0
  clear hval0
  rw [Try.params8] at hval hA hsz
  obtain ⟨v0, vs0, d0, ds0, p0, q0, e0, rfl, rfl, k0, r0⟩ := trodAll_cons hA
  obtain ⟨v1, vs1, d1, ds1, p1, q1, e1, rfl, rfl, k1, r1⟩ := trodAll_cons r0
  obtain ⟨z1, rfl, rfl⟩ := trodAll_nil r1
  subst z1
  subst e1
  obtain rfl : args = #[v0, v1] := by cases args; simpa using e0
  have h0 := hval 0 90 v0 rfl rfl
  have h1 := hval 1 92 v1 rfl rfl
  clear hval hsz
  obtain ⟨x0, c0, g0⟩ := arg_cells k0 td_To
  obtain rfl := arg_agg Try.underlying90 rfl h0 c0
  obtain ⟨x0, y0_1⟩ := x0
  obtain ⟨f0_1, g0⟩ := g0
  obtain ⟨x1, c1, g1⟩ := arg_cells k1 td_Parcel
  obtain rfl := arg_agg Try.underlying92 rfl h1 c1
  obtain ⟨fu, hpl⟩ := lanetakes_law x0 x1 g0 g1
  exact (partlaw_LaneTakes_sim hpl W (Frz.of W) [] [] (List.Sublist.refl _) f0_1).law fun _ _ _ h => h.1
set_option maxRecDepth 100000 in
theorem lifted (os : Os) (started : os.Started) (H : Type) (enc : TypeId × Value → H) :
    ReturnsInHanded {} Try.checked os 8 .any (Rows.laneTakesSpec.pre6 enc Try.prog Try.f8 Rows.laneTakesRow.domain false) (Rows.laneTakesSpec.post enc Try.prog Try.f8 false true false false) := by
  refine law_lift (C := Try.checked) (tb := 4) own started (by kernel_rfl) Try.func8
    (ChangeSpec.witness6 (enc := enc) (C := Try.checked) false ⟨#[], #[.agg #[.int .i64 0, .slice none 0 0], .agg #[.int .i64 0, .string ⟨#[]⟩]], []⟩ 8 (by kernel_rfl) (by kernel_rfl) (by kernel_rfl) (by kernel_rfl))
    laidOut ?_ rfl Try.underlying4 rfl ?_ (fun W base args ds p a b c => walk H enc W base args ds p a b c)
  · intro t ht
    have hc : (Try.f8.params.toList.all fun t => Try.prog.readableRec t && decide (t < Try.prog.types.size)) = true := by kernel_rfl
    have := List.all_eq_true.1 hc t ht
    rw [Bool.and_eq_true] at this
    exact ⟨this.1, of_decide_eq_true this.2⟩
  · intro ds hlen
    have hl : ds.length = 2 := hlen
    rcases ds with _ | ⟨d0, _ | ⟨d1, _ | ⟨dx, dl⟩⟩⟩ <;> simp at hl
    rfl
theorem proved : Rows.LaneTakesSaid :=
  OpenClaim.holds_of_wide 8 Try.f8 rfl rfl rfl rfl rfl rfl rfl ⟨rfl, rfl, rfl, rfl, rfl⟩ rfl rfl rfl rfl rfl (by kernel_rfl) Try.func8 (by kernel_rfl)
    (of_decide_eq_true (by kernel_rfl)) (by unfold Func.isWrapper; first | (rw [if_pos (by decide +kernel)]; kernel_rfl) | (rw [if_neg (by decide +kernel)]; exact ⟨rfl, rfl⟩))
    (fun os started H enc _ => lifted os started H enc)
end lawLaneTakes
end Go.Proofs.Ytobikknjaomalaa
