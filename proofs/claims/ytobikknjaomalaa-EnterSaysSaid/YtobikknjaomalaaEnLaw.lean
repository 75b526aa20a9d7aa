/-
  The law EnterSays holds for every input, as its row says.
-/
import Derived.Test.YtobikknjaomalaaRows
import Derived.Test.YtobikknjaomalaaEnP4
import Derived.Test.YtobikknjaomalaaGoJ
import Derived.Test.YtobikknjaomalaaGoN
import Derived.Test.YtobikknjaomalaaEnEnterSays
namespace Go.Proofs.Ytobikknjaomalaa
open Go.RowKit Go.ChangeShapes Go.WideShapes Go.ChangeAt Enc
set_option linter.unusedVariables false
set_option linter.unusedSimpArgs false
namespace lawEnterSays
theorem own : ownKnob Try.prog.godebug = none := by kernel_rfl
theorem laidOut : laidOutB Try.prog = true := by kernel_rfl
theorem td_Door {H : Type} {eh : TypeId × Value → H} {W : World} : TD Try.prog H eh W 204 DoorR (fun p => DoorR.rel W (Frz.of W) [] p ∧ Rng.ok p.v) := fun fuel cs x hx => by
  obtain ⟨xs, m, _, _, hl, hn, hf⟩ := DataW.trod_struct Try.underlying204 hx
  have hc : Try.prog.cellsOf 204 = 5 := by kernel_rfl
  rw [hc] at hl
  obtain ⟨a0, e0, o0⟩ := td_field hf hn 0 (t := 3) (o := 0) (s := 1) rfl rfl rfl (by kernel_rfl) (TD.int Try.underlying3)
  obtain ⟨a1, e1, o1⟩ := td_field hf hn 1 (t := 3) (o := 1) (s := 1) rfl rfl rfl (by kernel_rfl) (TD.int Try.underlying3)
  obtain ⟨a2, e2, o2⟩ := td_field hf hn 2 (t := 5) (o := 2) (s := 1) rfl rfl rfl (by kernel_rfl) (TD.u8 Try.underlying5)
  obtain ⟨a3, e3, o3⟩ := td_field hf hn 3 (t := 4) (o := 3) (s := 1) rfl rfl rfl (by kernel_rfl) (TD.bool Try.underlying4)
  obtain ⟨a4, e4, o4⟩ := td_field hf hn 4 (t := 36) (o := 4) (s := 1) rfl rfl rfl (by kernel_rfl) (TD.slice (ρ := Int) Try.underlying36 (by kernel_rfl) (by decide) (TD.int Try.underlying3))
  have hp := pieces_eq (cs := cs) [1, 1, 1, 1, 1] 0 (by simp) (by rw [hl]; rfl)
  simp only [pieces, List.drop_zero, Nat.zero_add] at hp
  simp only [List.drop_zero] at e0; rw [e0, e1, e2, e3, e4] at hp
  exact ⟨DoorR.mk (⟨a0, a1, a2, a3, a4.v⟩ : Door) a4.h, hp, o4.1, ⟨o0, o1, o2, o3, o4.2⟩⟩
theorem td_Word {H : Type} {eh : TypeId × Value → H} {W : World} : TD Try.prog H eh W 209 Word Rng.ok := fun fuel cs x hx => by
  obtain ⟨xs, m, _, _, hl, hn, hf⟩ := DataW.trod_struct Try.underlying209 hx
  have hc : Try.prog.cellsOf 209 = 3 := by kernel_rfl
  rw [hc] at hl
  obtain ⟨a0, e0, o0⟩ := td_field hf hn 0 (t := 3) (o := 0) (s := 1) rfl rfl rfl (by kernel_rfl) (TD.int Try.underlying3)
  obtain ⟨a1, e1, o1⟩ := td_field hf hn 1 (t := 3) (o := 1) (s := 1) rfl rfl rfl (by kernel_rfl) (TD.int Try.underlying3)
  obtain ⟨a2, e2, o2⟩ := td_field hf hn 2 (t := 3) (o := 2) (s := 1) rfl rfl rfl (by kernel_rfl) (TD.int Try.underlying3)
  have hp := pieces_eq (cs := cs) [1, 1, 1] 0 (by simp) (by rw [hl]; rfl)
  simp only [pieces, List.drop_zero, Nat.zero_add] at hp
  simp only [List.drop_zero] at e0; rw [e0, e1, e2] at hp
  exact ⟨(⟨a0, a1, a2⟩ : Word), hp, ⟨o0, o1, o2⟩⟩
theorem td_Enter {H : Type} {eh : TypeId × Value → H} {W : World} : TD Try.prog H eh W 114 EnterR (fun p => EnterR.rel W (Frz.of W) [] p ∧ Rng.ok p.v) := fun fuel cs x hx => by
  obtain ⟨xs, m, _, _, hl, hn, hf⟩ := DataW.trod_struct Try.underlying114 hx
  have hc : Try.prog.cellsOf 114 = 2 := by kernel_rfl
  rw [hc] at hl
  obtain ⟨a0, e0, o0⟩ := td_field hf hn 0 (t := 111) (o := 0) (s := 1) rfl rfl rfl (by kernel_rfl) (TD.slice (ρ := DoorR) Try.underlying111 (by kernel_rfl) (by decide) td_Door)
  obtain ⟨a1, e1, o1⟩ := td_field hf hn 1 (t := 112) (o := 1) (s := 1) rfl rfl rfl (by kernel_rfl) (TD.slice (ρ := Word) Try.underlying112 (by kernel_rfl) (by decide) td_Word)
  have hp := pieces_eq (cs := cs) [1, 1] 0 (by simp) (by rw [hl]; rfl)
  simp only [pieces, List.drop_zero, Nat.zero_add] at hp
  simp only [List.drop_zero] at e0; rw [e0, e1] at hp
  exact ⟨EnterR.mk (⟨(a0.v.map DoorR.v), a1.v⟩ : Enter) a0.h a1.h, hp, ⟨⟨a0.v, rfl, o0.1, fun r hr => (o0.2.2 r hr).1⟩, o1.1⟩, ⟨⟨by rw [List.length_map]; exact o0.2.1, fun y hy => by obtain ⟨r, hr, rfl⟩ := List.mem_map.1 hy; exact (o0.2.2 r hr).2⟩, o1.2⟩⟩
set_option maxRecDepth 100000 in
theorem walk (H : Type) (enc : TypeId × Value → H) (W : World) (base : Nat) (args : Array Value) (ds : List (DataW H)) (p : List MemPlace)
    (hval0 : ∀ (j : Nat) t v, Try.f10.params[j]? = some t → args[j]? = some v → Value.okWide Try.prog W .any base t v)
    (hA : DataW.TrodAll enc Try.prog W 0 (fun _ => true) true Try.f10.params.toList args.toList ds p)
    (hsz : (DataW.weightsEach Try.prog Try.f10.params.toList ds).all (· ≤ reachBytes) = true) :
    Calls Try.prog 10 args W fun e W' => e = .returned (.bool true) ∧ Ext W W' := by
  have hval := hval0
  clear hval0
  rw [Try.params10] at hval hA hsz
  obtain ⟨v0, vs0, d0, ds0, p0, q0, e0, rfl, rfl, k0, r0⟩ := trodAll_cons hA
  obtain ⟨v1, vs1, d1, ds1, p1, q1, e1, rfl, rfl, k1, r1⟩ := trodAll_cons r0
  obtain ⟨v2, vs2, d2, ds2, p2, q2, e2, rfl, rfl, k2, r2⟩ := trodAll_cons r1
  obtain ⟨v3, vs3, d3, ds3, p3, q3, e3, rfl, rfl, k3, r3⟩ := trodAll_cons r2
  obtain ⟨z1, rfl, rfl⟩ := trodAll_nil r3
  subst z1
  subst e3
  subst e2
  subst e1
  obtain rfl : args = #[v0, v1, v2, v3] := by cases args; simpa using e0
  have h0 := hval 0 114 v0 rfl rfl
  have h1 := hval 1 3 v1 rfl rfl
  have h2 := hval 2 3 v2 rfl rfl
  have h3 := hval 3 3 v3 rfl rfl
  clear hval hsz
  obtain ⟨x0, c0, g0⟩ := arg_cells k0 td_Enter
  obtain rfl := arg_agg Try.underlying114 rfl h0 c0
  obtain ⟨x0, y0_0, y0_1⟩ := x0
  obtain ⟨⟨⟨s0_0, m0_0, f0_0, a0_0⟩, f0_1⟩, g0⟩ := g0
  obtain ⟨x1, c1, g1⟩ := arg_cells k1 (TD.int Try.underlying3)
  obtain rfl := arg_num Try.underlying3 h1 rfl c1
  obtain ⟨x2, c2, g2⟩ := arg_cells k2 (TD.int Try.underlying3)
  obtain rfl := arg_num Try.underlying3 h2 rfl c2
  obtain ⟨x3, c3, g3⟩ := arg_cells k3 (TD.int Try.underlying3)
  obtain rfl := arg_num Try.underlying3 h3 rfl c3
  obtain ⟨fu, hpl⟩ := entersays_law x0 x1 x2 x3 g0 g1 g2 g3
  exact (partlaw_EnterSays_sim hpl W (Frz.of W) [] [] (List.Sublist.refl _) m0_0 f0_0 a0_0 f0_1).law fun _ _ _ h => h.1
set_option maxRecDepth 100000 in
theorem lifted (os : Os) (started : os.Started) (H : Type) (enc : TypeId × Value → H) :
    ReturnsInHanded {} Try.checked os 10 .any (Rows.enterSaysSpec.pre6 enc Try.prog Try.f10 Rows.enterSaysRow.domain false) (Rows.enterSaysSpec.post enc Try.prog Try.f10 false true false false) := by
  refine law_lift (C := Try.checked) (tb := 4) own started (by kernel_rfl) Try.func10
    (ChangeSpec.witness6 (enc := enc) (C := Try.checked) false ⟨#[], #[.agg #[.slice none 0 0, .slice none 0 0], .int .i64 0, .int .i64 0, .int .i64 0], []⟩ 8 (by kernel_rfl) (by kernel_rfl) (by kernel_rfl) (by kernel_rfl))
    laidOut ?_ rfl Try.underlying4 rfl ?_ (fun W base args ds p a b c => walk H enc W base args ds p a b c)
  · intro t ht
    have hc : (Try.f10.params.toList.all fun t => Try.prog.readableRec t && decide (t < Try.prog.types.size)) = true := by kernel_rfl
    have := List.all_eq_true.1 hc t ht
    rw [Bool.and_eq_true] at this
    exact ⟨this.1, of_decide_eq_true this.2⟩
  · intro ds hlen
    have hl : ds.length = 4 := hlen
    rcases ds with _ | ⟨d0, _ | ⟨d1, _ | ⟨d2, _ | ⟨d3, _ | ⟨dx, dl⟩⟩⟩⟩⟩ <;> simp at hl
    rfl
theorem proved : Rows.EnterSaysSaid :=
  OpenClaim.holds_of_wide 10 Try.f10 rfl rfl rfl rfl rfl rfl rfl ⟨rfl, rfl, rfl, rfl, rfl⟩ rfl rfl rfl rfl rfl (by kernel_rfl) Try.func10 (by kernel_rfl)
    (of_decide_eq_true (by kernel_rfl)) (by unfold Func.isWrapper; first | (rw [if_pos (by decide +kernel)]; kernel_rfl) | (rw [if_neg (by decide +kernel)]; exact ⟨rfl, rfl⟩))
    (fun os started H enc _ => lifted os started H enc)
end lawEnterSays
end Go.Proofs.Ytobikknjaomalaa
