/-
  The law SnapPlays holds for every input, as its row says.
-/
import Derived.Test.YtnkfphbggemlbaaRows
import Derived.Test.YtnkfphbggemlbaaSnP3
import Derived.Test.YtnkfphbggemlbaaGoJ
import Derived.Test.YtnkfphbggemlbaaGoN
import Derived.Test.YtnkfphbggemlbaaSnSnapPlays
namespace Go.Proofs.Ytnkfphbggemlbaa
open Go.RowKit Go.ChangeShapes Go.WideShapes Go.ChangeAt Enc
set_option linter.unusedVariables false
set_option linter.unusedSimpArgs false
namespace lawSnapPlays
theorem own : ownKnob Try.prog.godebug = none := by kernel_rfl
theorem laidOut : laidOutB Try.prog = true := by kernel_rfl
theorem td_Move {H : Type} {eh : TypeId × Value → H} {W : World} : TD Try.prog H eh W 35 Move Rng.ok := fun fuel cs x hx => by
  obtain ⟨xs, m, _, _, hl, hn, hf⟩ := DataW.trod_struct Try.underlying35 hx
  have hc : Try.prog.cellsOf 35 = 4 := by kernel_rfl
  rw [hc] at hl
  obtain ⟨a0, e0, o0⟩ := td_field hf hn 0 (t := 3) (o := 0) (s := 1) rfl rfl rfl (by kernel_rfl) (TD.int Try.underlying3)
  obtain ⟨a1, e1, o1⟩ := td_field hf hn 1 (t := 3) (o := 1) (s := 1) rfl rfl rfl (by kernel_rfl) (TD.int Try.underlying3)
  obtain ⟨a2, e2, o2⟩ := td_field hf hn 2 (t := 3) (o := 2) (s := 1) rfl rfl rfl (by kernel_rfl) (TD.int Try.underlying3)
  obtain ⟨a3, e3, o3⟩ := td_field hf hn 3 (t := 3) (o := 3) (s := 1) rfl rfl rfl (by kernel_rfl) (TD.int Try.underlying3)
  have hp := pieces_eq (cs := cs) [1, 1, 1, 1] 0 (by simp) (by rw [hl]; rfl)
  simp only [pieces, List.drop_zero, Nat.zero_add] at hp
  simp only [List.drop_zero] at e0; rw [e0, e1, e2, e3] at hp
  exact ⟨(⟨a0, a1, a2, a3⟩ : Move), hp, ⟨o0, o1, o2, o3⟩⟩
set_option maxRecDepth 100000 in
theorem walk (H : Type) (enc : TypeId × Value → H) (W : World) (base : Nat) (args : Array Value) (ds : List (DataW H)) (p : List MemPlace)
    (hval0 : ∀ (j : Nat) t v, Try.f3.params[j]? = some t → args[j]? = some v → Value.okWide Try.prog W .any base t v)
    (hA : DataW.TrodAll enc Try.prog W 0 (fun _ => true) true Try.f3.params.toList args.toList ds p)
    (hsz : (DataW.weightsEach Try.prog Try.f3.params.toList ds).all (· ≤ reachBytes) = true) :
    Calls Try.prog 3 args W fun e W' => e = .returned (.bool true) ∧ Ext W W' := by
  have hval := hval0
  clear hval0
  rw [Try.params3] at hval hA hsz
  obtain ⟨v0, vs0, d0, ds0, p0, q0, e0, rfl, rfl, k0, r0⟩ := trodAll_cons hA
  obtain ⟨v1, vs1, d1, ds1, p1, q1, e1, rfl, rfl, k1, r1⟩ := trodAll_cons r0
  obtain ⟨z1, rfl, rfl⟩ := trodAll_nil r1
  subst z1
  subst e1
  obtain rfl : args = #[v0, v1] := by cases args; simpa using e0
  have h0 := hval 0 22 v0 rfl rfl
  have h1 := hval 1 23 v1 rfl rfl
  clear hval hsz
  obtain ⟨x0, c0, g0⟩ := arg_cells k0 (TD.slice (ρ := Int) Try.underlying22 (by kernel_rfl) (by decide) (TD.int Try.underlying3))
  obtain rfl := arg_slice Try.underlying22 h0 c0
  obtain ⟨x1, c1, g1⟩ := arg_cells k1 (TD.slice (ρ := Move) Try.underlying23 (by kernel_rfl) (by decide) td_Move)
  obtain rfl := arg_slice Try.underlying23 h1 c1
  obtain ⟨fu, hpl⟩ := snapplays_law x0.v x1.v g0.2 g1.2
  exact (partlaw_SnapPlays_sim hpl W (Frz.of W) [] [] (List.Sublist.refl _) g0.1 g1.1).law fun _ _ _ h => h.1
set_option maxRecDepth 100000 in
theorem lifted (os : Os) (started : os.Started) (H : Type) (enc : TypeId × Value → H) :
    ReturnsInHanded {} Try.checked os 3 .any (Rows.snapPlaysSpec.pre6 enc Try.prog Try.f3 Rows.snapPlaysRow.domain false) (Rows.snapPlaysSpec.post enc Try.prog Try.f3 false true false false) := by
  refine law_lift (C := Try.checked) (tb := 4) own started (by kernel_rfl) Try.func3
    (ChangeSpec.witness6 (enc := enc) (C := Try.checked) false ⟨#[], #[.slice none 0 0, .slice none 0 0], []⟩ 8 (by kernel_rfl) (by kernel_rfl) (by kernel_rfl) (by kernel_rfl))
    laidOut ?_ rfl Try.underlying4 rfl ?_ (fun W base args ds p a b c => walk H enc W base args ds p a b c)
  · intro t ht
    have hc : (Try.f3.params.toList.all fun t => Try.prog.readableRec t && decide (t < Try.prog.types.size)) = true := by kernel_rfl
    have := List.all_eq_true.1 hc t ht
    rw [Bool.and_eq_true] at this
    exact ⟨this.1, of_decide_eq_true this.2⟩
  · intro ds hlen
    have hl : ds.length = 2 := hlen
    rcases ds with _ | ⟨d0, _ | ⟨d1, _ | ⟨dx, dl⟩⟩⟩ <;> simp at hl
    rfl
theorem proved : Rows.SnapPlaysSaid :=
  OpenClaim.holds_of_wide 3 Try.f3 rfl rfl rfl rfl rfl rfl rfl ⟨rfl, rfl, rfl, rfl, rfl⟩ rfl rfl rfl rfl rfl (by kernel_rfl) Try.func3 (by kernel_rfl)
    (of_decide_eq_true (by kernel_rfl)) (by unfold Func.isWrapper; first | (rw [if_pos (by decide +kernel)]; kernel_rfl) | (rw [if_neg (by decide +kernel)]; exact ⟨rfl, rfl⟩))
    (fun os started H enc _ => lifted os started H enc)
end lawSnapPlays
end Go.Proofs.Ytnkfphbggemlbaa
