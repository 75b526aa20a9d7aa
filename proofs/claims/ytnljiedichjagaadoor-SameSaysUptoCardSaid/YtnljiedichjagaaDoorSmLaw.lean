/-
  The law SameSays holds for every input of bulk at most 1048576, as its row says.
-/
import Derived.Test.YtnljiedichjagaaDoorRows
import Derived.Test.YtnljiedichjagaaDoorSmP1
import Derived.Test.YtnljiedichjagaaDoorGoY
import Derived.Test.YtnljiedichjagaaDoorGoN
import Derived.Test.YtnljiedichjagaaDoorSmSameSays
import Derived.Test.YtnljiedichjagaaDoorCards
import Derived.Test.YtnljiedichjagaaDoorTie
import Derived.SevenTiedAt
namespace Go.Proofs.YtnljiedichjagaaDoor
open Go.RowKit Go.ChangeShapes Go.WideShapes Go.ChangeAt Enc
set_option linter.unusedVariables false
set_option linter.unusedSimpArgs false
namespace lawSameSays
theorem own : ownKnob Tryd.prog.godebug = none := by kernel_rfl
theorem laidOut : laidOutB Tryd.prog = true := by kernel_rfl

theorem blk_len {H : Type} (l : List (DataW H)) : l.length ≤ Rows.uptoBulkAll l := by
  induction l with
  | nil => simp
  | cons x r ih =>
    have : 1 ≤ Rows.uptoBulk x := by
      cases x with
      | lit l => cases l <;> simp [Rows.uptoBulk]
      | nil => simp [Rows.uptoBulk]
      | ptr d => simp [Rows.uptoBulk]
      | slice elems spare => simp [Rows.uptoBulk]
      | agg parts => simp [Rows.uptoBulk]
      | iface t d => simp [Rows.uptoBulk]
      | map entries => simp [Rows.uptoBulk]
      | held h => simp [Rows.uptoBulk]
    simp only [Rows.uptoBulkAll, List.length_cons]; omega
theorem blk_part {H : Type} {d : DataW H} {l : List (DataW H)} (h : d ∈ l) : Rows.uptoBulk d ≤ Rows.uptoBulkAll l := by
  induction l with
  | nil => cases h
  | cons x r ih =>
    simp only [Rows.uptoBulkAll]
    rcases List.mem_cons.1 h with e | e
    · subst e; omega
    · have := ih e; omega
theorem blk (H : Type) : Blk (Rows.uptoBulk (H := H)) := ⟨fun s => by simp [Rows.uptoBulk], fun es sp => by have := blk_len es; simp only [Rows.uptoBulk]; omega, fun es sp d hd => by
  simp only [Rows.uptoBulk]
  rcases hd with h | h
  · have := blk_part h; omega
  · have := blk_part h; omega, fun ps d hd => by have := blk_part hd; simp only [Rows.uptoBulk]; omega⟩
set_option maxRecDepth 100000 in
theorem walk (H : Type) (enc : TypeId × Value → H) (W : World) (base : Nat) (args : Array Value) (ds : List (DataW H)) (p : List MemPlace)
    (hval0 : ∀ (j : Nat) t v, Tryd.f3.params[j]? = some t → args[j]? = some v → Value.okWide Tryd.prog W .any base t v)
    (hA : DataW.TrodAll enc Tryd.prog W 0 (fun _ => true) true Tryd.f3.params.toList args.toList ds p)
    (hk : Rows.uptoSmall H ds = true) :
    Calls Tryd.prog 3 args W fun e W' => e = .returned (.bool true) ∧ Ext W W' := by
  have hval := hval0
  clear hval0
  rw [Tryd.params3] at hval hA
  have hbk : Rows.uptoBulkAll ds ≤ 1048576 := of_decide_eq_true hk
  have hμ := blk H
  obtain ⟨v0, vs0, d0, ds0, p0, q0, e0, rfl, rfl, k0, r0⟩ := trodAll_cons hA
  obtain ⟨v1, vs1, d1, ds1, p1, q1, e1, rfl, rfl, k1, r1⟩ := trodAll_cons r0
  obtain ⟨v2, vs2, d2, ds2, p2, q2, e2, rfl, rfl, k2, r2⟩ := trodAll_cons r1
  obtain ⟨v3, vs3, d3, ds3, p3, q3, e3, rfl, rfl, k3, r3⟩ := trodAll_cons r2
  obtain ⟨v4, vs4, d4, ds4, p4, q4, e4, rfl, rfl, k4, r4⟩ := trodAll_cons r3
  obtain ⟨z1, rfl, rfl⟩ := trodAll_nil r4
  subst z1
  subst e4
  subst e3
  subst e2
  subst e1
  obtain rfl : args = #[v0, v1, v2, v3, v4] := by cases args; simpa using e0
  have h0 := hval 0 9 v0 rfl rfl
  have h1 := hval 1 23 v1 rfl rfl
  have h2 := hval 2 24 v2 rfl rfl
  have h3 := hval 3 9 v3 rfl rfl
  have h4 := hval 4 9 v4 rfl rfl
  clear hval hk
  simp only [Rows.uptoBulkAll] at hbk
  obtain ⟨x0, c0, g0⟩ := arg_cellsB (B := 1048576) k0 (show Rows.uptoBulk d0 ≤ 1048576 by omega) (TB.str hμ Tryd.underlying9)
  obtain rfl := arg_str Tryd.underlying9 h0 c0
  obtain ⟨x1, c1, g1⟩ := arg_cellsB (B := 1048576) k1 (show Rows.uptoBulk d1 ≤ 1048576 by omega) (TB.vec (n := 10) hμ Tryd.underlying23 (by kernel_rfl) (by kernel_rfl) (TB.int Tryd.underlying3))
  obtain rfl := arg_agg Tryd.underlying23 rfl h1 c1
  obtain ⟨x2, c2, g2⟩ := arg_cellsB (B := 1048576) k2 (show Rows.uptoBulk d2 ≤ 1048576 by omega) (TB.slice (ρ := Str) Tryd.underlying24 (by kernel_rfl) (by decide) hμ (TB.str hμ Tryd.underlying9))
  obtain rfl := arg_slice Tryd.underlying24 h2 c2
  obtain ⟨x3, c3, g3⟩ := arg_cellsB (B := 1048576) k3 (show Rows.uptoBulk d3 ≤ 1048576 by omega) (TB.str hμ Tryd.underlying9)
  obtain rfl := arg_str Tryd.underlying9 h3 c3
  obtain ⟨x4, c4, g4⟩ := arg_cellsB (B := 1048576) k4 (show Rows.uptoBulk d4 ≤ 1048576 by omega) (TB.str hμ Tryd.underlying9)
  obtain rfl := arg_str Tryd.underlying9 h4 c4
  obtain ⟨fu, hpl⟩ := samesays_up x0 x1 x2.v x3 x4 g0 g1 g2.2 g3 g4
  exact (partlaw_SameSays_sim hpl W (Frz.of W) [] [] (List.Sublist.refl _) g2.1).law fun _ _ _ h => h.1
set_option maxRecDepth 100000 in
theorem lifted (os : Os) (started : os.Started) (H : Type) (enc : TypeId × Value → H) (F : Stop.Interp) :
    ReturnsInHanded {} Tryd.checked os 3 .any ((Rows.OpenSpec.upto Rows.sameSaysSpec).preRow enc Tryd.prog Tryd.f3 [] false Rows.sameSaysUptoRow.laid) (((Rows.OpenSpec.upto Rows.sameSaysSpec).at F).post enc Tryd.prog Tryd.f3 false true false false) := by
  refine law_lift_row (C := Tryd.checked) (S := Rows.OpenSpec.upto Rows.sameSaysSpec) (k := Rows.uptoSmall) (tb := 4) rfl own started (by kernel_rfl) Tryd.func3
    (witness_laid (enc := enc) (C := Tryd.checked) (s := Rows.OpenSpec.upto Rows.sameSaysSpec) (k := Rows.uptoSmall) rfl #[.string ⟨#[]⟩, .agg #[.int .i64 0, .int .i64 0, .int .i64 0, .int .i64 0, .int .i64 0, .int .i64 0, .int .i64 0, .int .i64 0, .int .i64 0, .int .i64 0], .slice none 0 0, .string ⟨#[]⟩, .string ⟨#[]⟩] 8 (World.shaped_of_ZipB (by kernel_rfl) (by kernel_rfl)) (by kernel_rfl) (x := ([.lit (.string []), .agg [.lit (.int .i64 0), .lit (.int .i64 0), .lit (.int .i64 0), .lit (.int .i64 0), .lit (.int .i64 0), .lit (.int .i64 0), .lit (.int .i64 0), .lit (.int .i64 0), .lit (.int .i64 0), .lit (.int .i64 0)], .nil, .lit (.string []), .lit (.string [])], [], [])) (by kernel_rfl) (by kernel_rfl) (by kernel_rfl)
      (by rw [MakeChecks.laidMetH_plain _ _ _ (by kernel_rfl)]; exact laidMet_laidAll _ (by kernel_rfl) (by kernel_rfl)))
    laidOut ?_ rfl Tryd.underlying4 rfl ?_ (fun W base args ds p a b c => walk H enc W base args ds p a b c)
  · intro t ht
    have hc : (Tryd.f3.params.toList.all fun t => Tryd.prog.readableRec t && decide (t < Tryd.prog.types.size)) = true := by kernel_rfl
    have := List.all_eq_true.1 hc t ht
    rw [Bool.and_eq_true] at this
    exact ⟨this.1, of_decide_eq_true this.2⟩
  · intro ds hlen
    have hl : ds.length = 5 := hlen
    rcases ds with _ | ⟨d0, _ | ⟨d1, _ | ⟨d2, _ | ⟨d3, _ | ⟨d4, _ | ⟨dx, dl⟩⟩⟩⟩⟩⟩ <;> simp at hl
    rfl
theorem proved : Rows.SameSaysUptoSaid :=
  OpenClaim.holds_of_cond 3 Tryd.f3 rfl rfl rfl rfl rfl rfl rfl ⟨rfl, rfl, rfl, rfl, rfl⟩ rfl rfl rfl rfl rfl (by kernel_rfl) Tryd.func3 (by kernel_rfl)
    (of_decide_eq_true (by kernel_rfl)) (by unfold Func.isWrapper; first | (rw [if_pos (by decide +kernel)]; kernel_rfl) | (rw [if_neg (by decide +kernel)]; exact ⟨rfl, rfl⟩))
    (fun os started H enc _ F => by rw [OpenClaim.pre_eq_preRow]; exact lifted os started H enc F)
theorem card : Rows.SameSaysUptoCardSaid :=
  Claim7.holds_tied_plain_at .later [] [.data, .data, .data, .data, .sentinel, .sentinel, .pinned] true (true, "3ae7615ba328edad7a5a5d777614a9b8bed4e7b3b6f1a72a083f570e8c459620") true proved (fun _ h => by cases h) (by kernel_rfl) (fun _ h => by cases h) sameSaysUpto_row_tie rfl ⟨rfl, rfl⟩ (by kernel_rfl) rfl
    (fun f fn hf hfn => by
      obtain rfl : f = 3 := Option.some.inj ((show Tryd.prog.funcNamed Rows.sameSaysUptoRow.func = some 3 by kernel_rfl).symm.trans hf) |>.symm
      obtain rfl : fn = Tryd.f3 := (Option.some.inj (Tryd.func3.symm.trans hfn)).symm
      exact ⟨by kernel_rfl, fun j t ht => by
        have hall : (Tryd.f3.params.toList.all fun u => !Tryd.prog.wantsStandIn u) = true := by kernel_rfl
        exact (show Tryd.prog.wantsStandIn t = false by simpa using List.all_eq_true.1 hall t (Array.mem_toList_iff.2 (Array.mem_of_getElem? ht)))⟩)
    (by kernel_rfl)
end lawSameSays
end Go.Proofs.YtnljiedichjagaaDoor
