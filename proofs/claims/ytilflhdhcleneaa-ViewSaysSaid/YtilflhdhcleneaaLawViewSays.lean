/-
  The law ViewSays holds for every input, as its row says.
-/
import Derived.Test.YtilflhdhcleneaaViewLaw
namespace Go.Proofs.Ytilflhdhcleneaa
open Go.RowKit Go.ChangeShapes Go.WideShapes Go.ChangeAt
namespace lawViewSays
theorem own : ownKnob Try.prog.godebug = none := by kernel_rfl
theorem laidOut : laidOutB Try.prog = true := by kernel_rfl
theorem ok_view {w : World} {b : Nat} {v : Value} (h : Value.okWide Try.prog w .any b 28 v) : ∃ (n : Int) (m : Nat), v = .agg #[.int .i64 n, .int .u8 m] ∧ m < 256 := by
  obtain ⟨cs, rfl, hs, hc⟩ := ok_agg Try.underlying28 rfl (ts := [3, 5]) (by kernel_rfl) (N := 2) (by kernel_rfl) h
  obtain ⟨t0, e0, c0⟩ := hc 0 (cs[0]'(by omega)) (by simp [hs])
  obtain ⟨t1, e1, c1⟩ := hc 1 (cs[1]'(by omega)) (by simp [hs])
  simp at e0 e1
  subst e0 e1
  obtain ⟨n, h0, _⟩ := cell_int Try.underlying3 c0
  obtain ⟨m, h1, hm⟩ := cell_int Try.underlying5 c1
  have hm := has_u8 hm
  refine ⟨n, m.toNat, ?_, by omega⟩
  rw [Int.toNat_of_nonneg hm.1, ← h0, ← h1]
  congr 1
  apply Array.ext
  · simp [hs]
  · intro i hi hj
    match i, hi with
    | 0, _ => rfl
    | 1, _ => rfl
    | k + 2, hk => omega

theorem walk (H : Type) (enc : TypeId × Value → H) (W : World) (base : Nat) (args : Array Value) (ds : List (DataW H)) (p : List MemPlace)
    (hval0 : ∀ (j : Nat) t v, Try.f4.params[j]? = some t → args[j]? = some v → Value.okWide Try.prog W .any base t v)
    (hA : DataW.TrodAll enc Try.prog W 0 (fun _ => true) true Try.f4.params.toList args.toList ds p)
    (hsz : (DataW.weightsEach Try.prog Try.f4.params.toList ds).all (· ≤ reachBytes) = true) :
    Calls Try.prog 4 args W fun e W' => e = .returned (.bool true) ∧ Ext W W' := by
  have hval := hval0
  clear hval0
  rw [Try.params4] at hval hA hsz
  obtain ⟨v0, vs0, d0, ds0, p0, q0, e0, rfl, rfl, k0, r0⟩ := trodAll_cons hA
  obtain ⟨v1, vs1, d1, ds1, p1, q1, e1, rfl, rfl, k1, r1⟩ := trodAll_cons r0
  obtain ⟨v2, vs2, d2, ds2, p2, q2, e2, rfl, rfl, k2, r2⟩ := trodAll_cons r1
  obtain ⟨v3, vs3, d3, ds3, p3, q3, e3, rfl, rfl, k3, r3⟩ := trodAll_cons r2
  obtain ⟨z1, rfl, rfl⟩ := trodAll_nil r3
  subst z1
  subst e3
  subst e2
  subst e1
  obtain rfl : args = #[v0, v1, v2, v3] := by cases args; simpa using e0
  have h0 := hval 0 28 v0 rfl rfl
  have h1 := hval 1 28 v1 rfl rfl
  have h2 := hval 2 5 v2 rfl rfl
  have h3 := hval 3 5 v3 rfl rfl
  clear hval hA
  obtain ⟨n1, m1, rfl, b1⟩ := ok_view h0
  obtain ⟨n2, m2, rfl, b2⟩ := ok_view h1
  obtain ⟨g, rfl, b3⟩ := ok_u8 Try.underlying5 h2
  obtain ⟨c, rfl, b4⟩ := ok_u8 Try.underlying5 h3
  exact viewSays_any n1 m1 n2 m2 g c b1 b2 b3 b4 W

set_option maxRecDepth 100000 in
theorem lifted (os : Os) (started : os.Started) (H : Type) (enc : TypeId × Value → H) :
    ReturnsInHanded {} Try.checked os 4 .any (Rows.viewSaysSpec.pre6 enc Try.prog Try.f4 Rows.viewSaysRow.domain false) (Rows.viewSaysSpec.post enc Try.prog Try.f4 false true false false) := by
  refine law_lift (C := Try.checked) (tb := 4) own started (by kernel_rfl) Try.func4
    (ChangeSpec.witness6 (enc := enc) (C := Try.checked) false ⟨#[], #[.agg #[.int .i64 0, .int .u8 0], .agg #[.int .i64 0, .int .u8 0], .int .u8 0, .int .u8 0], []⟩ 8 (by kernel_rfl) (by kernel_rfl) (by kernel_rfl) (by kernel_rfl))
    laidOut ?_ rfl Try.underlying4 rfl ?_ (fun W base args ds p a b c => walk H enc W base args ds p a b c)
  · intro t ht
    have hc : (Try.f4.params.toList.all fun t => Try.prog.readableRec t && decide (t < Try.prog.types.size)) = true := by kernel_rfl
    have := List.all_eq_true.1 hc t ht
    rw [Bool.and_eq_true] at this
    exact ⟨this.1, of_decide_eq_true this.2⟩
  · intro ds hlen
    have hl : ds.length = 4 := hlen
    rcases ds with _ | ⟨d0, _ | ⟨d1, _ | ⟨d2, _ | ⟨d3, _ | ⟨dx, dl⟩⟩⟩⟩⟩ <;> simp at hl
    rfl

theorem proved : Rows.ViewSaysSaid :=
  OpenClaim.holds_of_wide 4 Try.f4 rfl rfl rfl rfl rfl rfl rfl ⟨rfl, rfl, rfl, rfl, rfl⟩ rfl rfl rfl rfl rfl (by kernel_rfl) Try.func4 (by kernel_rfl)
    (of_decide_eq_true (by kernel_rfl)) (by unfold Func.isWrapper; first | (rw [if_pos (by decide +kernel)]; kernel_rfl) | (rw [if_neg (by decide +kernel)]; exact ⟨rfl, rfl⟩))
    (fun os started H enc _ => lifted os started H enc)

end lawViewSays
end Go.Proofs.Ytilflhdhcleneaa
