/-
  Must: ways from the empty cut to the whole one.
-/
import Derived.Test.YtclmlddmgccfjaaPrPredFirst
namespace Go.Proofs.Ytclmlddmgccfjaa
open Enc

/-! ### Ways -/
def inc (c : Vector Int 6) (p : Nat) : Vector Int 6 := c.setIfInBounds p ((c[p]?).getD 0 + 1)
def dec (c : Vector Int 6) (p : Nat) : Vector Int 6 := c.setIfInBounds p ((c[p]?).getD 0 - 1)
theorem inc_dec (c : Vector Int 6) {p : Nat} (hp : p < 6) : inc (dec c p) p = c := by
  apply Vector.ext
  intro q hq
  unfold inc dec
  by_cases e : p = q
  · subst e; simp [Vector.getElem_setIfInBounds_self, hp]
  · rw [Vector.getElem_setIfInBounds_ne hq e, Vector.getElem_setIfInBounds_ne hq e]
theorem dec_inc (c : Vector Int 6) {p : Nat} (hp : p < 6) : dec (inc c p) p = c := by
  apply Vector.ext
  intro q hq
  unfold inc dec
  by_cases e : p = q
  · subst e; simp [Vector.getElem_setIfInBounds_self, hp]
  · rw [Vector.getElem_setIfInBounds_ne hq e, Vector.getElem_setIfInBounds_ne hq e]
inductive Fwd (U : Vector Int 6 → Prop) (z : Vector Int 6) : Vector Int 6 → Prop
  | zero : U z → Fwd U z z
  | step {c : Vector Int 6} {p : Nat} (hp : p < 6) : Fwd U z c → U (inc c p) → Fwd U z (inc c p)
inductive Bwd (U : Vector Int 6 → Prop) (f : Vector Int 6) : Vector Int 6 → Prop
  | full : U f → Bwd U f f
  | step {c : Vector Int 6} {p : Nat} (hp : p < 6) : Bwd U f (inc c p) → U c → Bwd U f c
theorem Fwd.mem {U : Vector Int 6 → Prop} {z c : Vector Int 6} (h : Fwd U z c) : U c := by cases h <;> assumption
theorem Bwd.mem {U : Vector Int 6 → Prop} {f c : Vector Int 6} (h : Bwd U f c) : U c := by cases h <;> assumption
theorem fwd_bwd {U : Vector Int 6 → Prop} {z f : Vector Int 6} : Fwd U z f ↔ Bwd U f z := by
  have h1 : ∀ c, Fwd U z c → Bwd U f c → Bwd U f z := by
    intro c hc
    induction hc with
    | zero _ => exact id
    | step hp h1 _ ih => exact fun k => ih (.step hp k h1.mem)
  have h2 : ∀ c, Bwd U f c → Fwd U z c → Fwd U z f := by
    intro c hc
    induction hc with
    | full _ => exact id
    | step hp h1 _ ih => exact fun k => ih (.step hp k h1.mem)
  exact ⟨fun k => h1 f k (.full k.mem), fun k => h2 z k (.zero k.mem)⟩
theorem fwd_iff {U : Vector Int 6 → Prop} {z c : Vector Int 6} : Fwd U z c ↔ U c ∧ (c = z ∨ ∃ p, p < 6 ∧ Fwd U z (dec c p)) := by
  constructor
  · intro h
    refine ⟨h.mem, ?_⟩
    cases h with
    | zero _ => exact .inl rfl
    | step hp h1 _ => exact .inr ⟨_, hp, by rw [dec_inc _ hp]; exact h1⟩
  · rintro ⟨hu, rfl | ⟨p, hp, k⟩⟩
    · exact .zero hu
    · have := Fwd.step hp k (by rw [inc_dec _ hp]; exact hu)
      rwa [inc_dec _ hp] at this
theorem bwd_iff {U : Vector Int 6 → Prop} {f c : Vector Int 6} : Bwd U f c ↔ U c ∧ (c = f ∨ ∃ p, p < 6 ∧ Bwd U f (inc c p)) := by
  constructor
  · intro h
    refine ⟨h.mem, ?_⟩
    cases h with
    | full _ => exact .inl rfl
    | step hp h1 _ => exact .inr ⟨_, hp, h1⟩
  · rintro ⟨hu, rfl | ⟨p, hp, k⟩⟩
    · exact .full hu
    · exact .step hp k hu

/-! ### The rank of a cut in the list -/
def rank (N : Nat → Nat) (c : Vector Int 6) : Nat := sumTo (fun p => ((c[p]?).getD 0).toNat * many N (p + 1)) 6
theorem rank_inc {N : Nat → Nat} (hN : ∀ p, 0 < N p) {c : Vector Int 6} {p : Nat} (hp : p < 6) (h0 : 0 ≤ c[p]) : rank N c < rank N (inc c p) := by
  refine sumTo_lt (p := p) (fun q hq => ?_) hp ?_
  · refine Nat.mul_le_mul_right _ ?_
    unfold inc
    by_cases e : p = q
    · subst e; simp [hp]; omega
    · rw [Vector.getElem?_setIfInBounds_ne e]; omega
  · refine Nat.mul_lt_mul_of_pos_right ?_ (many_pos hN _)
    unfold inc
    simp [hp]; omega
theorem rank_vec {N : Nat → Nat} {t : Nat} (ht : t < many N 0) : rank N (vecOf N t) = t := by
  have key : ∀ k, k ≤ 6 → sumTo (fun p => (((vecOf N t)[p]?).getD 0).toNat * many N (p + 1)) k + t % many N k = t := by
    intro k
    induction k with
    | zero => intro _; show 0 + _ = _; rw [Nat.zero_add, Nat.mod_eq_of_lt ht]
    | succ k ih =>
      intro hk
      have hk6 : k < 6 := by omega
      have := ih (by omega)
      show sumTo _ k + (((vecOf N t)[k]?).getD 0).toNat * many N (k + 1) + _ = t
      have e : (((vecOf N t)[k]?).getD 0).toNat = dig N t k := by
        rw [Vector.getElem?_eq_getElem hk6, Option.getD_some, vecOf_get hk6]; simp
      rw [e]
      have e2 : t % many N k = t % many N (k + 1) + many N (k + 1) * dig N t k := by
        rw [many_step hk6, Nat.mul_comm (N k), Nat.mod_mul]; rfl
      rw [e2, Nat.mul_comm (many N (k + 1))] at this
      omega
  have := key 6 (by omega)
  rw [many_end, Nat.mod_one, Nat.add_zero] at this
  exact this
theorem full_dig {N : Nat → Nat} (hN : ∀ p, 0 < N p) {p : Nat} (hp : p < 6) : dig N (many N 0 - 1) p = N p - 1 := by
  have hpos := many_pos hN 0
  have hd : many N (p + 1) ∣ many N 0 - 1 + 1 := by rw [Nat.sub_add_cancel hpos]; exact many_dvd (by omega) (by omega)
  have hc := carry hN hp hd
  have hlt := dig_lt hN (t := many N 0 - 1) (q := p)
  have e0 : dig N (many N 0 - 1 + 1) p = 0 := by
    rw [Nat.sub_add_cancel hpos]
    obtain ⟨m, hm⟩ := many_dvd (N := N) (show 0 ≤ p by omega) (show p ≤ 6 by omega)
    unfold dig
    rw [hm, many_step hp, show N p * many N (p + 1) * m = many N (p + 1) * (N p * m) by ac_rfl, Nat.mul_div_cancel_left _ (many_pos hN _), Nat.mul_mod_right]
  by_cases k : dig N (many N 0 - 1) p + 1 < N p
  · have := (hc.1 k).1; omega
  · omega

/-! ### The list -/
section
variable {h : List Event}
theorem all_mem {c : Vector Int 6} {n : Nat} : c ∈ allCuts h n ↔ ∃ t, t < n ∧ c = vecOf (base h) t ∧ Closed h c := by
  unfold allCuts
  rw [List.mem_filter, List.mem_map]
  simp only [List.mem_range, decide_eq_true_eq]
  constructor
  · rintro ⟨⟨t, ht, rfl⟩, k⟩; exact ⟨t, ht, rfl, k⟩
  · rintro ⟨t, ht, rfl, k⟩; exact ⟨⟨t, ht, rfl⟩, k⟩
theorem all_cut {c : Vector Int 6} {n : Nat} (hc : c ∈ allCuts h n) : IsCut h c ∧ Closed h c := by
  obtain ⟨t, _, rfl, k⟩ := all_mem.1 hc
  exact ⟨vecOf_cut, k⟩
theorem all_rank {n : Nat} (hn : n ≤ many (base h) 0) : (allCuts h n).Pairwise fun a b => rank (base h) a < rank (base h) b := by
  unfold allCuts
  refine List.Pairwise.filter _ ?_
  rw [List.pairwise_map]
  refine List.Pairwise.imp_of_mem (R := fun a b => a < b) ?_ List.pairwise_lt_range
  intro a b ha hb hab
  rw [List.mem_range] at ha hb
  rw [rank_vec (by omega), rank_vec (by omega)]
  exact hab
theorem whole_sizes {v : Vector Int 6} (hv : IsSizes h v) : vecOf (base h) (many (base h) 0 - 1) = v := by
  apply Vector.ext
  intro p hp
  rw [vecOf_get hp, full_dig base_pos hp, hv p hp]
  unfold base; omega
theorem whole_closed (hr : Right h) {v : Vector Int 6} (hv : IsSizes h v) : Closed h v := by
  intro k hk j hj
  have hjl : j < h.length := Nat.lt_of_le_of_lt hj.le hk.lt
  have hx : h[j]? = some h[j] := by simp [hjl]
  obtain ⟨r1, r2, _, _⟩ := hr.2.range hjl hx
  obtain ⟨p, hp⟩ := int_nat r1
  have hp6 : p < 6 := by omega
  refine (inC_iff hx hp6 hp).2 ?_
  rw [hv p hp6]
  have := cntP_mono (h := h) (p := (p : Int)) (show j + 1 ≤ h.length by omega)
  omega
theorem all_last (hr : Right h) {v : Vector Int 6} (hv : IsSizes h v) : ∃ l, allCuts h (many (base h) 0) = l ++ [v] := by
  have hpos := many_pos (N := base h) base_pos 0
  have := (allCuts_succ (h := h) (n := many (base h) 0 - 1)).1 (by rw [whole_sizes hv]; exact whole_closed hr hv)
  rw [Nat.sub_add_cancel hpos, whole_sizes hv] at this
  exact ⟨_, this⟩
theorem all_zero : (Vector.replicate 6 0) ∈ allCuts h (many (base h) 0) := by
  refine all_mem.2 ⟨0, many_pos base_pos 0, ?_, zero_closed⟩
  apply Vector.ext
  intro q hq
  rw [vecOf_get hq, Vector.getElem_replicate]
  unfold dig
  rw [Nat.zero_div, Nat.zero_mod]; rfl
end
/-- A cut in the list in which it does not hold. -/
def Un (h : List Event) (T : List (List Bool)) (c : Vector Int 6) : Prop := c ∈ allCuts h (many (base h) 0) ∧ ¬ Sat T c
theorem before_take {h : List Event} {c : Vector Int 6} {i p : Nat} {l : List (Vector Int 6)} (hl : l = allCuts h (many (base h) 0)) (hc : l[i]? = some c) (hp : p < 6) (hd : dec c p ∈ l) : ∃ j, j < i ∧ l[j]? = some (dec c p) := by
  obtain ⟨j, hj⟩ := List.getElem?_of_mem hd
  refine ⟨j, ?_, hj⟩
  have hlt : rank (base h) (dec c p) < rank (base h) c := by
    have := rank_inc (N := base h) base_pos hp (((all_cut (hl ▸ hd)).1 p hp).1)
    rwa [inc_dec _ hp] at this
  obtain ⟨i1, i2⟩ := List.getElem?_eq_some_iff.1 hc
  obtain ⟨j1, j2⟩ := List.getElem?_eq_some_iff.1 hj
  have hr := all_rank (h := h) (Nat.le_refl _)
  rw [← hl, List.pairwise_iff_getElem] at hr
  rcases Nat.lt_trichotomy i j with e | e | e
  · have := hr i j i1 j1 e
    rw [i2, j2] at this; omega
  · subst e; rw [i2] at j2; rw [← j2] at hlt; omega
  · exact e
theorem behind_take {h : List Event} {c : Vector Int 6} {i p : Nat} {l : List (Vector Int 6)} (hl : l = allCuts h (many (base h) 0)) (hc : l[i]? = some c) (hp : p < 6) (hd : inc c p ∈ l) : ∃ j, i < j ∧ l[j]? = some (inc c p) := by
  obtain ⟨j, hj⟩ := List.getElem?_of_mem hd
  refine ⟨j, ?_, hj⟩
  have hlt := rank_inc (N := base h) base_pos hp (((all_cut (hl ▸ List.mem_of_getElem? hc)).1 p hp).1)
  obtain ⟨i1, i2⟩ := List.getElem?_eq_some_iff.1 hc
  obtain ⟨j1, j2⟩ := List.getElem?_eq_some_iff.1 hj
  have hr := all_rank (h := h) (Nat.le_refl _)
  rw [← hl, List.pairwise_iff_getElem] at hr
  rcases Nat.lt_trichotomy i j with e | e | e
  · exact e
  · subst e; rw [i2] at j2; rw [← j2] at hlt; omega
  · have := hr j i j1 i1 e
    rw [i2, j2] at this; omega
theorem index_one {h : List Event} {c : Vector Int 6} {i j : Nat} {l : List (Vector Int 6)} (hl : l = allCuts h (many (base h) 0)) (hi : l[i]? = some c) (hj : l[j]? = some c) : i = j := by
  obtain ⟨i1, i2⟩ := List.getElem?_eq_some_iff.1 hi
  obtain ⟨j1, j2⟩ := List.getElem?_eq_some_iff.1 hj
  have hr := all_rank (h := h) (Nat.le_refl _)
  rw [← hl, List.pairwise_iff_getElem] at hr
  rcases Nat.lt_trichotomy i j with e | e | e
  · have := hr i j i1 j1 e; rw [i2, j2] at this; omega
  · exact e
  · have := hr j i j1 i1 e; rw [i2, j2] at this; omega

/-! ### The program -/
theorem must_step {h : List Event} {T : List (List Bool)} {l : List (Vector Int 6)} {i : Nat} {e : Int} {z : (Vector Int 6) × (List ((Vector Int 6) × Bool))} (hlen : h.length ≤ 60) (hT : RightT h T) (hl : l = allCuts h (many (base h) 0)) (hi : i < l.length)
    (hm : ∀ d, (mget z.2 d).getD false = true ↔ (∃ j, j < i ∧ l[j]? = some d) ∧ Fwd (Un h T) (Vector.replicate 6 0) d) :
    Tot (pred_Must_B0 T (l, e) i z) fun w => l[i]? = some w.1 ∧ ∀ d, (mget w.2 d).getD false = true ↔ (∃ j, j < i + 1 ∧ l[j]? = some d) ∧ Fwd (Un h T) (Vector.replicate 6 0) d := by
  have hc : l[i]? = some l[i] := by simp [hi]
  unfold pred_Must_B0
  simp only
  rw [lat_lt hi, Option.bind_some]
  generalize l[i] = c at hc
  have hmem : c ∈ allCuts h (many (base h) 0) := hl ▸ List.mem_of_getElem? hc
  obtain ⟨hcut, hcl⟩ := all_cut hmem
  rw [Tot.bind_iff, Tot.bind_iff]
  refine (holds_law hT hcut).mono fun b hb => ?_
  -- what is there behind this round
  have fin : ∀ m' : List ((Vector Int 6) × Bool), (∀ d, d ≠ c → mget m' d = mget z.2 d) → ((mget m' c).getD false = true ↔ Fwd (Un h T) (Vector.replicate 6 0) c) →
      ∀ d, (mget m' d).getD false = true ↔ (∃ j, j < i + 1 ∧ l[j]? = some d) ∧ Fwd (Un h T) (Vector.replicate 6 0) d := by
    intro m' h1 h2 d
    by_cases ed : d = c
    · subst ed
      rw [h2]
      exact ⟨fun k => ⟨⟨i, by omega, hc⟩, k⟩, fun k => k.2⟩
    · rw [h1 d ed, hm d]
      constructor
      · rintro ⟨⟨j, a, b⟩, k⟩; exact ⟨⟨j, by omega, b⟩, k⟩
      · rintro ⟨⟨j, a, b⟩, k⟩
        refine ⟨⟨j, ?_, b⟩, k⟩
        rcases Nat.lt_or_ge j i with q | q
        · exact q
        · have : j = i := by omega
          subst this; rw [hc] at b; exact absurd (Option.some.inj b).symm ed
  have hc0 : (mget z.2 c).getD false = false := by
    cases hq : (mget z.2 c).getD false with
    | false => rfl
    | true =>
      obtain ⟨⟨j, a, b⟩, _⟩ := (hm c).1 hq
      have := index_one hl hc b
      omega
  rw [Tot.ite_iff]
  refine ⟨fun k => ?_, fun k => ?_⟩
  · rw [Tot.some_iff, Tot.some_iff]
    refine ⟨hc, fin z.2 (fun _ _ => rfl) ?_⟩
    rw [hc0]
    exact ⟨fun q => absurd q (by decide), fun q => absurd (hb.1 k) q.mem.2⟩
  · have hns : ¬ Sat T c := fun q => by rw [hb.2 q] at k; cases k
    have hU : Un h T c := ⟨hmem, hns⟩
    rw [Tot.ite_iff]
    refine ⟨fun k2 => ?_, fun k2 => ?_⟩
    · have k2 : c = Vector.replicate 6 0 := by simpa using k2
      rw [Tot.let_iff, Tot.some_iff, Tot.some_iff]
      refine ⟨hc, fin _ (fun d hd => by rw [mget_mset, if_neg hd]) ?_⟩
      rw [mget_mset, if_pos rfl]
      refine ⟨fun _ => by rw [k2] at hU ⊢; exact .zero hU, fun _ => rfl⟩
    · have k2 : c ≠ Vector.replicate 6 0 := by simpa using k2
      rw [Tot.bind_iff]
      have hstep : Tot (rangeF (pred_Must_B2 c) 6 0 z.2) fun m' => (∀ d, d ≠ c → mget m' d = mget z.2 d) ∧ ((mget m' c).getD false = true ↔ ∃ p, p < 6 ∧ Fwd (Un h T) (Vector.replicate 6 0) (dec c p)) := by
        refine Tot.rangeF (fun k m' => (∀ d, d ≠ c → mget m' d = mget z.2 d) ∧ ((mget m' c).getD false = true ↔ ∃ p, p < k ∧ Fwd (Un h T) (Vector.replicate 6 0) (dec c p))) ⟨fun _ _ => rfl, by rw [hc0]; simp⟩ ?_ fun _ q => q
        rintro p m' _ hp ⟨g1, g2⟩
        have hp : p < 6 := by omega
        have hle := cntP_le' (h := h) (p := (p : Int)) (j := h.length)
        obtain ⟨c1, c2⟩ := hcut p hp
        unfold pred_Must_B2
        simp only [vat_lt _ hp, Option.bind_some]
        rw [Tot.let_iff, Int.toNat_natCast, w64_id (by omega) (by omega)]
        have ed : c.setIfInBounds p (c[p] - 1) = dec c p := by unfold dec; rw [Vector.getElem?_eq_getElem hp, Option.getD_some]
        have hne : dec c p ≠ c := fun q => by
          have := congrArg (fun v : Vector Int 6 => v[p]) q
          simp only [← ed, Vector.getElem_setIfInBounds_self] at this
          omega
        rw [ed, g1 _ hne]
        have hF : (mget z.2 (dec c p)).getD false = true ↔ Fwd (Un h T) (Vector.replicate 6 0) (dec c p) := by
          rw [hm]
          refine ⟨fun q => q.2, fun q => ⟨?_, q⟩⟩
          exact before_take hl hc hp (by rw [hl]; exact q.mem.1)
        rw [Tot.ite_iff]
        refine ⟨fun q => ?_, fun q => ?_⟩
        · rw [Tot.let_iff, Tot.some_iff]
          refine ⟨fun d hd => by rw [mget_mset, if_neg hd]; exact g1 d hd, ?_⟩
          rw [mget_mset, if_pos rfl]
          exact ⟨fun _ => ⟨p, by omega, hF.1 q⟩, fun _ => rfl⟩
        · rw [Tot.some_iff]
          refine ⟨g1, g2.trans ?_⟩
          constructor
          · rintro ⟨r, a, b⟩; exact ⟨r, by omega, b⟩
          · rintro ⟨r, a, b⟩
            by_cases er : r = p
            · subst er; rw [hF.2 b] at q; cases q
            · exact ⟨r, by omega, b⟩
      refine hstep.mono ?_
      rintro m' ⟨g1, g2⟩
      rw [Tot.some_iff, Tot.some_iff]
      refine ⟨hc, fin m' g1 ?_⟩
      rw [g2, fwd_iff]
      exact ⟨fun q => ⟨hU, .inr q⟩, fun q => q.2.resolve_left k2⟩
open Classical in
theorem must_law {h : List Event} {T : List (List Bool)} {fu : Nat} (hfu : 100 ≤ fu) (hk : TruthCode h T 0) : pred_Must fu h T = some (if many (base h) 0 > 4096 then (false, 2) else (decide (¬ Bwd (Un h T) (vecOf (base h) (many (base h) 0 - 1)) (Vector.replicate 6 0)), 0)) := by
  obtain ⟨hr, hT⟩ := hk.ok
  refine Tot.eq ?_
  unfold pred_Must
  rw [Tot.bind_iff]
  refine (truth_law h T).mono fun e he => ?_
  obtain rfl := he.one hk
  rw [bne_self_eq_false, cond_false, all_law hr hfu, Option.bind_some]
  by_cases hm : many (base h) 0 > 4096
  · rw [if_pos hm, if_pos hm]
    exact Tot.some_iff.2 rfl
  · rw [if_neg hm, if_neg hm]
    obtain ⟨v, _, hv⟩ := counts_law hr
    obtain ⟨l0, hl0⟩ := all_last hr hv
    rw [show ((allCuts h (many (base h) 0), (0 : Int)).2 != 0) = false from rfl, cond_false, Tot.bind_iff]
    simp only
    generalize hl : allCuts h (many (base h) 0) = l
    rw [hl] at hl0
    refine Tot.rangeF (fun i z => (0 < i → l[i - 1]? = some z.1) ∧ ∀ d, (mget z.2 d).getD false = true ↔ (∃ j, j < i ∧ l[j]? = some d) ∧ Fwd (Un h T) (Vector.replicate 6 0) d) ⟨fun k => by omega, fun d => by rw [mget_nil]; simp⟩ ?_ ?_
    · rintro i z _ hi ⟨_, g⟩
      refine (must_step hr.1 hT hl.symm (by omega) g).mono fun w hw => ⟨fun _ => hw.1, hw.2⟩
    · rintro ⟨c, m⟩ ⟨g1, g2⟩
      rw [Nat.zero_add] at g1 g2
      simp only at g1 g2
      have hlen : l.length = l0.length + 1 := by rw [hl0]; simp
      have hcv : c = v := by
        have := g1 (by omega)
        rw [hl0, List.length_append, List.length_singleton, Nat.add_sub_cancel] at this
        simp at this
        exact this.symm
      subst hcv
      rw [Tot.some_iff, whole_sizes hv, ← fwd_bwd]
      congr 1
      rw [Bool.eq_iff_iff, Bool.not_eq_true', decide_eq_true_eq]
      have : (∃ j, j < l.length ∧ l[j]? = some c) := ⟨l0.length, by omega, by rw [hl0]; simp⟩
      have g3 := g2 c
      cases hq : (mget m c).getD false with
      | true => rw [hq] at g3; exact ⟨fun k => absurd k (by decide), fun k => absurd (g3.1 rfl).2 k⟩
      | false => rw [hq] at g3; exact ⟨fun _ k => absurd (g3.2 ⟨this, k⟩) (by decide), fun _ => rfl⟩
theorem must_bad {h : List Event} {T : List (List Bool)} {e : Int} {fu : Nat} (hk : TruthCode h T e) (h0 : e ≠ 0) : pred_Must fu h T = some (false, e) := by
  refine Tot.eq ?_
  unfold pred_Must
  rw [Tot.bind_iff]
  refine (truth_law h T).mono fun e' he => ?_
  obtain rfl := he.one hk
  rw [show (e' != 0) = true by simpa using h0]
  exact Tot.some_iff.2 rfl

/-! ### The reference -/
theorem cuts_law {h : List Event} {fu : Nat} (hr : Right h) (hfu : 100 ≤ fu) (hfu2 : fu ≤ 2 ^ 30) (hm : many (base h) 0 ≤ 4096) : partref_Cuts fu h = some (allCuts h (many (base h) 0)) := by
  obtain ⟨⟨v, e⟩, _, e0, hv⟩ := vectors_law hr
  refine Tot.eq ?_
  unfold partref_Cuts
  rw [refvectors_law hr hfu hfu2 hv, Option.bind_some, Tot.bind_iff]
  refine (sizes_law hr).mono fun n hn => ?_
  have := fill_law hr hv hn hm 6 0 fu (Vector.replicate 6 0) [] (by omega) (by omega) (fun q hq hq0 => by omega) (by simp; omega)
  rw [show ((0 : Nat) : Int) = 0 from rfl] at this
  rw [this, Option.bind_some, Tot.some_iff]
  unfold allCuts
  simp only [List.nil_append]
  congr 1
theorem refmust_step {h : List Event} {T : List (List Bool)} {l : List (Vector Int 6)} {v : Vector Int 6} {i : Nat} {m : List ((Vector Int 6) × Int)} (hr : Right h) (hT : RightT h T) (hv : IsSizes h v) (hl : l = allCuts h (many (base h) 0)) (hi : i < l.length) (hll : l.length ≤ 5000)
    (hm : ∀ d, (mget m d).getD 0 > 0 ↔ (∃ j, i < j ∧ l[j]? = some d) ∧ Bwd (Un h T) v d) (hm0 : ∀ d, 0 ≤ (mget m d).getD 0) :
    Tot (partref_Must_B0 h T l ((i : Int), m)) fun o => ∃ m', o = .go ((i : Int) - 1, m') ∧ (∀ d, 0 ≤ (mget m' d).getD 0) ∧ ∀ d, (mget m' d).getD 0 > 0 ↔ (∃ j, i ≤ j ∧ l[j]? = some d) ∧ Bwd (Un h T) v d := by
  have hlen := hr.1
  have hc : l[i]? = some l[i] := by simp [hi]
  unfold partref_Must_B0
  simp only
  rw [decide_eq_true (show (i : Int) ≥ 0 by omega), cond_true, lat_lt hi, Option.bind_some, w64_id (x := (i : Int) - 1) (by omega) (by omega)]
  generalize l[i] = c at hc
  have hmem : c ∈ allCuts h (many (base h) 0) := hl ▸ List.mem_of_getElem? hc
  obtain ⟨hcut, hcl⟩ := all_cut hmem
  rw [Tot.bind_iff]
  refine (so_law hT hcut).mono fun b hb => ?_
  have fin : ∀ m' : List ((Vector Int 6) × Int), (∀ d, d ≠ c → mget m' d = mget m d) → ((mget m' c).getD 0 > 0 ↔ Bwd (Un h T) v c) →
      ∀ d, (mget m' d).getD 0 > 0 ↔ (∃ j, i ≤ j ∧ l[j]? = some d) ∧ Bwd (Un h T) v d := by
    intro m' h1 h2 d
    by_cases ed : d = c
    · subst ed
      rw [h2]
      exact ⟨fun k => ⟨⟨i, by omega, hc⟩, k⟩, fun k => k.2⟩
    · rw [h1 d ed, hm d]
      constructor
      · rintro ⟨⟨j, a, b⟩, k⟩; exact ⟨⟨j, by omega, b⟩, k⟩
      · rintro ⟨⟨j, a, b⟩, k⟩
        refine ⟨⟨j, ?_, b⟩, k⟩
        rcases Nat.lt_or_ge i j with q | q
        · exact q
        · have : j = i := by omega
          subst this; rw [hc] at b; exact absurd (Option.some.inj b).symm ed
  have hc0 : ¬ (mget m c).getD 0 > 0 := fun hq => by
    obtain ⟨⟨j, a, b⟩, _⟩ := (hm c).1 hq
    have := index_one hl hc b
    omega
  rw [Tot.ite_iff]
  refine ⟨fun k => ?_, fun k => ?_⟩
  · rw [Tot.some_iff]
    refine ⟨m, rfl, hm0, fin m (fun _ _ => rfl) ⟨fun q => absurd q hc0, fun q => absurd (hb.1 k) q.mem.2⟩⟩
  · have hns : ¬ Sat T c := fun q => by rw [hb.2 q] at k; cases k
    have hU : Un h T c := ⟨hmem, hns⟩
    rw [Tot.bind_iff]
    refine (sizes_law hr).mono fun v' hv' => ?_
    obtain rfl := hv'.one hv
    rw [Tot.bind_iff]
    have hloop : Tot (rangeF (partref_Must_B2 m c) 6 0 (decide (c = v'))) fun ok => ok = true ↔ (c = v' ∨ ∃ p, p < 6 ∧ Bwd (Un h T) v' (inc c p)) := by
      refine Tot.rangeF (fun k ok => ok = true ↔ (c = v' ∨ ∃ p, p < k ∧ Bwd (Un h T) v' (inc c p))) (by simp) ?_ fun _ q => q
      intro p ok _ hp g
      have hp : p < 6 := by omega
      have hle := cntP_le' (h := h) (p := (p : Int)) (j := h.length)
      obtain ⟨c1, c2⟩ := hcut p hp
      unfold partref_Must_B2
      simp only [vat_lt _ hp, Option.bind_some]
      rw [Tot.let_iff, Int.toNat_natCast, w64_id (by omega) (by omega)]
      have ed : c.setIfInBounds p (c[p] + 1) = inc c p := by unfold inc; rw [Vector.getElem?_eq_getElem hp, Option.getD_some]
      have hF : (mget m (inc c p)).getD 0 > 0 ↔ Bwd (Un h T) v' (inc c p) := by
        rw [hm]
        exact ⟨fun q => q.2, fun q => ⟨behind_take hl hc hp (by rw [hl]; exact q.mem.1), q⟩⟩
      rw [ed, or_some, Option.bind_some, Tot.some_iff, Bool.or_eq_true, decide_eq_true_eq, hF, g]
      constructor
      · rintro ((a | ⟨r, a, b⟩) | a)
        · exact .inl a
        · exact .inr ⟨r, by omega, b⟩
        · exact .inr ⟨p, by omega, a⟩
      · rintro (a | ⟨r, a, b⟩)
        · exact .inl (.inl a)
        · by_cases er : r = p
          · subst er; exact .inr b
          · exact .inl (.inr ⟨r, by omega, b⟩)
    refine hloop.mono fun ok hok => ?_
    have hB : ok = true ↔ Bwd (Un h T) v' c := by
      rw [hok, bwd_iff]
      exact ⟨fun q => ⟨hU, q⟩, fun q => q.2⟩
    rw [Tot.ite_iff]
    refine ⟨fun q => ?_, fun q => ?_⟩
    · rw [Tot.let_iff, Tot.some_iff]
      refine ⟨_, rfl, fun d => ?_, fin _ (fun d hd => by rw [mget_mset, if_neg hd]) ?_⟩
      · rw [mget_mset]
        split
        · decide
        · exact hm0 d
      rw [mget_mset, if_pos rfl]
      exact ⟨fun _ => hB.1 q, fun _ => by simp⟩
    · rw [Tot.some_iff]
      exact ⟨m, rfl, hm0, fin m (fun _ _ => rfl) ⟨fun a => absurd a hc0, fun a => by rw [hB.2 a] at q; cases q⟩⟩
open Classical in
theorem refmust_law {h : List Event} {T : List (List Bool)} {fu : Nat} (hfu : 5000 ≤ fu) (hfu2 : fu ≤ 2 ^ 30) (hm : many (base h) 0 ≤ 4096) (hr : Right h) (hT : RightT h T) : partref_Must fu h T = some (decide (¬ Bwd (Un h T) (vecOf (base h) (many (base h) 0 - 1)) (Vector.replicate 6 0))) := by
  obtain ⟨v, _, hv⟩ := counts_law hr
  refine Tot.eq ?_
  unfold partref_Must
  rw [cuts_law hr (by omega) hfu2 hm, Option.bind_some]
  have hll : (allCuts h (many (base h) 0)).length ≤ 4096 := Nat.le_trans allCuts_len hm
  have hz := all_zero (h := h)
  generalize hl : allCuts h (many (base h) 0) = l at hll hz
  rw [w64_id (by omega) (by omega), Tot.andThen_iff]
  refine Tot.whileM (fun z : Int × List ((Vector Int 6) × Int) => ∃ i : Nat, i ≤ l.length ∧ z.1 = (i : Int) - 1 ∧ (∀ d, 0 ≤ (mget z.2 d).getD 0) ∧ ∀ d, (mget z.2 d).getD 0 > 0 ↔ (∃ j, i ≤ j ∧ l[j]? = some d) ∧ Bwd (Un h T) v d) (fun z => (z.1 + 1).toNat) ⟨l.length, Nat.le_refl _, rfl, fun d => by rw [mget_nil]; decide, fun d => ?_⟩ (by simp; omega) ?_
  · rw [mget_nil]
    simp only [Option.getD_none, gt_iff_lt, Int.lt_irrefl, false_iff]
    rintro ⟨⟨j, a, b⟩, _⟩
    rw [List.getElem?_eq_none (by omega)] at b; cases b
  · rintro ⟨z, m⟩ ⟨i, hi, hz, hm0, hm⟩
    simp only at hz hm hm0
    subst hz
    rcases Nat.eq_zero_or_pos i with rfl | hpos
    · unfold partref_Must_B0
      simp only
      rw [decide_eq_false (by omega), cond_false, Tot.some_iff]
      show Tot (some _) _
      rw [Tot.some_iff, whole_sizes hv, Bool.eq_iff_iff, beq_iff_eq, decide_eq_true_eq]
      have g := hm (Vector.replicate 6 0)
      have : (∃ j, 0 ≤ j ∧ l[j]? = some (Vector.replicate 6 (0 : Int))) := by
        obtain ⟨j, hj⟩ := List.getElem?_of_mem hz
        exact ⟨j, by omega, hj⟩
      have g0 := hm0 (Vector.replicate 6 0)
      generalize (mget m (Vector.replicate 6 (0 : Int))).getD 0 = y at g g0 ⊢
      constructor
      · intro k q
        have := g.2 ⟨this, q⟩
        omega
      · intro k
        have h1 : ¬ y > 0 := fun q => k (g.1 q).2
        omega
    · obtain ⟨r, rfl⟩ : ∃ r, i = r + 1 := ⟨i - 1, by omega⟩
      have e : ((r + 1 : Nat) : Int) - 1 = (r : Int) := by omega
      rw [e]
      refine (refmust_step hr hT hv hl.symm (by omega) (by omega) (fun d => hm d) hm0).mono ?_
      rintro o ⟨m', rfl, g0, g⟩
      exact ⟨⟨r, by omega, rfl, g0, g⟩, by simp⟩
end Go.Proofs.Ytclmlddmgccfjaa
