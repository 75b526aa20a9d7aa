/-
  All consistent cuts, in order.
-/
import Derived.Test.YtclmlddmgccfjaaTlCuts
import Derived.Test.YtclmlddmgccfjaaTlMixed
namespace Go.Proofs.Ytclmlddmgccfjaa
open Enc

/-- With an event all that is before it. -/
def Closed (h : List Event) (c : Vector Int 6) : Prop := ∀ k, InC h c k → Shrunk h c k
theorem closed_iff {h : List Event} {c d : Vector Int 6} (hr : Right h) (hc : IsCut h c) (hd : Below h d (Grown h c)) : d = c ↔ Closed h c := by
  constructor
  · rintro rfl k hk j hj
    have hjl : j < h.length := Nat.lt_of_le_of_lt hj.le hk.lt
    have hx : h[j]? = some h[j] := by simp [hjl]
    obtain ⟨r1, r2, _, _⟩ := hr.2.range hjl hx
    obtain ⟨p, hp⟩ := int_nat r1
    have hp6 : p < 6 := by omega
    have := ((hd p hp6).iff j _ hx hp).1 ⟨k, hk, hj⟩
    exact (inC_iff hx hp6 hp).2 this
  · intro k
    refine hd.one fun p hp => (hc.below p hp).congr fun i x hx e => ⟨?_, fun q => ⟨i, q, .inl rfl⟩⟩
    rintro ⟨m, a, b⟩
    exact k m a i b
/-- The number of choices at a process. -/
def base (h : List Event) (p : Nat) : Nat := cntP h (p : Int) h.length + 1
theorem base_pos {h : List Event} (p : Nat) : 0 < base h p := Nat.succ_pos _
theorem vecOf_cut {h : List Event} {t : Nat} : IsCut h (vecOf (base h) t) := by
  intro p hp
  rw [vecOf_get hp]
  have := dig_lt (N := base h) base_pos (t := t) (q := p)
  have e : base h p = cntP h (p : Int) h.length + 1 := rfl
  omega
open Classical in
noncomputable def allCuts (h : List Event) (n : Nat) : List (Vector Int 6) := ((List.range n).map (vecOf (base h))).filter fun c => decide (Closed h c)
theorem allCuts_succ {h : List Event} {n : Nat} : (Closed h (vecOf (base h) n) → allCuts h (n + 1) = allCuts h n ++ [vecOf (base h) n]) ∧ (¬ Closed h (vecOf (base h) n) → allCuts h (n + 1) = allCuts h n) := by
  unfold allCuts
  rw [List.range_succ, List.map_append, List.filter_append]
  exact ⟨fun k => by simp [k], fun k => by simp [k]⟩
theorem allCuts_len {h : List Event} {n : Nat} : (allCuts h n).length ≤ n := by
  unfold allCuts
  exact Nat.le_trans (List.length_filter_le _ _) (by simp)
theorem many_le {h : List Event} (hl : h.length ≤ 60) (p : Nat) : many (base h) p ≤ 61 ^ (6 - p) := by
  unfold many
  generalize 6 - p = d
  induction d with
  | zero => simp [mm]
  | succ d ih =>
    have : base h (5 - d) ≤ 61 := by have := cntP_le' (h := h) (p := ((5 - d : Nat) : Int)) (j := h.length); unfold base; omega
    show base h (5 - d) * _ ≤ _
    rw [Nat.pow_succ, Nat.mul_comm]
    exact Nat.mul_le_mul ih this
/-- The product of the bases, from the first on. -/
theorem prod_law {h : List Event} {v : Vector Int 6} (hl : h.length ≤ 60) (hv : IsSizes h v) {body : Nat → Int → Option Int} (hb : ∀ i z, body i z = (vat v (i : Int)).bind fun x => some (w64 (z * w64 (x + 1)))) :
    rangeF body 6 0 1 = some (many (base h) 0 : Int) := by
  have h0 := many_le hl 0
  have key : ∀ p, p < 6 → ∀ z : Nat, (z : Int) * many (base h) p = many (base h) 0 → body p z = some (((z * base h p : Nat) : Int)) := by
    intro p hp z hz
    rw [hb, vat_lt _ hp, Option.bind_some, hv p hp]
    have hle := cntP_le' (h := h) (p := (p : Int)) (j := h.length)
    have e1 : w64 ((cntP h p h.length : Int) + 1) = (base h p : Int) := by rw [w64_id (by omega) (by omega)]; unfold base; push_cast; rfl
    rw [e1]
    have hz' : z * many (base h) p = many (base h) 0 := by exact_mod_cast hz
    have hpos := many_pos (N := base h) base_pos (p + 1)
    have hle2 : z * base h p ≤ many (base h) 0 := by
      rw [← hz', many_step hp, ← Nat.mul_assoc]
      exact Nat.le_mul_of_pos_right _ hpos
    have h60 : (61 : Nat) ^ (6 - 0) ≤ 2 ^ 40 := by decide
    rw [show (z : Int) * (base h p : Int) = ((z * base h p : Nat) : Int) by push_cast; rfl]
    congr 1
    exact w64_id (by omega) (by omega)
  refine Tot.eq (Tot.rangeF (fun p z => p ≤ 6 ∧ ∃ n : Nat, z = (n : Int) ∧ n * many (base h) p = many (base h) 0) ⟨by omega, 1, rfl, by simp⟩ ?_ ?_)
  · rintro p z _ hp ⟨_, n, rfl, hn⟩
    rw [key p (by omega) n (by exact_mod_cast hn), Tot.some_iff]
    exact ⟨by omega, _, rfl, by rw [← hn, many_step (show p < 6 by omega), Nat.mul_assoc]⟩
  · rintro z ⟨_, n, rfl, hn⟩
    rw [show (0 + 6 : Nat) = 6 from rfl, many_end, Nat.mul_one] at hn
    rw [hn]
theorem odometer {h : List Event} {v : Vector Int 6} {i fu : Nat} (hl : h.length ≤ 60) (hv : IsSizes h v) (hfu : 100 ≤ fu) : Tot (whileM (cut_All_B4 v) fu ((5 : Int), vecOf (base h) i)) fun o => ∃ p, o = .inl (p, vecOf (base h) (i + 1)) := by
  refine Tot.whileM (fun z : Int × Vector Int 6 => ∃ p : Nat, p ≤ 6 ∧ z.1 = (p : Int) - 1 ∧ many (base h) p ∣ i + 1 ∧ ∀ (q : Nat) (hq : q < 6), z.2[q] = if q < p then (dig (base h) i q : Int) else (dig (base h) (i + 1) q : Int)) (fun z : Int × Vector Int 6 => (z.1 + 1).toNat) ⟨6, by omega, rfl, by rw [many_end]; exact Nat.one_dvd _, fun q hq => by rw [vecOf_get hq, if_pos hq]⟩ (by omega) ?_
  rintro ⟨z, c⟩ ⟨p, hp, hz, hd, hc⟩
  simp only at hz hc
  subst hz
  unfold cut_All_B4
  simp only
  rw [Tot.ite_iff]
  refine ⟨fun k => ?_, fun k => ?_⟩
  · have k : 0 ≤ (p : Int) - 1 := by simpa using k
    obtain ⟨r, rfl⟩ : ∃ r, p = r + 1 := ⟨p - 1, by omega⟩
    have hr : r < 6 := by omega
    have er : ((r + 1 : Nat) : Int) - 1 = (r : Int) := by omega
    rw [er, vat_lt _ hr, vat_lt _ hr, Option.bind_some, Option.bind_some, hc r hr, hv r hr, if_pos (by omega)]
    have hcar := carry (N := base h) base_pos hr hd
    have hle := cntP_le' (h := h) (p := (r : Int)) (j := h.length)
    have hdl := dig_lt (N := base h) base_pos (t := i) (q := r)
    have eb : base h r = cntP h r h.length + 1 := rfl
    rw [Tot.ite_iff]
    refine ⟨fun k => ?_, fun k => ?_⟩
    · have k : dig (base h) i r < cntP h r h.length := by simpa using k
      obtain ⟨c1, c2⟩ := hcar.1 (by omega)
      simp only [Option.bind_some, Tot.let_iff, Tot.some_iff, Int.toNat_natCast]
      refine ⟨(r : Int), ?_⟩
      congr 2
      apply Vector.ext
      intro q hq
      rw [vecOf_get hq]
      rcases Nat.lt_trichotomy q r with e | e | e
      · rw [Vector.getElem_setIfInBounds_ne hq (by omega), hc q hq, if_pos (by omega), c2 q e]
      · subst e
        rw [Vector.getElem_setIfInBounds_self, w64_id (by omega) (by omega), c1]; push_cast; rfl
      · rw [Vector.getElem_setIfInBounds_ne hq (by omega), hc q hq, if_neg (by omega)]
    · have k : ¬ dig (base h) i r < cntP h r h.length := by simpa using k
      obtain ⟨c1, c2⟩ := hcar.2 (by omega)
      simp only [Option.bind_some, Tot.let_iff, Tot.some_iff, Int.toNat_natCast]
      have e64 : w64 ((r : Int) - 1) = (r : Int) - 1 := w64_id (by omega) (by omega)
      refine ⟨⟨r, by omega, e64, c2, fun q hq => ?_⟩, by rw [e64]; omega⟩
      by_cases e : r = q
      · subst e; rw [Vector.getElem_setIfInBounds_self, if_neg (by omega), c1]; rfl
      · rw [Vector.getElem_setIfInBounds_ne hq e, hc q hq]
        by_cases e2 : q < r
        · rw [if_pos (by omega), if_pos e2]
        · rw [if_neg (by omega), if_neg e2]
  · have k : ¬ 0 ≤ (p : Int) - 1 := by simpa using k
    have : p = 0 := by omega
    subst this
    rw [Tot.some_iff]
    refine ⟨((0 : Nat) : Int) - 1, ?_⟩
    congr 2
    apply Vector.ext
    intro q hq
    rw [hc q hq, vecOf_get hq, if_neg (by omega)]
theorem all_law {h : List Event} {fu : Nat} (hr : Right h) (hfu : 100 ≤ fu) : cut_All fu h = some (if many (base h) 0 > 4096 then ([], 2) else (allCuts h (many (base h) 0), 0)) := by
  have hlen := hr.1
  refine Tot.eq ?_
  unfold cut_All
  rw [Tot.bind_iff]
  refine (check_law h).mono fun e he => ?_
  obtain rfl := he.of_right hr
  rw [bne_self_eq_false, cond_false, Tot.bind_iff]
  refine (counts_law hr).mono fun v hv => ?_
  rw [prod_law hlen hv (fun i z => by rfl), Option.bind_some]
  by_cases hm : many (base h) 0 > 4096
  · rw [if_pos hm, decide_eq_true (show (many (base h) 0 : Int) > 4096 by omega), cond_true, Tot.some_iff]
  · rw [if_neg hm, decide_eq_false (show ¬ (many (base h) 0 : Int) > 4096 by omega), cond_false, Tot.bind_iff]
    refine (table_law hr).mono fun l hl => ?_
    rw [Tot.bind_iff, Tot.upTo_iff, Int.toNat_natCast]
    refine ⟨by omega, ?_⟩
    rw [Tot.bind_iff]
    refine Tot.rangeF (fun i z => z.1 = vecOf (base h) i ∧ z.2 = allCuts h i) ⟨?_, rfl⟩ ?_ ?_
    · apply Vector.ext
      intro q hq
      rw [vecOf_get hq, Vector.getElem_replicate]
      unfold dig
      rw [Nat.zero_div, Nat.zero_mod]; rfl
    · rintro i ⟨c, out⟩ _ hi ⟨h1, h2⟩
      simp only at h1 h2
      subst h1 h2
      unfold cut_All_B2
      simp only
      rw [Tot.bind_iff, Tot.bind_iff, Tot.bind_iff]
      refine (grown_law hr hl vecOf_cut).mono fun d hd => ?_
      have hcl := closed_iff hr vecOf_cut hd
      have hsucc := allCuts_succ (h := h) (n := i)
      have hl2 := allCuts_len (h := h) (n := i)
      have hout : (bif decide (d = vecOf (base h) i) then ((room (allCuts h i) ([vecOf (base h) i] : List (Vector Int 6))).bind fun u58 => some (allCuts h i ++ ([vecOf (base h) i] : List (Vector Int 6)))) else some (allCuts h i)) = some (allCuts h (i + 1)) := by
        by_cases k : d = vecOf (base h) i
        · rw [decide_eq_true k, cond_true, room_ok (by simp; omega), Option.bind_some, hsucc.1 (hcl.1 k)]
        · rw [decide_eq_false k, cond_false, hsucc.2 fun q => k (hcl.2 q)]
      rw [hout, Tot.some_iff, Tot.andThen_iff]
      refine (odometer hlen hv hfu).mono ?_
      rintro o ⟨p, rfl⟩
      show Tot (some _) _
      rw [Tot.some_iff, Tot.some_iff]
      exact ⟨rfl, rfl⟩
    · rintro ⟨c, out⟩ ⟨_, h2⟩
      simp only at h2
      rw [Nat.zero_add] at h2
      subst h2
      exact Tot.some_iff.2 rfl
theorem all_bad {h : List Event} {c : Int} {fu : Nat} (hc : HistCode h c) (h0 : c ≠ 0) : cut_All fu h = some ([], c) := by
  refine Tot.eq ?_
  unfold cut_All
  rw [Tot.bind_iff]
  refine (check_law h).mono fun d hd => ?_
  obtain rfl := hc.one hd
  rw [show (c != 0) = true by simpa using h0]
  exact Tot.some_iff.2 rfl
end Go.Proofs.Ytclmlddmgccfjaa
