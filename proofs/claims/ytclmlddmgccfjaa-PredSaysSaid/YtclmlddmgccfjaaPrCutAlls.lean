/-
  All consistent cuts, in order.
-/
import Derived.Test.YtclmlddmgccfjaaPrCuts
import Derived.Test.YtclmlddmgccfjaaPrMixed
namespace Go.Proofs.Ytclmlddmgccfjaa
open Enc

/-- With an event all that is before it. -/
def Closed (h : List Event) (c : Vector Int 6) : Prop := ∀ k, InC h c k → Shrunk h c k
theorem closed_iff {h : List Event} {c d : Vector Int 6} (hr : Right h) (hc : IsCut h c) (hd : Below h d (Grown h c)) : d = c ↔ Closed h c := by
  constructor
  · rintro rfl k hk j hj
    have hjl : j < h.length := Nat.lt_of_le_of_lt hj.le hk.lt
    have hx : h[j]? = some h[j] := by simp [hjl]
    obtain ⟨r1, r2, _, _⟩ := hr.2.range hjl hx
    obtain ⟨p, hp⟩ := int_nat r1
    have hp6 : p < 6 := by omega
    have := ((hd p hp6).iff j _ hx hp).1 ⟨k, hk, hj⟩
    exact (inC_iff hx hp6 hp).2 this
  · intro k
    refine hd.one fun p hp => (hc.below p hp).congr fun i x hx e => ⟨?_, fun q => ⟨i, q, .inl rfl⟩⟩
    rintro ⟨m, a, b⟩
    exact k m a i b
/-- The number of choices at a process. -/
def base (h : List Event) (p : Nat) : Nat := cntP h (p : Int) h.length + 1
theorem base_pos {h : List Event} (p : Nat) : 0 < base h p := Nat.succ_pos _
theorem vecOf_cut {h : List Event} {t : Nat} : IsCut h (vecOf (base h) t) := by
  intro p hp
  rw [vecOf_get hp]
  have := dig_lt (N := base h) base_pos (t := t) (q := p)
  have e : base h p = cntP h (p : Int) h.length + 1 := rfl
  omega
open Classical in
noncomputable def allCuts (h : List Event) (n : Nat) : List (Vector Int 6) := ((List.range n).map (vecOf (base h))).filter fun c => decide (Closed h c)
theorem allCuts_succ {h : List Event} {n : Nat} : (Closed h (vecOf (base h) n) → allCuts h (n + 1) = allCuts h n ++ [vecOf (base h) n]) ∧ (¬ Closed h (vecOf (base h) n) → allCuts h (n + 1) = allCuts h n) := by
  unfold allCuts
  rw [List.range_succ, List.map_append, List.filter_append]
  exact ⟨fun k => by simp [k], fun k => by simp [k]⟩
theorem allCuts_len {h : List Event} {n : Nat} : (allCuts h n).length ≤ n := by
  unfold allCuts
  exact Nat.le_trans (List.length_filter_le _ _) (by simp)
theorem many_le {h : List Event} (hl : h.length ≤ 60) (p : Nat) : many (base h) p ≤ 61 ^ (6 - p) := by
  unfold many
  generalize 6 - p = d
  induction d with
  | zero => simp [mm]
  | succ d ih =>
    have : base h (5 - d) ≤ 61 := by have := cntP_le' (h := h) (p := ((5 - d : Nat) : Int)) (j := h.length); unfold base; omega
    show base h (5 - d) * _ ≤ _
    rw [Nat.pow_succ, Nat.mul_comm]
    exact Nat.mul_le_mul ih this
/-- The product of the bases, from the first on. -/
theorem prod_law {h : List Event} {v : Vector Int 6} (hl : h.length ≤ 60) (hv : IsSizes h v) {body : Nat → Int → Option Int} (hb : ∀ i z, body i z = (vat v (i : Int)).bind fun x => some (w64 (z * w64 (x + 1)))) :
    rangeF body 6 0 1 = some (many (base h) 0 : Int) := by
  have h0 := many_le hl 0
  have key : ∀ p, p < 6 → ∀ z : Nat, (z : Int) * many (base h) p = many (base h) 0 → body p z = some (((z * base h p : Nat) : Int)) := by
    intro p hp z hz
    rw [hb, vat_lt _ hp, Option.bind_some, hv p hp]
    have hle := cntP_le' (h := h) (p := (p : Int)) (j := h.length)
    have e1 : w64 ((cntP h p h.length : Int) + 1) = (base h p : Int) := by rw [w64_id (by omega) (by omega)]; unfold base; push_cast; rfl
    rw [e1]
    have hz' : z * many (base h) p = many (base h) 0 := by exact_mod_cast hz
    have hpos := many_pos (N := base h) base_pos (p + 1)
    have hle2 : z * base h p ≤ many (base h) 0 := by
      rw [← hz', many_step hp, ← Nat.mul_assoc]
      exact Nat.le_mul_of_pos_right _ hpos
    have h60 : (61 : Nat) ^ (6 - 0) ≤ 2 ^ 40 := by decide
    rw [show (z : Int) * (base h p : Int) = ((z * base h p : Nat) : Int) by push_cast; rfl]
    congr 1
    exact w64_id (by omega) (by omega)
  refine Tot.eq (Tot.rangeF (fun p z => p ≤ 6 ∧ ∃ n : Nat, z = (n : Int) ∧ n * many (base h) p = many (base h) 0) ⟨by omega, 1, rfl, by simp⟩ ?_ ?_)
  · rintro p z _ hp ⟨_, n, rfl, hn⟩
    rw [key p (by omega) n (by exact_mod_cast hn), Tot.some_iff]
    exact ⟨by omega, _, rfl, by rw [← hn, many_step (show p < 6 by omega), Nat.mul_assoc]⟩
  · rintro z ⟨_, n, rfl, hn⟩
    rw [show (0 + 6 : Nat) = 6 from rfl, many_end, Nat.mul_one] at hn
    rw [hn]
theorem odometer {h : List Event} {v : Vector Int 6} {i fu : Nat} (hl : h.length ≤ 60) (hv : IsSizes h v) (hfu : 100 ≤ fu) : Tot (whileM (cut_All_B4 v) fu ((5 : Int), vecOf (base h) i)) fun o => ∃ p, o = .inl (p, vecOf (base h) (i + 1)) := by
  refine Tot.whileM (fun z : Int × Vector Int 6 => ∃ p : Nat, p ≤ 6 ∧ z.1 = (p : Int) - 1 ∧ many (base h) p ∣ i + 1 ∧ ∀ (q : Nat) (hq : q < 6), z.2[q] = if q < p then (dig (base h) i q : Int) else (dig (base h) (i + 1) q : Int)) (fun z : Int × Vector Int 6 => (z.1 + 1).toNat) ⟨6, by omega, rfl, by rw [many_end]; exact Nat.one_dvd _, fun q hq => by rw [vecOf_get hq, if_pos hq]⟩ (by omega) ?_
  rintro ⟨z, c⟩ ⟨p, hp, hz, hd, hc⟩
  simp only at hz hc
  subst hz
  unfold cut_All_B4
  simp only
  rw [Tot.ite_iff]
  refine ⟨fun k => ?_, fun k => ?_⟩
  · have k : 0 ≤ (p : Int) - 1 := by simpa using k
    obtain ⟨r, rfl⟩ : ∃ r, p = r + 1 := ⟨p - 1, by omega⟩
    have hr : r < 6 := by omega
    have er : ((r + 1 : Nat) : Int) - 1 = (r : Int) := by omega
    rw [er, vat_lt _ hr, vat_lt _ hr, Option.bind_some, Option.bind_some, hc r hr, hv r hr, if_pos (by omega)]
    have hcar := carry (N := base h) base_pos hr hd
    have hle := cntP_le' (h := h) (p := (r : Int)) (j := h.length)
    have hdl := dig_lt (N := base h) base_pos (t := i) (q := r)
    have eb : base h r = cntP h r h.length + 1 := rfl
    rw [Tot.ite_iff]
    refine ⟨fun k => ?_, fun k => ?_⟩
    · have k : dig (base h) i r < cntP h r h.length := by simpa using k
      obtain ⟨c1, c2⟩ := hcar.1 (by omega)
      simp only [Option.bind_some, Tot.let_iff, Tot.some_iff, Int.toNat_natCast]
      refine ⟨(r : Int), ?_⟩
      congr 2
      apply Vector.ext
      intro q hq
      rw [vecOf_get hq]
      rcases Nat.lt_trichotomy q r with e | e | e
      · rw [Vector.getElem_setIfInBounds_ne hq (by omega), hc q hq, if_pos (by omega), c2 q e]
      · subst e
        rw [Vector.getElem_setIfInBounds_self, w64_id (by omega) (by omega), c1]; push_cast; rfl
      · rw [Vector.getElem_setIfInBounds_ne hq (by omega), hc q hq, if_neg (by omega)]
    · have k : ¬ dig (base h) i r < cntP h r h.length := by simpa using k
      obtain ⟨c1, c2⟩ := hcar.2 (by omega)
      simp only [Option.bind_some, Tot.let_iff, Tot.some_iff, Int.toNat_natCast]
      have e64 : w64 ((r : Int) - 1) = (r : Int) - 1 := w64_id (by omega) (by omega)
      refine ⟨⟨r, by omega, e64, c2, fun q hq => ?_⟩, by rw [e64]; omega⟩
      by_cases e : r = q
      · subst e; rw [Vector.getElem_setIfInBounds_self, if_neg (by omega), c1]; rfl
      · rw [Vector.getElem_setIfInBounds_ne hq e, hc q hq]
        by_cases e2 : q < r
        · rw [if_pos (by omega), if_pos e2]
        · rw [if_neg (by omega), if_neg e2]
  · have k : ¬ 0 ≤ (p : Int) - 1 := by simpa using k
    have : p = 0 := by omega
    subst this
    rw [Tot.some_iff]
    refine ⟨((0 : Nat) : Int) - 1, ?_⟩
    congr 2
    apply Vector.ext
    intro q hq
    rw [hc q hq, vecOf_get hq, if_neg (by omega)]
theorem all_law {h : List Event} {fu : Nat} (hr : Right h) (hfu : 100 ≤ fu) : cut_All fu h = some (if many (base h) 0 > 4096 then ([], 2) else (allCuts h (many (base h) 0), 0)) := by
  have hlen := hr.1
  refine Tot.eq ?_
  unfold cut_All
  rw [Tot.bind_iff]
  refine (check_law h).mono fun e he => ?_
  obtain rfl := he.of_right hr
  rw [bne_self_eq_false, cond_false, Tot.bind_iff]
  refine (counts_law hr).mono fun v hv => ?_
  rw [prod_law hlen hv (fun i z => by rfl), Option.bind_some]
  by_cases hm : many (base h) 0 > 4096
  · rw [if_pos hm, decide_eq_true (show (many (base h) 0 : Int) > 4096 by omega), cond_true, Tot.some_iff]
  · rw [if_neg hm, decide_eq_false (show ¬ (many (base h) 0 : Int) > 4096 by omega), cond_false, Tot.bind_iff]
    refine (table_law hr).mono fun l hl => ?_
    rw [Tot.bind_iff, Tot.upTo_iff, Int.toNat_natCast]
    refine ⟨by omega, ?_⟩
    rw [Tot.bind_iff]
    refine Tot.rangeF (fun i z => z.1 = vecOf (base h) i ∧ z.2 = allCuts h i) ⟨?_, rfl⟩ ?_ ?_
    · apply Vector.ext
      intro q hq
      rw [vecOf_get hq, Vector.getElem_replicate]
      unfold dig
      rw [Nat.zero_div, Nat.zero_mod]; rfl
    · rintro i ⟨c, out⟩ _ hi ⟨h1, h2⟩
      simp only at h1 h2
      subst h1 h2
      unfold cut_All_B2
      simp only
      rw [Tot.bind_iff, Tot.bind_iff, Tot.bind_iff]
      refine (grown_law hr hl vecOf_cut).mono fun d hd => ?_
      have hcl := closed_iff hr vecOf_cut hd
      have hsucc := allCuts_succ (h := h) (n := i)
      have hl2 := allCuts_len (h := h) (n := i)
      have hout : (bif decide (d = vecOf (base h) i) then ((room (allCuts h i) ([vecOf (base h) i] : List (Vector Int 6))).bind fun u58 => some (allCuts h i ++ ([vecOf (base h) i] : List (Vector Int 6)))) else some (allCuts h i)) = some (allCuts h (i + 1)) := by
        by_cases k : d = vecOf (base h) i
        · rw [decide_eq_true k, cond_true, room_ok (by simp; omega), Option.bind_some, hsucc.1 (hcl.1 k)]
        · rw [decide_eq_false k, cond_false, hsucc.2 fun q => k (hcl.2 q)]
      rw [hout, Tot.some_iff, Tot.andThen_iff]
      refine (odometer hlen hv hfu).mono ?_
      rintro o ⟨p, rfl⟩
      show Tot (some _) _
      rw [Tot.some_iff, Tot.some_iff]
      exact ⟨rfl, rfl⟩
    · rintro ⟨c, out⟩ ⟨_, h2⟩
      simp only at h2
      rw [Nat.zero_add] at h2
      subst h2
      exact Tot.some_iff.2 rfl
theorem all_bad {h : List Event} {c : Int} {fu : Nat} (hc : HistCode h c) (h0 : c ≠ 0) : cut_All fu h = some ([], c) := by
  refine Tot.eq ?_
  unfold cut_All
  rw [Tot.bind_iff]
  refine (check_law h).mono fun d hd => ?_
  obtain rfl := hc.one hd
  rw [show (c != 0) = true by simpa using h0]
  exact Tot.some_iff.2 rfl
theorem room_law {h : List Event} (hr : Right h) : partref_Room h = some (many (base h) 0 : Int) := by
  refine Tot.eq ?_
  unfold partref_Room
  rw [Tot.bind_iff]
  refine (sizes_law hr).mono fun v hv => ?_
  rw [prod_law hr.1 hv (fun i z => by rfl), Option.bind_some, Tot.some_iff]
theorem rightcut_law {h : List Event} {vs : List (Vector Int 6)} {c : Vector Int 6} (hr : Right h) (hv : Vecs h vs) (hc : IsCut h c) : Tot (partref_rightCut h vs c) fun b => b = true ↔ Closed h c := by
  unfold partref_rightCut
  rw [Tot.bind_iff]
  refine (incut_law hr).mono ?_
  rintro a ⟨ha, ha2⟩
  rw [Tot.andThen_iff]
  refine Tot.rangeM (fun i _ => ∀ k, k < i → InC h c k → Shrunk h c k) (fun k hk => by omega) ?_ ?_
  · intro i _ _ hi hI
    have hi : i < h.length := by omega
    obtain ⟨b, hb, hb2⟩ := ha2 i hi
    unfold partref_rightCut_B0
    rw [lat_nat, hb, Option.bind_some, Tot.bind_iff, Tot.ite_iff]
    have hvi : i < vs.length := by rw [hv.1]; exact hi
    have hbel := hv.2 i vs[i] (by simp [hvi])
    refine ⟨fun k => ?_, fun k => Tot.some_iff.2 (Tot.some_iff.2 fun m hm hin => ?_)⟩
    · rw [lat_lt hvi, Option.bind_some, refcompare_law, Option.bind_some, Tot.some_iff, Tot.ite_iff]
      have hs := shrunk_iff hr hc hi hbel
      refine ⟨fun q => Tot.some_iff.2 ?_, fun q => Tot.some_iff.2 fun m hm hin => ?_⟩
      · show (false = true) ↔ Closed h c
        refine ⟨fun e => absurd e (by decide), fun cl => ?_⟩
        have q : cmpV vs[i] c > 1 := by simpa using q
        have := hs.2 (cl i (hb2.1 k))
        unfold cmpV at q
        split at q
        · omega
        · omega
      · by_cases e : m = i
        · subst e
          refine hs.1 ?_
          have q : ¬ cmpV vs[m] c > 1 := by simpa using q
          refine Classical.byContradiction fun hn => q ?_
          unfold cmpV
          split
          · rename_i e; exact absurd (e ▸ LeV.refl _) hn
          · split <;> omega
        · exact hI m (by omega) hin
    · by_cases e : m = i
      · subst e; rw [hb2.2 hin] at k; cases k
      · exact hI m (by omega) hin
  · intro _ hI
    exact Tot.some_iff.2 ⟨fun _ k hk => hI k (by have := hk.lt; omega) hk, fun _ => rfl⟩
open Classical in
theorem fill_law {h : List Event} {vs : List (Vector Int 6)} {n : Vector Int 6} (hr : Right h) (hv : Vecs h vs) (hn : IsSizes h n) (hm : many (base h) 0 ≤ 4096) : ∀ (d p : Nat) (fu : Nat) (c : Vector Int 6) (out : List (Vector Int 6)), p + d = 6 → d < fu → (∀ (q : Nat) (hq : q < 6), q < p → 0 ≤ c[q] ∧ c[q] ≤ (cntP h q h.length : Int)) → out.length + many (base h) p ≤ 2 ^ 30 →
    partref_Cuts_1 fu c (p : Int) h vs out n = some (out ++ ((List.range (many (base h) p)).map (setFrom (base h) p c)).filter fun c => decide (Closed h c)) := by
  have hlen := hr.1
  intro d
  induction d with
  | zero =>
    intro p fu c out hp hfu hc ho
    obtain ⟨fu, rfl⟩ : ∃ k, fu = k + 1 := ⟨fu - 1, by omega⟩
    have : p = 6 := by omega
    subst this
    refine Tot.eq ?_
    show Tot (partref_Cuts_1_R (partref_Cuts_1 fu) c ((6 : Nat) : Int) h vs out n) _
    unfold partref_Cuts_1_R
    rw [show (((6 : Nat) : Int) == 6) = true by decide, cond_true, many_end, Tot.bind_iff, Tot.bind_iff]
    refine (rightcut_law hr hv fun q hq => hc q hq hq).mono fun b hb => ?_
    simp only [List.range_one, List.map_cons, List.map_nil, setFrom_end]
    rw [Tot.ite_iff]
    refine ⟨fun k => ?_, fun k => ?_⟩
    · rw [room_ok (by simp; omega), Option.bind_some, Tot.some_iff, Tot.some_iff]
      simp [hb.1 k]
    · have : ¬ Closed h c := fun q => by rw [hb.2 q] at k; cases k
      rw [Tot.some_iff, Tot.some_iff]
      simp [this]
  | succ d ih =>
    intro p fu c out hp hfu hc ho
    obtain ⟨fu, rfl⟩ : ∃ k, fu = k + 1 := ⟨fu - 1, by omega⟩
    have hp6 : p < 6 := by omega
    refine Tot.eq ?_
    show Tot (partref_Cuts_1_R (partref_Cuts_1 fu) c (p : Int) h vs out n) _
    unfold partref_Cuts_1_R
    have hle := cntP_le' (h := h) (p := (p : Int)) (j := h.length)
    have e1 : w64 ((cntP h p h.length : Int) + 1) = (base h p : Int) := by rw [w64_id (by omega) (by omega)]; unfold base; push_cast; rfl
    rw [show ((p : Int) == 6) = false by simp; omega, cond_false, vat_lt _ hp6, Option.bind_some, hn p hp6, e1, Tot.bind_iff, Tot.upTo_iff, Int.toNat_natCast]
    refine ⟨by unfold base; omega, ?_⟩
    rw [Tot.bind_iff]
    have hM : many (base h) p ≤ 4096 := by
      refine Nat.le_trans (Nat.le_of_dvd (many_pos base_pos 0) (many_dvd (N := base h) (show 0 ≤ p by omega) (by omega))) hm
    refine Tot.rangeF (fun k z => (∀ (q : Nat) (hq : q < 6), q < p → z.1[q] = c[q]) ∧ z.2 = out ++ ((List.range (k * many (base h) (p + 1))).map (setFrom (base h) p c)).filter fun c => decide (Closed h c)) ⟨fun _ _ _ => rfl, by simp⟩ ?_ ?_
    · rintro k ⟨z, o⟩ _ hk ⟨h1, h2⟩
      simp only at h1 h2
      subst h2
      have hk : k < base h p := by omega
      unfold partref_Cuts_1_B0
      simp only
      rw [vat_lt _ hp6, Option.bind_some, Tot.let_iff, Int.toNat_natCast, show w64 ((p : Int) + 1) = ((p + 1 : Nat) : Int) by rw [w64_id (by omega) (by omega)]; push_cast; rfl]
      have hol : (out ++ ((List.range (k * many (base h) (p + 1))).map (setFrom (base h) p c)).filter fun c => decide (Closed h c)).length + many (base h) (p + 1) ≤ 2 ^ 30 := by
        rw [List.length_append]
        have h3 := List.length_filter_le (fun c => decide (Closed h c)) ((List.range (k * many (base h) (p + 1))).map (setFrom (base h) p c))
        simp only [List.length_map, List.length_range] at h3
        have h4 : (k + 1) * many (base h) (p + 1) ≤ base h p * many (base h) (p + 1) := Nat.mul_le_mul_right _ hk
        rw [← many_step hp6, Nat.succ_mul] at h4
        omega
      rw [ih (p + 1) fu _ _ (by omega) (by omega) ?_ hol, Option.bind_some, Tot.some_iff]
      · refine ⟨fun q hq hqp => ?_, ?_⟩
        · rw [Vector.getElem_setIfInBounds_ne hq (by omega)]; exact h1 q hq hqp
        · have hmap : (List.range ((k + 1) * many (base h) (p + 1))).map (setFrom (base h) p c) = (List.range (k * many (base h) (p + 1))).map (setFrom (base h) p c) ++ (List.range (many (base h) (p + 1))).map (setFrom (base h) (p + 1) (z.setIfInBounds p (k : Int))) := by
            rw [Nat.succ_mul, List.range_add, List.map_append, List.map_map]
            congr 1
            apply List.map_congr_left
            intro t ht
            rw [List.mem_range] at ht
            exact (setFrom_next base_pos hp6 ht hk h1).symm
          show (out ++ _) ++ _ = out ++ _
          rw [hmap, List.filter_append, List.append_assoc]
      · intro q hq hqp
        by_cases e : q = p
        · subst e
          rw [Vector.getElem_setIfInBounds_self]
          unfold base at hk; omega
        · rw [Vector.getElem_setIfInBounds_ne hq (by omega), h1 q hq (by omega)]
          exact hc q hq (by omega)
    · rintro ⟨z, o⟩ ⟨_, h2⟩
      simp only at h2
      subst h2
      rw [Nat.zero_add, ← many_step hp6]
      exact Tot.some_iff.2 rfl
end Go.Proofs.Ytclmlddmgccfjaa
