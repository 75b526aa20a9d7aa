/-
  Truth values at the states of processes; the first cut in which all hold.
-/
import Derived.Test.YtclmlddmgccfjaaPrCutAlls
namespace Go.Proofs.Ytclmlddmgccfjaa
open Enc

structure RightT (h : List Event) (T : List (List Bool)) : Prop where
  len : T.length = 6
  row : ∀ (p : Nat) (l : List Bool), p < 6 → T[p]? = some l → l.length = cntP h p h.length + 1
def TruthCode (h : List Event) (T : List (List Bool)) (r : Int) : Prop := (HistCode h r ∧ r ≠ 0) ∨ (Right h ∧ RightT h T ∧ r = 0) ∨ (Right h ∧ ¬ RightT h T ∧ r = 4)
theorem TruthCode.one {h : List Event} {T : List (List Bool)} {r s : Int} (h1 : TruthCode h T r) (h2 : TruthCode h T s) : r = s := by
  rcases h1 with ⟨a, b⟩ | ⟨a, b, rfl⟩ | ⟨a, b, rfl⟩ <;> rcases h2 with ⟨a', b'⟩ | ⟨a', b', rfl⟩ | ⟨a', b', rfl⟩
  · exact a.one a'
  · exact absurd (a.of_right a') b
  · exact absurd (a.of_right a') b
  · exact absurd (a'.of_right a) b'
  · rfl
  · exact absurd b b'
  · exact absurd (a'.of_right a) b'
  · exact absurd b' b
  · rfl
theorem TruthCode.ok {h : List Event} {T : List (List Bool)} (h1 : TruthCode h T 0) : Right h ∧ RightT h T := by
  rcases h1 with ⟨_, b⟩ | ⟨a, b, _⟩ | ⟨_, _, c⟩
  · exact absurd rfl b
  · exact ⟨a, b⟩
  · cases c
theorem truth_rows {h : List Event} {T : List (List Bool)} {v : Vector Int 6} (hr : Right h) (hv : IsSizes h v) (hT : T.length = 6) {body : Nat → Unit → Option (Ctl Unit Int)}
    (hb : ∀ i, i < 6 → body i () = (lat T (i : Int)).bind fun l => (vat v (i : Int)).bind fun x => bif (l.length : Int) != (w64 (x + (1 : Int))) then (some (.ret (4 : Int))) else some (.go ())) :
    Tot (rangeM body 6 0 ()) fun o => (o = .inl () ∧ RightT h T) ∨ (o = .inr 4 ∧ ¬ RightT h T) := by
  have hlen := hr.1
  refine Tot.rangeM (fun i _ => ∀ (p : Nat) (l : List Bool), p < i → T[p]? = some l → l.length = cntP h p h.length + 1) (fun p l hp => by omega) ?_ ?_
  · intro i _ _ hi hI
    have hi : i < 6 := by omega
    have hle := cntP_le' (h := h) (p := (i : Int)) (j := h.length)
    rw [hb i hi, lat_lt (by omega), Option.bind_some, vat_lt _ hi, Option.bind_some, hv i hi, w64_id (by omega) (by omega), Tot.ite_iff]
    have e : T[i]? = some (T[i]'(by omega)) := by simp [hT, hi]
    generalize T[i]'(by omega) = l at e
    refine ⟨fun k => Tot.some_iff.2 (.inr ⟨rfl, fun q => ?_⟩), fun k => Tot.some_iff.2 fun p m hp hm => ?_⟩
    · have := q.row i l hi e
      rw [this] at k
      simp at k
    · by_cases ep : p = i
      · subst ep
        rw [e] at hm
        obtain rfl := Option.some.inj hm
        simp at k; omega
      · exact hI p m (by omega) hm
  · intro _ hI
    exact .inl ⟨rfl, hT, fun p l hp => hI p l (by omega)⟩
theorem truth_ref (h : List Event) (T : List (List Bool)) : Tot (partref_TruthErr h T) (TruthCode h T) := by
  unfold partref_TruthErr
  rw [Tot.bind_iff]
  refine (ref_law h).mono fun e he => ?_
  rw [Tot.ite_iff]
  refine ⟨fun k => Tot.some_iff.2 (.inl ⟨he, by simpa using k⟩), fun k => ?_⟩
  have k' : e = 0 := by simpa using k
  subst k'
  have hr := he.right
  rw [Tot.ite_iff]
  refine ⟨fun k => Tot.some_iff.2 (.inr (.inr ⟨hr, fun q => by rw [q.len] at k; simp at k, rfl⟩)), fun k => ?_⟩
  have hT : T.length = 6 := by simp at k; omega
  rw [Tot.bind_iff]
  refine (sizes_law hr).mono fun v hv => ?_
  rw [Tot.andThen_iff]
  refine (truth_rows hr hv hT fun i hi => by unfold partref_TruthErr_B0; rw [vat_lt _ hi, lat_lt (by omega)]; rfl).mono ?_
  rintro o (⟨rfl, q⟩ | ⟨rfl, q⟩)
  · exact Tot.some_iff.2 (.inr (.inl ⟨hr, q, rfl⟩))
  · exact .inr (.inr ⟨hr, q, rfl⟩)
theorem truth_law (h : List Event) (T : List (List Bool)) : Tot (pred_Check h T) (TruthCode h T) := by
  unfold pred_Check
  rw [Tot.bind_iff]
  refine (check_law h).mono fun e he => ?_
  rw [Tot.ite_iff]
  refine ⟨fun k => Tot.some_iff.2 (.inl ⟨he, by simpa using k⟩), fun k => ?_⟩
  have k' : e = 0 := by simpa using k
  subst k'
  have hr := he.right
  rw [Tot.bind_iff]
  refine Tot.rangeF (fun j z => ∀ (p : Nat) (hp : p < 6), z[p] = (cntP h p j : Int)) (fun p hp => by simp [cntP_zero]) ?_ ?_
  · intro j z _ hj hI
    unfold pred_Check_B0
    exact count_next hr (by omega) hI
  · intro v hv
    rw [Nat.zero_add] at hv
    rw [Tot.ite_iff]
    refine ⟨fun k => Tot.some_iff.2 (.inr (.inr ⟨hr, fun q => by rw [q.len] at k; simp at k, rfl⟩)), fun k => ?_⟩
    have hT : T.length = 6 := by simp at k; omega
    rw [hT, Tot.andThen_iff]
    refine (truth_rows hr hv hT fun i hi => by unfold pred_Check_B2; rfl).mono ?_
    rintro o (⟨rfl, q⟩ | ⟨rfl, q⟩)
    · exact Tot.some_iff.2 (.inr (.inl ⟨hr, q, rfl⟩))
    · exact .inr (.inr ⟨hr, q, rfl⟩)

/-! ### Where it holds -/
/-- The truth value of a process behind so many events. -/
def tr (T : List (List Bool)) (p : Nat) (n : Int) : Bool := ((T[p]?.getD [])[n.toNat]?).getD false
theorem tr_lat {h : List Event} {T : List (List Bool)} {p : Nat} {n : Int} (hT : RightT h T) (hp : p < 6) (h0 : 0 ≤ n) (hn : n ≤ (cntP h p h.length : Int)) : ∃ l, lat T (p : Int) = some l ∧ lat l n = some (tr T p n) ∧ l.length = cntP h p h.length + 1 := by
  have hpl : p < T.length := by rw [hT.len]; exact hp
  have e : T[p]? = some T[p] := by simp [hpl]
  have hl := hT.row p _ hp e
  refine ⟨T[p], lat_lt hpl, ?_, hl⟩
  have hnl : n.toNat < T[p].length := by omega
  unfold lat tr
  rw [if_pos h0, e]
  simp [hnl]
def Sat (T : List (List Bool)) (c : Vector Int 6) : Prop := ∀ (p : Nat) (hp : p < 6), tr T p c[p] = true
theorem sat_loop {h : List Event} {T : List (List Bool)} {c : Vector Int 6} (hT : RightT h T) (hc : IsCut h c) {body : Nat → Unit → Option (Ctl Unit Bool)}
    (hb : ∀ i, i < 6 → body i () = (vat c (i : Int)).bind fun x6 => (lat T (i : Int)).bind fun x9 => (lat x9 x6).bind fun x13 => bif !x13 then (some (.ret false)) else some (.go ())) :
    Tot (andThen (rangeM body 6 0 ()) fun _ => some true) fun b => b = true ↔ Sat T c := by
  rw [Tot.andThen_iff]
  refine Tot.rangeM (fun i _ => ∀ (p : Nat) (hp : p < 6), p < i → tr T p c[p] = true) (fun p hp k => by omega) ?_ ?_
  · intro i _ _ hi hI
    have hi : i < 6 := by omega
    obtain ⟨l, e1, e2, _⟩ := tr_lat hT hi (hc i hi).1 (hc i hi).2
    rw [hb i hi, vat_lt _ hi, Option.bind_some, e1, Option.bind_some, e2, Option.bind_some, Tot.ite_iff]
    refine ⟨fun k => Tot.some_iff.2 ?_, fun k => Tot.some_iff.2 fun p hp hpi => ?_⟩
    · show (false = true) ↔ Sat T c
      exact ⟨fun e => absurd e (by decide), fun q => by rw [q i hi] at k; cases k⟩
    · by_cases e : p = i
      · subst e; simpa using k
      · exact hI p hp (by omega)
  · intro _ hI
    exact Tot.some_iff.2 ⟨fun _ p hp => hI p hp (by omega), fun _ => rfl⟩
theorem holds_law {h : List Event} {T : List (List Bool)} {c : Vector Int 6} (hT : RightT h T) (hc : IsCut h c) : Tot (pred_holds T c) fun b => b = true ↔ Sat T c := by
  unfold pred_holds
  exact sat_loop hT hc fun i hi => rfl
theorem so_law {h : List Event} {T : List (List Bool)} {c : Vector Int 6} (hT : RightT h T) (hc : IsCut h c) : Tot (partref_So T c) fun b => b = true ↔ Sat T c := by
  unfold partref_So
  exact sat_loop hT hc fun i hi => rfl

/-! ### The first one -/
def FitsP (h : List Event) (T : List (List Bool)) (c : Vector Int 6) : Prop := IsCut h c ∧ Closed h c ∧ Sat T c
/-- The least one, or none. -/
def IsFirst (h : List Event) (T : List (List Bool)) (r : (Vector Int 6) × Bool) : Prop := (r.2 = true ∧ FitsP h T r.1 ∧ ∀ d, FitsP h T d → LeV r.1 d) ∨ (r = (Vector.replicate 6 0, false) ∧ ∀ d, ¬ FitsP h T d)
theorem IsFirst.one {h : List Event} {T : List (List Bool)} {r s : (Vector Int 6) × Bool} (h1 : IsFirst h T r) (h2 : IsFirst h T s) : r = s := by
  rcases h1 with ⟨a, b, c⟩ | ⟨rfl, b⟩ <;> rcases h2 with ⟨a', b', c'⟩ | ⟨rfl, b'⟩
  · exact Prod.ext ((c _ b').anti (c' _ b)) (a.trans a'.symm)
  · exact absurd b (b' _)
  · exact absurd b' (b _)
  · rfl
structure Low (h : List Event) (T : List (List Bool)) (c : Vector Int 6) : Prop where
  cut : IsCut h c
  low : ∀ d, FitsP h T d → LeV c d
def sumTo (f : Nat → Nat) : Nat → Nat
  | 0 => 0
  | n + 1 => sumTo f n + f n
theorem sumTo_le {f g : Nat → Nat} {n : Nat} (h : ∀ p, p < n → f p ≤ g p) : sumTo f n ≤ sumTo g n := by
  induction n with
  | zero => exact Nat.le_refl _
  | succ n ih =>
    have h1 := ih fun p hp => h p (by omega)
    have h2 := h n (by omega)
    show sumTo f n + f n ≤ sumTo g n + g n
    omega
theorem sumTo_lt {f g : Nat → Nat} {n p : Nat} (h : ∀ p, p < n → f p ≤ g p) (hp : p < n) (hlt : f p < g p) : sumTo f n < sumTo g n := by
  induction n with
  | zero => omega
  | succ n ih =>
    show sumTo f n + f n < sumTo g n + g n
    have h2 := h n (by omega)
    by_cases e : p = n
    · subst e
      have := sumTo_le fun q hq => h q (Nat.lt_succ_of_lt hq)
      omega
    · have := ih (fun q hq => h q (by omega)) (by omega)
      omega
/-- How far it may still go. -/
def far (h : List Event) (c : Vector Int 6) : Nat := sumTo (fun p => ((cntP h (p : Int) h.length : Int) - (c[p]?).getD 0).toNat) 6
theorem far_lt {h : List Event} {c d : Vector Int 6} (hd : IsCut h d) (hle : LeV c d) (hne : c ≠ d) : far h d < far h c := by
  obtain ⟨p, hp, hlt⟩ : ∃ (p : Nat) (hp : p < 6), c[p] < d[p] := by
    refine Classical.byContradiction fun hn => hne (Vector.ext fun i hi => ?_)
    have := hle i hi
    rcases Int.lt_or_eq_of_le this with k | k
    · exact absurd ⟨i, hi, k⟩ hn
    · exact k
  refine sumTo_lt (p := p) (fun q hq => ?_) hp ?_
  · have h1 := hle q hq
    simp only [Vector.getElem?_eq_getElem hq, Option.getD_some]
    omega
  · have h2 := (hd p hp).2
    simp only [Vector.getElem?_eq_getElem hp, Option.getD_some]
    omega
theorem far_le {h : List Event} {c : Vector Int 6} (hl : h.length ≤ 60) (hc : IsCut h c) : far h c ≤ 360 := by
  refine Nat.le_trans (sumTo_le (g := fun _ => 60) fun p hp => ?_) (by decide)
  have h1 := cntP_le' (h := h) (p := (p : Int)) (j := h.length)
  have h2 := (hc p hp).1
  simp only [Vector.getElem?_eq_getElem hp, Option.getD_some]
  omega
theorem zero_cut {h : List Event} : IsCut h (Vector.replicate 6 0) := fun p hp => by rw [Vector.getElem_replicate]; omega
theorem zero_closed {h : List Event} : Closed h (Vector.replicate 6 0) := by
  rintro k ⟨x, hx, p, hp, e, hle⟩
  have := cntP_pos hx
  rw [Vector.getElem_replicate] at hle
  rw [e] at this; omega
theorem grown_closed {h : List Event} {c d : Vector Int 6} (hr : Right h) (hd : Below h d (Grown h c)) : Closed h d := by
  intro k hk j hj
  have hjl : j < h.length := Nat.lt_of_le_of_lt hj.le hk.lt
  have mem : ∀ i, i < h.length → (InC h d i ↔ Grown h c i) := by
    intro i hi
    have hx : h[i]? = some h[i] := by simp [hi]
    obtain ⟨r1, r2, _, _⟩ := hr.2.range hi hx
    obtain ⟨p, hp⟩ := int_nat r1
    have hp6 : p < 6 := by omega
    rw [inC_iff hx hp6 hp]
    exact ((hd p hp6).iff i _ hx hp).symm
  obtain ⟨m, a, b⟩ := (mem k hk.lt).1 hk
  exact (mem j hjl).2 ⟨m, a, hj.trans b⟩
theorem grown_ge {h : List Event} {c d : Vector Int 6} (hc : IsCut h c) (hd : Below h d (Grown h c)) : LeV c d := fun p hp => (hc.below p hp).le (hd p hp) fun i x _ _ k => ⟨i, k, .inl rfl⟩
theorem grown_low {h : List Event} {T : List (List Bool)} {c d : Vector Int 6} (hc : Low h T c) (hd : Below h d (Grown h c)) : Low h T d := by
  refine ⟨Grown.cut hd, fun e he p hp => ?_⟩
  refine (hd p hp).le (he.1.below p hp) fun i x hx ex => ?_
  rintro ⟨k, a, b⟩
  have : InC h e k := by
    obtain ⟨y, hy, q, hq, ey, hle⟩ := a
    exact ⟨y, hy, q, hq, ey, Int.le_trans hle (hc.low e he q hq)⟩
  exact he.2.1 k this i b
/-- One event more, where it does not hold. -/
theorem low_next {h : List Event} {T : List (List Bool)} {c : Vector Int 6} {p : Nat} (hp : p < 6) (hc : Low h T c) (hn : tr T p c[p] = false) : (c[p] < (cntP h p h.length : Int) → Low h T (c.setIfInBounds p (c[p] + 1))) ∧ (¬ c[p] < (cntP h p h.length : Int) → ∀ d, ¬ FitsP h T d) := by
  have key : ∀ d, FitsP h T d → c[p] + 1 ≤ d[p] := by
    intro d hd
    have h1 := hc.low d hd p hp
    have h2 := hd.2.2 p hp
    rcases Int.lt_or_eq_of_le h1 with h3 | h3
    · omega
    · rw [← h3, hn] at h2; cases h2
  refine ⟨fun k => ⟨fun q hq => ?_, fun d hd q hq => ?_⟩, fun k d hd => ?_⟩
  · by_cases e : p = q
    · subst e; rw [Vector.getElem_setIfInBounds_self]; have := (hc.cut p hp).1; omega
    · rw [Vector.getElem_setIfInBounds_ne hq e]; exact hc.cut q hq
  · by_cases e : p = q
    · subst e; rw [Vector.getElem_setIfInBounds_self]; exact key d hd
    · rw [Vector.getElem_setIfInBounds_ne hq e]; exact hc.low d hd q hq
  · have := key d hd; have := (hd.1 p hp).2; omega
end Go.Proofs.Ytclmlddmgccfjaa
