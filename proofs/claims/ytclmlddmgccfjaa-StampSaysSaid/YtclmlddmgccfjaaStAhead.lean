/-
  stamp.Ahead: all pairs of what comes before what, in order.
-/
import Derived.Test.YtclmlddmgccfjaaStVect
namespace Go.Proofs.Ytclmlddmgccfjaa
open Enc

def IsRow (h : List Event) (j : Nat) (row : List Bool) : Prop := row.length = h.length ∧ ∀ k, row[k]? = some true ↔ Hb h k j
def PRow (h : List Event) (b a : Nat) (row : List Bool) : Prop := row.length = h.length ∧ ∀ k, row[k]? = some true ↔ ∃ a', a' < a ∧ Prec h a' b ∧ Hbe h k a'
theorem PRow.full {h : List Event} {b : Nat} {row : List Bool} (hp : PRow h b b row) : IsRow h b row := by
  refine ⟨hp.1, fun k => (hp.2 k).trans ?_⟩
  constructor
  · rintro ⟨a, _, h1, rfl | h2⟩
    · exact .single h1
    · exact .tail h2 h1
  · intro hh
    cases hh with
    | single h1 => exact ⟨k, h1.1, h1, .inl rfl⟩
    | tail h0 h1 => exact ⟨_, h1.1, h1, .inr h0⟩
theorem or_loop {n a b : Nat} {z0 : List (List Bool)} {ra rb : List Bool} (hb : b < z0.length) (hab : a ≠ b) (ha : z0[a]? = some ra) (hra : ra.length = n) (hrb : rb.length = n) {body : Nat → List (List Bool) → Option (List (List Bool))}
    (hbody : ∀ k z, body k z = (lat z (a : Int)).bind fun x85 => (lat x85 (k : Int)).bind fun x89 => (lat z (b : Int)).bind fun x92 => (lat z (b : Int)).bind fun x97 => (lat x97 (k : Int)).bind fun x102 => (bif x102 then (some true) else some x89).bind fun y106 => (lat x92 (k : Int)).bind fun _ => Let (z.set (b : Int).toNat (x92.set (k : Int).toNat y106)) fun p111 => some p111) :
    Tot (rangeF body n 0 (z0.set b rb)) fun z => ∃ r : List Bool, z = z0.set b r ∧ r.length = n ∧ ∀ k : Nat, r[k]? = some true ↔ rb[k]? = some true ∨ ra[k]? = some true := by
  refine Tot.rangeF (fun i z => ∃ r : List Bool, z = z0.set b r ∧ r.length = n ∧ ∀ k : Nat, r[k]? = some true ↔ rb[k]? = some true ∨ (k < i ∧ ra[k]? = some true)) ⟨rb, rfl, hrb, fun k => by simp⟩ ?_ ?_
  · rintro i z _ hi ⟨r, rfl, h1, h2⟩
    have e1 : lat (z0.set b r) (a : Int) = some ra := by rw [lat_nat, List.getElem?_set_ne (Ne.symm hab)]; exact ha
    have e2 : lat (z0.set b r) (b : Int) = some r := by rw [lat_nat, List.getElem?_set_self hb]
    rw [hbody, e1, Option.bind_some, lat_lt (by omega), Option.bind_some, e2, Option.bind_some, Option.bind_some, lat_lt (by omega), Option.bind_some, or_some, Option.bind_some, Option.bind_some, Tot.let_iff, Tot.some_iff]
    simp only [Int.toNat_natCast, List.set_set]
    refine ⟨_, rfl, by simp [h1], fun k => ?_⟩
    have hir : i < r.length := by omega
    have hia : i < ra.length := by omega
    by_cases e : k = i
    · subst e
      rw [List.getElem?_set_self hir]
      have e3 : r[k]? = some r[k] := by simp [hir]
      have e4 : ra[k]? = some ra[k] := by simp [hia]
      have := h2 k
      rw [e3] at this
      rw [e4]
      simp only [Option.some.injEq, Bool.or_eq_true] at this ⊢
      rw [this]
      constructor
      · rintro ((q | ⟨q, _⟩) | q)
        · exact .inl q
        · omega
        · exact .inr ⟨by omega, q⟩
      · rintro (q | ⟨_, q⟩)
        · exact .inl (.inl q)
        · exact .inr q
    · rw [List.getElem?_set_ne (Ne.symm e), h2 k]
      constructor
      · rintro (q | ⟨q1, q2⟩)
        · exact .inl q
        · exact .inr ⟨by omega, q2⟩
      · rintro (q | ⟨q1, q2⟩)
        · exact .inl q
        · exact .inr ⟨by omega, q2⟩
  · rintro z ⟨r, rfl, h1, h2⟩
    refine ⟨r, rfl, h1, fun k => (h2 k).trans ?_⟩
    constructor
    · rintro (q | ⟨_, q⟩)
      · exact .inl q
      · exact .inr q
    · rintro (q | q)
      · exact .inl q
      · exact .inr ⟨by have := (List.getElem?_eq_some_iff.1 q).1; omega, q⟩
theorem ahead_pair {h : List Event} {a b : Nat} {y : Event} {z0 : List (List Bool)} {row : List Bool} (hb : b < h.length) (hy : h[b]? = some y) (hab : a < b) (hz : z0.length = h.length) (hrow : ∀ j, j < b → ∃ r, z0[j]? = some r ∧ IsRow h j r) (hp : PRow h b a row) :
    Tot (stamp_Ahead_B2 b y (h.take b) a (z0.set b row)) fun z => ∃ r, z = z0.set b r ∧ PRow h b (a + 1) r := by
  have hah : a < h.length := by omega
  have hx : h[a]? = some h[a] := by simp [hah]
  have hxt : lat (h.take b) (a : Int) = some h[a] := by rw [lat_nat, List.getElem?_take, if_pos hab, hx]
  obtain ⟨ra, era, ha1, ha2⟩ := hrow a hab
  have hbz : b < z0.length := by omega
  have har : a < row.length := by rw [hp.1]; exact hah
  unfold stamp_Ahead_B2
  rw [hxt, Option.bind_some]
  generalize h[a] = x at hx
  have skip : ¬ Prec h a b → ∃ r, z0.set b row = z0.set b r ∧ PRow h b (a + 1) r := by
    intro hn
    refine ⟨row, rfl, hp.1, fun k => (hp.2 k).trans ?_⟩
    constructor
    · rintro ⟨a', q1, q2⟩; exact ⟨a', by omega, q2⟩
    · rintro ⟨a', q1, q2, q3⟩
      by_cases e : a' = a
      · subst e; exact absurd q2 hn
      · exact ⟨a', by omega, q2, q3⟩
  have take : Prec h a b → ∀ {body : Nat → List (List Bool) → Option (List (List Bool))}, (∀ k z, body k z = (lat z (a : Int)).bind fun x85 => (lat x85 (k : Int)).bind fun x89 => (lat z (b : Int)).bind fun x92 => (lat z (b : Int)).bind fun x97 => (lat x97 (k : Int)).bind fun x102 => (bif x102 then (some true) else some x89).bind fun y106 => (lat x92 (k : Int)).bind fun _ => Let (z.set (b : Int).toNat (x92.set (k : Int).toNat y106)) fun p111 => some p111) →
      Tot ((lat (z0.set b row) (b : Int)).bind fun x61 => (lat x61 (a : Int)).bind fun _ => Let ((z0.set b row).set (b : Int).toNat (x61.set (a : Int).toNat true)) fun p69 => (lat p69 (a : Int)).bind fun x73 => (rangeF body x73.length 0 p69).bind fun l79 => some l79) fun z => ∃ r, z = z0.set b r ∧ PRow h b (a + 1) r := by
    intro hpr body hbody
    have e2 : lat (z0.set b row) (b : Int) = some row := by rw [lat_nat, List.getElem?_set_self hbz]
    rw [e2, Option.bind_some, lat_lt har, Option.bind_some, Tot.let_iff]
    simp only [Int.toNat_natCast, List.set_set]
    have e1 : lat (z0.set b (row.set a true)) (a : Int) = some ra := by rw [lat_nat, List.getElem?_set_ne (by omega)]; exact era
    rw [e1, Option.bind_some, Tot.bind_iff]
    refine (or_loop (n := ra.length) hbz (by omega) era rfl (by rw [List.length_set, hp.1, ha1]) hbody).mono ?_
    rintro z ⟨r, rfl, g1, g2⟩
    refine Tot.some_iff.2 ⟨r, rfl, by rw [g1, ha1], fun k => (g2 k).trans ?_⟩
    rw [ha2 k]
    have e3 : (row.set a true)[k]? = some true ↔ k = a ∨ row[k]? = some true := by
      by_cases e : k = a
      · subst e; rw [List.getElem?_set_self har]; simp
      · rw [List.getElem?_set_ne (Ne.symm e)]; simp [e]
    rw [e3, hp.2 k]
    constructor
    · rintro ((q | ⟨a', q1, q2⟩) | q)
      · exact ⟨a, by omega, hpr, .inl q⟩
      · exact ⟨a', by omega, q2⟩
      · exact ⟨a, by omega, hpr, .inr q⟩
    · rintro ⟨a', q1, q2, q3⟩
      by_cases e : a' = a
      · subst e
        rcases q3 with q3 | q3
        · exact .inl (.inl q3)
        · exact .inr q3
      · exact .inl (.inr ⟨a', by omega, q2, q3⟩)
  rw [Tot.bind_iff, Tot.ite_iff]
  refine ⟨fun k => ?_, fun k => ?_⟩
  · have k : x.Proc ≠ y.Proc := by simpa using k
    rw [and_some, Option.bind_some, and_some, Option.bind_some, Tot.ite_iff]
    refine ⟨fun q => Tot.some_iff.2 (Tot.some_iff.2 (skip ?_)), fun q => ?_⟩
    · rintro ⟨_, u, w, hu, hw, hc⟩
      rw [hx] at hu; rw [hy] at hw
      obtain rfl := Option.some.inj hu
      obtain rfl := Option.some.inj hw
      rcases hc with hc | ⟨c1, c2, c3⟩
      · exact k hc
      · simp [c1, c2, c3] at q
    · have q : (x.Kind = 2 ∧ y.Kind = 3) ∧ x.Msg = y.Msg := by simpa using q
      refine (take ⟨hab, x, y, hx, hy, .inr ⟨q.1.1, q.1.2, q.2⟩⟩ (body := stamp_Ahead_B4x b a) fun k z => rfl).mono fun z hz => Tot.some_iff.2 hz
  · have k : x.Proc = y.Proc := by simpa using k
    refine (take ⟨hab, x, y, hx, hy, .inl k⟩ (body := stamp_Ahead_B4 b a) fun k z => rfl).mono fun z hz => Tot.some_iff.2 hz
structure AInv (h : List Event) (b : Nat) (z : List (List Bool)) : Prop where
  len : z.length = h.length
  row : ∀ j, j < b → ∃ r, z[j]? = some r ∧ IsRow h j r
theorem ahead_row {h : List Event} {b : Nat} {z : List (List Bool)} (hl : h.length ≤ 2 ^ 20) (hb : b < h.length) (hI : AInv h b z) : Tot (stamp_Ahead_B0 h b z) (AInv h (b + 1)) := by
  have hy : h[b]? = some h[b] := by simp [hb]
  have hbz : b < z.length := by rw [hI.len]; exact hb
  unfold stamp_Ahead_B0
  rw [lat_lt hb, Option.bind_some, Tot.bind_iff, Tot.mkLen_iff]
  refine ⟨by omega, ?_⟩
  rw [Int.toNat_natCast, lat_lt hbz, Option.bind_some, Tot.let_iff, Int.toNat_natCast, Tot.bind_iff, Tot.cutL_iff]
  refine ⟨by omega, ?_⟩
  rw [show (0 : Int).toNat = 0 from rfl, List.drop_zero, Nat.sub_zero, Int.toNat_natCast, Tot.bind_iff]
  have hlt : (h.take b).length = b := by rw [List.length_take]; omega
  rw [hlt]
  refine Tot.rangeF (fun a s => ∃ r, s = z.set b r ∧ PRow h b a r) ⟨_, rfl, by simp, fun k => ?_⟩ ?_ ?_
  · constructor
    · intro q
      have := List.getElem?_eq_some_iff.1 q
      simp at this
    · rintro ⟨a, q, _⟩; omega
  · rintro a s _ ha ⟨r, rfl, hp⟩
    exact ahead_pair hb hy (by omega) hI.len hI.row hp
  · rintro s ⟨r, rfl, hp⟩
    rw [Nat.zero_add] at hp
    refine Tot.some_iff.2 ⟨by rw [List.length_set]; exact hI.len, fun j hj => ?_⟩
    by_cases e : j = b
    · subst e
      exact ⟨r, List.getElem?_set_self hbz, hp.full⟩
    · obtain ⟨r', q1, q2⟩ := hI.row j (by omega)
      exact ⟨r', by rw [List.getElem?_set_ne (Ne.symm e)]; exact q1, q2⟩

/-! ### The list of pairs -/
open Classical in
noncomputable def rowPairs (h : List Event) (a k : Nat) : List Pair := ((List.range k).filter fun b => decide (Hb h a b)).map fun b : Nat => (⟨(a : Int), (b : Int)⟩ : Pair)
noncomputable def aheadPairs (h : List Event) (n : Nat) : List Pair := (List.range n).flatMap fun a => rowPairs h a h.length
theorem rowPairs_succ {h : List Event} {a k : Nat} : (Hb h a k → rowPairs h a (k + 1) = rowPairs h a k ++ [⟨(a : Int), (k : Int)⟩]) ∧ (¬ Hb h a k → rowPairs h a (k + 1) = rowPairs h a k) := by
  unfold rowPairs
  rw [List.range_succ, List.filter_append, List.map_append]
  exact ⟨fun q => by simp [q], fun q => by simp [q]⟩
theorem rowPairs_len {h : List Event} {a k : Nat} : (rowPairs h a k).length ≤ k := by
  unfold rowPairs
  rw [List.length_map]
  exact Nat.le_trans (List.length_filter_le _ _) (by simp)
theorem aheadPairs_succ {h : List Event} {n : Nat} : aheadPairs h (n + 1) = aheadPairs h n ++ rowPairs h n h.length := by
  unfold aheadPairs
  rw [List.range_succ, List.flatMap_append]; simp
theorem aheadPairs_len {h : List Event} : ∀ n, (aheadPairs h n).length ≤ n * h.length
  | 0 => by simp [aheadPairs]
  | n + 1 => by
    have := aheadPairs_len (h := h) n
    have := rowPairs_len (h := h) (a := n) (k := h.length)
    rw [aheadPairs_succ, List.length_append, Nat.succ_mul]; omega
theorem mem_aheadPairs {h : List Event} {q : Pair} : q ∈ aheadPairs h h.length ↔ ∃ a b : Nat, q = ⟨(a : Int), (b : Int)⟩ ∧ Hb h a b := by
  unfold aheadPairs rowPairs
  simp only [List.mem_flatMap, List.mem_range, List.mem_map, List.mem_filter, decide_eq_true_eq]
  constructor
  · rintro ⟨a, _, b, ⟨_, hb⟩, rfl⟩; exact ⟨a, b, rfl, hb⟩
  · rintro ⟨a, b, rfl, hb⟩
    exact ⟨a, by have := hb.lt; have := hb.in; omega, b, ⟨hb.in, hb⟩, rfl⟩
theorem ahead_law {h : List Event} (hr : Right h) : stamp_Ahead h = some (aheadPairs h h.length, 0) := by
  have hlen := hr.1
  refine Tot.eq ?_
  unfold stamp_Ahead
  rw [Tot.bind_iff]
  refine (check_law h).mono fun c hc => ?_
  obtain rfl := hc.of_right hr
  rw [bne_self_eq_false, cond_false, Tot.bind_iff, Tot.mkLen_iff]
  refine ⟨by omega, ?_⟩
  rw [Int.toNat_natCast, Tot.bind_iff]
  refine Tot.rangeF (AInv h) ⟨by simp, fun j hj => by omega⟩ (fun b z _ hb hI => ahead_row (by omega) (by omega) hI) ?_
  intro z hI
  rw [Nat.zero_add] at hI
  rw [Tot.bind_iff]
  have hsq : h.length * h.length ≤ 3600 := Nat.mul_le_mul hlen hlen
  refine Tot.rangeF (fun a l => l = aheadPairs h a) rfl ?_ ?_
  · rintro a l _ ha rfl
    have ha : a < h.length := by omega
    have hal := aheadPairs_len (h := h) a
    have hal2 : a * h.length ≤ h.length * h.length := Nat.mul_le_mul_right _ (by omega)
    unfold stamp_Ahead_B6
    rw [Tot.bind_iff]
    refine Tot.rangeF (fun k l => l = aheadPairs h a ++ rowPairs h a k) (by simp [rowPairs]) ?_ ?_
    · rintro k l _ hk rfl
      have hk : k < h.length := by omega
      obtain ⟨r, e1, e2, e3⟩ := hI.row k hk
      have har : a < r.length := by rw [e2]; exact ha
      unfold stamp_Ahead_B8
      rw [lat_nat, e1, Option.bind_some, lat_lt har, Option.bind_some]
      have hs := rowPairs_succ (h := h) (a := a) (k := k)
      have hrl := rowPairs_len (h := h) (a := a) (k := k)
      have e4 := e3 a
      rw [List.getElem?_eq_getElem har] at e4
      rw [Tot.ite_iff]
      refine ⟨fun q => ?_, fun q => ?_⟩
      · rw [room_ok (by simp; omega), Option.bind_some, Tot.some_iff, hs.1 (e4.1 (by rw [q])), List.append_assoc]
      · rw [Tot.some_iff, hs.2 fun w => by rw [← e4, q] at w; cases w]
    · rintro l rfl
      rw [Tot.some_iff, Nat.zero_add, aheadPairs_succ]
  · rintro l rfl
    rw [Nat.zero_add]
    exact Tot.some_iff.2 rfl
end Go.Proofs.Ytclmlddmgccfjaa
