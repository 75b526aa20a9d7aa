/-
  Arguments opened: what reads as data of a type is the cells of some x.
-/
import Derived.Test.YtnkfphbggemlbaaGoL
import Derived.Test.YtnkfphbggemlbaaGoH
import Derived.Deep.Slices
namespace Go.Proofs.Ytnkfphbggemlbaa
open Go.RowKit Go.ChangeShapes Go.WideShapes Go.ChangeAt Enc

/-- What reads as data of type t is the cells of some x. -/
def TD (P : Program) (H : Type) (eh : TypeId × Value → H) (W : World) (t : TypeId) (ρ : Type) [Enc ρ] (ok : ρ → Prop) : Prop :=
  ∀ (fuel : Nat) (cs : List Value) (x : DataW H × List MemPlace), DataW.trod eh P W 0 (fun _ => true) true fuel t cs = some x → ∃ a : ρ, cs = enc a ∧ ok a
section
variable {P : Program} {H : Type} {eh : TypeId × Value → H} {W : World}
theorem TD.mono {t : TypeId} {ρ : Type} [Enc ρ] {ok ok' : ρ → Prop} (h : TD P H eh W t ρ ok) (hk : ∀ a, ok a → ok' a) : TD P H eh W t ρ ok' := fun f cs x hx => by
  obtain ⟨a, h1, h2⟩ := h f cs x hx
  exact ⟨a, h1, hk a h2⟩
theorem wf_i64 {n : Int} (h : (Lit.int .i64 n).wf = true) : -9223372036854775808 ≤ n ∧ n ≤ 9223372036854775807 := by
  simpa [Lit.wf, IntKind.min, IntKind.max, IntKind.signed, IntKind.bits] using h
theorem TD.int {t : TypeId} (hu : P.underlying t = some (.int .i64)) : TD P H eh W t Int Rng.ok := fun f cs x hx => by
  obtain ⟨n, rfl, rfl, hw⟩ := DataW.trod_int hu hx
  exact ⟨n, rfl, wf_i64 hw⟩
theorem TD.u {K : Nat} {k : IntKind} {t : TypeId} [Enc (BitVec K)] (he : ∀ x : BitVec K, enc x = [.int k (x.toNat : Int)]) (hk : ∀ n : Int, (Lit.int k n).wf = true → 0 ≤ n ∧ n < 2 ^ K) (hu : P.underlying t = some (.int k)) : TD P H eh W t (BitVec K) Rng.ok := fun f cs x hx => by
  obtain ⟨n, rfl, rfl, hw⟩ := DataW.trod_int hu hx
  have := hk n hw
  refine ⟨BitVec.ofNat K n.toNat, ?_, trivial⟩
  rw [he, BitVec.toNat_ofNat, Nat.mod_eq_of_lt, Int.toNat_of_nonneg this.1]
  have h2 : ((2 : Int) ^ K) = ((2 ^ K : Nat) : Int) := by simp
  omega
theorem TD.u8 {t : TypeId} (hu : P.underlying t = some (.int .u8)) : TD P H eh W t (BitVec 8) Rng.ok := TD.u (fun _ => rfl) (fun n h => by simp [Lit.wf, IntKind.min, IntKind.max, IntKind.signed, IntKind.bits] at h; omega) hu
theorem TD.u16 {t : TypeId} (hu : P.underlying t = some (.int .u16)) : TD P H eh W t (BitVec 16) Rng.ok := TD.u (fun _ => rfl) (fun n h => by simp [Lit.wf, IntKind.min, IntKind.max, IntKind.signed, IntKind.bits] at h; omega) hu
theorem TD.bool {t : TypeId} (hu : P.underlying t = some .bool) : TD P H eh W t Bool Rng.ok := fun f cs x hx => by
  obtain ⟨b, rfl, _⟩ := DataW.trod_bool hu hx
  exact ⟨b, rfl, trivial⟩
/-- The cells of an array of elements. -/
theorem cells_many {e : TypeId} {ρ : Type} [Enc ρ] {ok : ρ → Prop} {m : Nat} (hE : TD P H eh W e ρ ok) (hc : P.cellsOf e = sz ρ) : ∀ (n : Nat) (cs : List Value) (xs : List (DataW H × List MemPlace)), cs.length = n * sz ρ → xs.length = n →
    (∀ i, i < n → DataW.trod eh P W 0 (fun _ => true) true m e ((cs.drop (i * sz ρ)).take (sz ρ)) = xs[i]?) → ∃ l : List ρ, l.length = n ∧ cs = encs l ∧ ∀ a ∈ l, ok a
  | 0, cs, xs, hl, _, _ => ⟨[], rfl, by simpa [encs] using hl, by simp⟩
  | n + 1, cs, xs, hl, hx, h => by
    rw [Nat.succ_mul] at hl
    cases xs with
    | nil => simp at hx
    | cons x xs =>
      have h0 := h 0 (by omega)
      simp only [Nat.zero_mul, List.drop_zero] at h0
      obtain ⟨a, ha, oa⟩ := hE _ _ _ h0
      obtain ⟨l, h1, h2, h3⟩ := cells_many hE hc n (cs.drop (sz ρ)) xs (by simp; omega) (by simpa using hx) fun i hi => by
        have := h (i + 1) (by omega)
        rw [Nat.succ_mul, Nat.add_comm, ← List.drop_drop] at this
        simpa using this
      refine ⟨a :: l, by simp [h1], by rw [encs_cons, ← ha, ← h2, List.take_append_drop], ?_⟩
      intro b hb
      rcases List.mem_cons.1 hb with rfl | hb
      · exact oa
      · exact h3 b hb
theorem TD.vec {t e : TypeId} {n : Nat} {ρ : Type} [Enc ρ] {ok : ρ → Prop} (hu : P.underlying t = some (.array n e)) (hct : P.cellsOf t = n * sz ρ) (hc : P.cellsOf e = sz ρ) (hE : TD P H eh W e ρ ok) : TD P H eh W t (Vector ρ n) (fun v => ∀ (i : Nat) (x : ρ), v[i]? = some x → ok x) := fun f cs x hx => by
  obtain ⟨xs, m, rfl, rfl, hl, hn, h⟩ := DataW.trod_array hu hx
  rw [hc] at h
  obtain ⟨l, h1, rfl, h3⟩ := cells_many hE hc n cs xs (hl.trans hct) hn h
  subst h1
  refine ⟨⟨l.toArray, rfl⟩, rfl, fun i a ha => h3 a ?_⟩
  have : l[i]? = some a := by simpa using ha
  exact List.mem_of_getElem? this
theorem pick_list {α : Type} {p : Nat → α → Prop} : ∀ m, (∀ i, i < m → ∃ a, p i a) → ∃ rs : List α, rs.length = m ∧ ∀ (i : Nat) (a : α), rs[i]? = some a → p i a
  | 0, _ => ⟨[], rfl, by simp⟩
  | m + 1, h => by
    obtain ⟨rs, h1, h2⟩ := pick_list m fun i hi => h i (by omega)
    obtain ⟨a, ha⟩ := h m (by omega)
    refine ⟨rs ++ [a], by simp [h1], fun i b hb => ?_⟩
    rw [List.getElem?_append] at hb
    split at hb
    · exact h2 i b hb
    · have : i - rs.length = 0 := by
        have := (List.getElem?_eq_some_iff.1 hb).1
        simp at this; omega
      rw [this] at hb
      simp at hb
      have : i = m := by omega
      subst this hb; exact ha
theorem cells_get {w : World} {b : Addr} {n : Nat} {l : List Value} (h : w.cells? 0 b n = some l) : l.length = n ∧ ∀ j, j < n → w.cell? (b.add j) = l[j]? := by
  unfold World.cells? at h
  rw [if_pos (Nat.zero_le _)] at h
  exact ⟨by simpa using mapM_some_length h, fun j hj => mapM_some_get h j j (by simp [hj])⟩
/-- A slice: what it reads as. -/
theorem TD.slice {t e : TypeId} {ρ : Type} [Enc ρ] {ok : ρ → Prop} (hu : P.underlying t = some (.slice e)) (hc : P.cellsOf e = sz ρ) (h0 : 0 < sz ρ) (hE : TD P H eh W e ρ ok) :
    TD P H eh W t (LR ρ) (fun a => LR.rel W (Frz.of W) [] a ∧ a.v.length ≤ 2 ^ 63 - 1 ∧ ∀ r ∈ a.v, ok r) := fun f cs x hx => by
  rcases Go.Deep.open_slice hu hx with ⟨rfl, _⟩ | ⟨a, len, cap, m, n, D, Pl, rfl, _, hlc, hcm, hm, _, hel⟩
  · exact ⟨⟨[], Sl.nil⟩, rfl, Rd.nil, by simp, by simp⟩
  · rw [if_pos rfl] at hm
    subst hm
    simp only [maxLen] at hcm
    have hcells : ∀ i, i < m → ∃ a' : ρ, W.cells? 0 (a.add (i * sz ρ)) (sz ρ) = some (enc a') ∧ ok a' := fun i hi => by
      obtain ⟨cs', h1, h2⟩ := hel i hi
      obtain ⟨a', rfl, oa⟩ := hE _ _ _ h2
      rw [hc] at h1
      exact ⟨a', h1, oa⟩
    obtain ⟨rs, hrl, hrs⟩ := pick_list m hcells
    refine ⟨⟨rs.take len, ⟨some a, len, m⟩⟩, rfl, ?_, by simp; omega, fun r hr => ?_⟩
    · by_cases hm0 : m = 0
      · subst hm0
        have hl0 : len = 0 := by omega
        subst hl0
        intro w hw
        exact ⟨0, (0, 0), by simp [encs], by simp, .inl ⟨rfl, rfl⟩⟩
      · have hfirst : ∃ r0, rs[0]? = some r0 := ⟨rs[0]'(by omega), by simp⟩
        obtain ⟨r0, hr0⟩ := hfirst
        have hc0 := (cells_get (hrs 0 r0 hr0).1).2 0 h0
        have hlen0 : (enc r0).length = sz ρ := Enc.len r0
        have hsome : ∃ v0, W.cell? a = some v0 := by
          have e : (a.add (0 * sz ρ)).add 0 = a := by simp [Addr.add]
          rw [e] at hc0
          exact ⟨(enc r0)[0]'(by omega), by rw [hc0]; simp⟩
        obtain ⟨v0, hv0⟩ := hsome
        have hobj : ∃ arr t fr, W.heap[a.block]? = some (.cells arr t fr) ∧ a.spot = none := by
          unfold World.cell? at hv0
          split at hv0
          · rename_i c t fr hh
            refine ⟨c, t, fr, hh, ?_⟩
            split at hv0
            · cases hv0
            · rename_i hs; simpa using hs
          · cases hv0
        obtain ⟨arr, t', fr, hh, hsp⟩ := hobj
        obtain ⟨blk, off, sp⟩ := a
        simp only at hsp hh
        subst hsp
        have hcell : ∀ q, W.cell? ⟨blk, q, none⟩ = arr.toList[q]? := fun q => by
          simp [World.cell?, hh]
        have hel2 : ∀ (i : Nat) (r : ρ) (j : Nat), rs[i]? = some r → j < sz ρ → arr.toList[off + i * sz ρ + j]? = (enc r)[j]? := fun i r j hr hj => by
          have := (cells_get (hrs i r hr).1).2 j hj
          rw [add_none, add_none, hcell] at this
          exact this
        have hpre : ∀ k, k ≤ m → (arr.toList.drop off).take (k * sz ρ) = encs (rs.take k) := by
          intro k
          induction k with
          | zero => intro _; simp [encs]
          | succ k ih =>
            intro hk
            have hkl : k < rs.length := by omega
            have hrk : rs[k]? = some rs[k] := by simp [hkl]
            rw [List.take_add_one, hrk, Option.toList_some, encs_append, ← ih (by omega), Nat.succ_mul, List.take_add]
            congr 1
            rw [List.drop_drop]
            simp only [encs_cons, encs_nil, List.append_nil]
            apply List.ext_getElem?
            intro j
            by_cases hj : j < sz ρ
            · rw [List.getElem?_take_of_lt hj, List.getElem?_drop, ← hel2 k _ j hrk hj]
            · rw [List.getElem?_eq_none (by simp; omega), List.getElem?_eq_none (by rw [Enc.len]; omega)]
        have hall : (arr.toList.drop off).take (m * sz ρ) = encs rs := by
          have := hpre m (Nat.le_refl _)
          rwa [show rs.take m = rs from List.take_of_length_le (by omega)] at this
        intro w hw
        have hb : w.heap[blk]? = some (.cells arr t' fr) := hw.frz blk _ hh
        have hsplit : arr.toList = arr.toList.take off ++ (encs (rs.take len) ++ (encs (rs.drop len) ++ (arr.toList.drop off).drop (m * sz ρ))) := by
          rw [← List.append_assoc (encs _), ← encs_append, List.take_append_drop, ← hall, List.take_append_drop, List.take_append_drop]
        have hoff : off ≤ arr.toList.length := by
          have := (List.getElem?_eq_some_iff.1 ((hcell off).symm.trans hv0)).1
          omega
        refine ⟨t', fr, ?_, by simp only; omega, .inr ⟨blk, off, arr.toList.take off, encs (rs.drop len) ++ (arr.toList.drop off).drop (m * sz ρ), rfl, ?_, by rw [List.length_take]; exact Nat.min_eq_left hoff, hlc, ?_⟩⟩
        · rw [encs_len, List.length_take, Nat.min_eq_left (by omega)]
        · show w.heap[blk]? = _
          rw [← hsplit]; exact hb
        · rw [← List.append_assoc, ← encs_append, List.take_append_drop, List.length_append, encs_len, hrl]
          exact Nat.le_add_right _ _
    · obtain ⟨i, hi⟩ := List.getElem?_of_mem (List.mem_of_mem_take hr)
      exact (hrs i r hi).2

/-! structs: field behind field -/
theorem take_fields {cs : List Value} {o s n : Nat} (hn : cs.length = n) : cs.drop o = (cs.drop o).take s ++ cs.drop (o + s) := by
  rw [← List.drop_drop, List.take_append_drop]
/-- The first argument that reads as data: its cells. -/
theorem arg_cells {H : Type} {eh : TypeId × Value → H} {t : TypeId} {v : Value} {d : DataW H} {ps : List MemPlace} {ρ : Type} [Enc ρ] {ok : ρ → Prop} (h : DataW.Trod eh P W 0 (fun _ => true) true t v d ps) (hD : TD P H eh W t ρ ok) : ∃ a : ρ, v.cells.toList = enc a ∧ ok a := by
  obtain ⟨f, hf⟩ := h
  exact hD f _ _ hf
theorem arg_slice {r : Reach} {b : Nat} {t e : TypeId} {v : Value} {ρ : Type} {a : LR ρ} (hu : P.underlying t = some (.slice e)) (h : Value.okWide P W r b t v) (hc : v.cells.toList = enc a) : v = a.h.v := by
  simp only [Value.okWide, hu, Cell.okWide, Cell.ok] at h
  cases v <;> simp at h
  have : [Value.slice _ _ _] = [a.h.v] := hc
  simpa using this
def pieces (cs : List Value) : Nat → List Nat → List Value
  | _, [] => []
  | o, [s] => (cs.drop o).take s
  | o, s :: t :: ss => (cs.drop o).take s ++ pieces cs (o + s) (t :: ss)
theorem pieces_eq {cs : List Value} : ∀ (ss : List Nat) (o : Nat), ss ≠ [] → cs.length = o + ss.sum → cs.drop o = pieces cs o ss
  | [], _, h, _ => absurd rfl h
  | [s], o, _, h => by
    simp only [pieces]
    rw [List.take_of_length_le (by simp at h ⊢; omega)]
  | s :: t :: ss, o, _, h => by
    have ih := pieces_eq (cs := cs) (t :: ss) (o + s) (by simp) (by simp at h ⊢; omega)
    simp only [pieces]
    rw [← ih]
    exact take_fields rfl
theorem td_field {fs : Array Field} {cs : List Value} {m : Nat} {xs : List (DataW H × List MemPlace)} {ρ : Type} [Enc ρ] {ok : ρ → Prop} (hf : ∀ (i : Nat) (f : Field), fs[i]? = some f → DataW.trod eh P W 0 (fun _ => true) true m f.type ((cs.drop f.offset).take (P.cellsOf f.type)) = xs[i]?) (hn : xs.length = fs.size)
    (i : Nat) {t o s : Nat} {f : Field} (hi : fs[i]? = some f) (ht : f.type = t) (ho : f.offset = o) (hs : P.cellsOf t = s) (hD : TD P H eh W t ρ ok) : ∃ a : ρ, (cs.drop o).take s = enc a ∧ ok a := by
  subst ht ho hs
  have hlt : i < xs.length := by rw [hn]; exact (Array.getElem?_eq_some_iff.1 hi).1
  have h := hf i f hi
  rw [List.getElem?_eq_getElem hlt] at h
  exact hD _ _ _ h
end
end Go.Proofs.Ytnkfphbggemlbaa
