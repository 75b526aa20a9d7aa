/-
  From a spec that comes to true to the given statement; the opening of arguments.
-/
import Derived.Test.YtnkfphbggemlbaaGoQ
import Derived.ProofKit
import Derived.SizedLaws
import Derived.OpenShut
namespace Go.Proofs.Ytnkfphbggemlbaa
open Go.RowKit Go.ChangeShapes Go.WideShapes Go.ChangeAt Enc

/-- All that was there is as it was; there may be new blocks. -/
def Ext (w w' : World) : Prop := Below w.heap.size w w'

namespace Ext
theorem refl (w : World) : Ext w w := Below.refl _ _
theorem trans {a b c : World} (h : Ext a b) (k : Ext b c) : Ext a c := Below.trans h (Below.mono k h.size)
theorem alloc {a w : World} (h : Ext a w) (o : Obj) : Ext a (w.alloc o) := Below.alloc h h.size o
theorem drew {a w : World} (h : Ext a w) : Ext a w.drew := Below.drew h
theorem all {w w' : World} (h : Ext w w') : (∀ b o, b < w.heap.size → w'.cell? ⟨b, o, none⟩ = w.cell? ⟨b, o, none⟩) ∧ (∀ b o, b < w.heap.size → w'.frozen? ⟨b, o, none⟩ = w.frozen? ⟨b, o, none⟩) ∧ w.heap.size ≤ w'.heap.size :=
  ⟨fun b o hb => Below.cell (p := ⟨b, o, none⟩) h hb, fun b o hb => Below.frozen (p := ⟨b, o, none⟩) h hb, h.size⟩
theorem size {w w' : World} (h : Ext w w') : w.heap.size ≤ w'.heap.size := Below.size h
theorem cell {w w' : World} (h : Ext w w') {p : Addr} {v : Value} (hc : w.cell? p = some v) : w'.cell? p = some v := (Below.cell h (block_lt_of_cell hc)).trans hc
end Ext

theorem has_i64 {n : Int} (h : IntKind.i64.has n) : -9223372036854775808 ≤ n ∧ n ≤ 9223372036854775807 := by
  simpa [IntKind.has, IntKind.min, IntKind.max, IntKind.signed, IntKind.bits] using h
theorem has_u8 {n : Int} (h : IntKind.u8.has n) : 0 ≤ n ∧ n ≤ 255 := by
  simpa [IntKind.has, IntKind.min, IntKind.max, IntKind.signed, IntKind.bits] using h
theorem has_u16 {n : Int} (h : IntKind.u16.has n) : 0 ≤ n ∧ n ≤ 65535 := by
  simpa [IntKind.has, IntKind.min, IntKind.max, IntKind.signed, IntKind.bits] using h
theorem cell_int {P : Program} {w : World} {r : Reach} {b : Nat} {t : TypeId} {k : IntKind} {v : Value} (hu : P.underlying t = some (.int k)) (h : Cell.okWide P w r b t v) : ∃ n, v = .int k n ∧ k.has n := by
  simp only [Cell.okWide, Cell.ok, hu] at h
  cases v <;> simp at h
  obtain ⟨rfl, h⟩ := h
  exact ⟨_, rfl, h⟩
theorem cell_bool {P : Program} {w : World} {r : Reach} {b : Nat} {t : TypeId} {v : Value} (hu : P.underlying t = some .bool) (h : Cell.okWide P w r b t v) : ∃ x, v = .bool x := by
  simp only [Cell.okWide, Cell.ok, hu] at h
  cases v <;> simp at h
  exact ⟨_, rfl⟩
theorem ok_agg {P : Program} {w : World} {r : Reach} {b : Nat} {t : TypeId} {v : Value} {d : TypeDesc} (hu : P.underlying t = some d) (hd : (match d with | .struct _ | .array _ _ => true | _ => false) = true)
    {ts : List TypeId} (hts : P.cellTypes P.depth t = some ts) {N : Nat} (hN : P.cellsOf t = N) (h : Value.okWide P w r b t v) :
    ∃ cs, v = .agg cs ∧ cs.size = N ∧ ∀ i u, cs[i]? = some u → ∃ t', ts[i % ts.length]? = some t' ∧ Cell.okWide P w r b t' u := by
  have h' : ∃ cs, v = .agg cs ∧ cs.size = P.cellsOf t ∧ Row.okWide P w r b t cs := by
    cases d <;> simp at hd <;> simpa only [Value.okWide, hu] using h
  obtain ⟨cs, rfl, hsz, ts', e, _, hc⟩ := h'
  obtain rfl : ts = ts' := Option.some.inj (hts.symm.trans e)
  exact ⟨cs, rfl, hsz.trans hN, hc⟩

theorem trodAll_ext {H : Type} {enc : TypeId × Value → H} {P : Program} (hl : laidOutB P = true) {W W' : World} (hb : Ext W W') : ∀ {ts : List TypeId} {vs : List Value} {ds : List (DataW H)} {ps : List MemPlace},
    (∀ t ∈ ts, P.readableRec t = true ∧ t < P.types.size) → DataW.TrodAll enc P W 0 (fun _ => true) true ts vs ds ps → (∀ x ∈ ps, x.block < W.heap.size) →
    DataW.TrodAll enc P W' 0 (fun b => decide (b < W.heap.size)) true ts vs ds ps
  | [], vs, ds, ps, _, h, _ => by
    obtain ⟨rfl, rfl, rfl⟩ := trodAll_nil h
    exact trodAll_mk0
  | t :: ts, vs, ds, ps, hr, h, hlt => by
    obtain ⟨v, vs', d, ds', p, q, rfl, rfl, rfl, h0, h1⟩ := trodAll_cons h
    have h0' := Below.trod hl (hr t (by simp)).1 (hr t (by simp)).2 h0 hb (fun x hx => hlt x (by simp [hx]))
    have h1' := trodAll_ext hl hb (fun t' ht' => hr t' (by simp [ht'])) h1 (fun x hx => hlt x (by simp [hx]))
    exact trodAll_cons_mk h0' h1'

theorem trodAll_length {H : Type} {enc : TypeId × Value → H} {P : Program} {W : World} : ∀ {ts : List TypeId} {vs : List Value} {ds : List (DataW H)} {ps : List MemPlace},
    DataW.TrodAll enc P W 0 (fun _ => true) true ts vs ds ps → ds.length = ts.length
  | [], vs, ds, ps, h => by obtain ⟨_, rfl, _⟩ := trodAll_nil h; rfl
  | t :: ts, vs, ds, ps, h => by
    obtain ⟨v, vs', d, ds', p', q', _, rfl, _, _, h1⟩ := trodAll_cons h
    simp [trodAll_length h1]

theorem law_lift {C : Checked} {f : FuncId} {fn : Func} {s : ChangeSpec} {tb : TypeId} {H : Type} {enc : TypeId × Value → H} {os : Os}
    (own : ownKnob C.prog.godebug = none) (started : os.Started) (noInit : C.prog.inits.idxOf? f = none) (hfn : C.prog.funcs[f]? = some fn)
    (witness : ∃ (w : World) (tape : Tape) (i : Input), w.os = os ∧ (w.forCall tape i).Shaped C.prog ∧ i.vars = [] ∧ Input.okWide C.prog (w.forCall tape i) .any w.heap.size f i ∧
      s.pre6 enc C.prog fn [] false (w.forCall tape i).memory i.args ∧ ({} : Assume).holds C.prog (lone (Frame.enter C.prog f i.args .normal) [] (w.forCall tape i)))
    (hl : laidOutB C.prog = true) (hrd : ∀ t ∈ fn.params.toList, C.prog.readableRec t = true ∧ t < C.prog.types.size)
    (hres : fn.resultTypes = #[tb]) (hb : C.prog.underlying tb = some .bool) (hv : s.vars = [])
    (hs : ∀ ds : List (DataW H), ds.length = fn.params.toList.length → s.fn H ds = { results := [.lit (.bool true)], args := ds })
    (walk : ∀ (W : World) (base : Nat) (args : Array Value) (ds : List (DataW H)) (p : List MemPlace),
      (∀ (j : Nat) t v, fn.params[j]? = some t → args[j]? = some v → Value.okWide C.prog W .any base t v) →
      DataW.TrodAll enc C.prog W 0 (fun _ => true) true fn.params.toList args.toList ds p →
      (DataW.weightsEach C.prog fn.params.toList ds).all (· ≤ reachBytes) = true →
      Calls C.prog f args W fun e W' => e = .returned (.bool true) ∧ Ext W W') :
    ReturnsInHanded {} C os f .any (s.pre6 enc C.prog fn [] false) (s.post enc C.prog fn false true false false) := by
  refine returnsInHanded_of_change_sized own started noInit hfn witness ?_
  intro W base args ds gs before hval hW _ hsz _
  have hW' := hW
  obtain ⟨p, q, hA, hV, rfl, hfz, hnd⟩ := hW
  rw [hv] at hV
  obtain ⟨rfl, rfl⟩ := trodVars_none hV
  have hlen : ds.length = fn.params.toList.length := trodAll_length hA
  have hty : s.plain.varTypes C.prog = [] := by simp [ChangeSpec.plain, DataSpec.varTypes, hv]
  rw [hty, List.append_nil, List.append_nil] at hsz
  refine (walk W base args ds p hval hA hsz).mono fun e W' ⟨he, hx⟩ => ?_
  subst he
  have hspec := hs ds hlen
  refine ⟨_, rfl, ds, [], p ++ [], [], p, [], hW', ?_, ?_, ?_, Below.frame hx _, fun h => by cases h⟩
  · rw [List.append_nil, hspec, hres]
    exact trodAll_mk1 (shut_bool hb true)
  · rw [List.append_nil, hspec]
    exact trodAll_ext hl hx hrd hA (fun x hx' => hW'.lt x (by simpa using hx'))
  · rw [List.append_nil, hspec, hv]
    rfl


/-! ### Arguments -/
/-- Cells of these types are the cells of some x. -/
def Dec (P : Program) (w : World) (r : Reach) (b : Nat) (ts : List TypeId) (α : Type) [Enc α] [Rng α] : Prop :=
  ∀ cs : List Value, cs.length = ts.length → (∀ (i : Nat) (t : TypeId) (v : Value), ts[i]? = some t → cs[i]? = some v → Cell.okWide P w r b t v) → ∃ x : α, cs = enc x ∧ Rng.ok x
section
variable {P : Program} {w : World} {r : Reach} {b : Nat}
theorem one_list {cs : List Value} (h : cs.length = 1) : ∃ v, cs = [v] := by
  match cs, h with
  | [v], _ => exact ⟨v, rfl⟩
theorem Dec.int {t : TypeId} (hu : P.underlying t = some (.int .i64)) : Dec P w r b [t] Int := fun cs hl hc => by
  obtain ⟨v, rfl⟩ := one_list hl
  obtain ⟨n, rfl, hn⟩ := cell_int hu (hc 0 t v rfl rfl)
  exact ⟨n, rfl, has_i64 hn⟩
theorem Dec.u8 {t : TypeId} (hu : P.underlying t = some (.int .u8)) : Dec P w r b [t] (BitVec 8) := fun cs hl hc => by
  obtain ⟨v, rfl⟩ := one_list hl
  obtain ⟨n, rfl, hn⟩ := cell_int hu (hc 0 t v rfl rfl)
  have := has_u8 hn
  refine ⟨BitVec.ofNat 8 n.toNat, ?_, trivial⟩
  show [Value.int .u8 n] = [Value.int .u8 ((BitVec.ofNat 8 n.toNat).toNat : Int)]
  rw [BitVec.toNat_ofNat, Nat.mod_eq_of_lt (by omega), Int.toNat_of_nonneg this.1]
theorem Dec.u16 {t : TypeId} (hu : P.underlying t = some (.int .u16)) : Dec P w r b [t] (BitVec 16) := fun cs hl hc => by
  obtain ⟨v, rfl⟩ := one_list hl
  obtain ⟨n, rfl, hn⟩ := cell_int hu (hc 0 t v rfl rfl)
  have := has_u16 hn
  refine ⟨BitVec.ofNat 16 n.toNat, ?_, trivial⟩
  show [Value.int .u16 n] = [Value.int .u16 ((BitVec.ofNat 16 n.toNat).toNat : Int)]
  rw [BitVec.toNat_ofNat, Nat.mod_eq_of_lt (by omega), Int.toNat_of_nonneg this.1]
theorem Dec.bool {t : TypeId} (hu : P.underlying t = some .bool) : Dec P w r b [t] Bool := fun cs hl hc => by
  obtain ⟨v, rfl⟩ := one_list hl
  obtain ⟨x, rfl⟩ := cell_bool hu (hc 0 t v rfl rfl)
  exact ⟨x, rfl, trivial⟩
/-- Two parts, one behind the other. -/
theorem Dec.two {α β : Type} [Enc α] [Rng α] [Enc β] [Rng β] {ts us : List TypeId} (h1 : Dec P w r b ts α) (h2 : Dec P w r b us β) (cs : List Value) (hl : cs.length = (ts ++ us).length)
    (hc : ∀ (i : Nat) (t : TypeId) (v : Value), (ts ++ us)[i]? = some t → cs[i]? = some v → Cell.okWide P w r b t v) : ∃ (x : α) (y : β), cs = enc x ++ enc y ∧ Rng.ok x ∧ Rng.ok y := by
  rw [List.length_append] at hl
  obtain ⟨x, hx, ox⟩ := h1 (cs.take ts.length) (by simp; omega) fun i t v ht hv => hc i t v (by rw [List.getElem?_append_left (List.getElem?_eq_some_iff.1 ht).1]; exact ht) (by
    rw [List.getElem?_take] at hv; split at hv
    · exact hv
    · cases hv)
  obtain ⟨y, hy, oy⟩ := h2 (cs.drop ts.length) (by simp; omega) fun i t v ht hv => hc (ts.length + i) t v (by rw [List.getElem?_append_right (by omega), Nat.add_sub_cancel_left]; exact ht) (by
    rw [List.getElem?_drop] at hv; exact hv)
  exact ⟨x, y, by rw [← hx, ← hy, List.take_append_drop], ox, oy⟩
instance {α β : Type} [Enc α] [Enc β] : Enc (α × β) := ⟨fun p => enc p.1 ++ enc p.2, sz α + sz β, fun p => by rw [List.length_append, Enc.len, Enc.len], fun p => by rw [List.all_append, Enc.one, Enc.one]; rfl⟩
instance {α β : Type} [Rng α] [Rng β] : Rng (α × β) := ⟨fun p => Rng.ok p.1 ∧ Rng.ok p.2⟩
theorem Dec.conv {α β : Type} [Enc α] [Rng α] [Enc β] [Rng β] {ts : List TypeId} (f : α → β) (h : Dec P w r b ts α) (he : ∀ x, enc (f x) = enc x) (hr : ∀ x : α, Rng.ok x → Rng.ok (f x)) : Dec P w r b ts β := fun cs hl hc => by
  obtain ⟨x, hx, ox⟩ := h cs hl hc
  exact ⟨f x, by rw [he]; exact hx, hr x ox⟩
theorem Dec.list {α : Type} [Enc α] [Rng α] {ts : List TypeId} (h : Dec P w r b ts α) : ∀ (k : Nat) (cs : List Value), cs.length = (List.replicate k ts).flatten.length → (∀ (i : Nat) (t : TypeId) (v : Value), (List.replicate k ts).flatten[i]? = some t → cs[i]? = some v → Cell.okWide P w r b t v) →
    ∃ l : List α, l.length = k ∧ cs = encs l ∧ ∀ x ∈ l, Rng.ok x
  | 0, cs, hl, _ => by
    have h0 : cs = [] := by simpa using hl
    exact ⟨[], rfl, by rw [h0]; rfl, by simp⟩
  | k + 1, cs, hl, hc => by
    rw [List.replicate_succ, List.flatten_cons] at hl hc
    rw [List.length_append] at hl
    obtain ⟨x, hx, ox⟩ := h (cs.take ts.length) (by simp; omega) fun i t v ht hv => hc i t v (by rw [List.getElem?_append_left (List.getElem?_eq_some_iff.1 ht).1]; exact ht) (by
      rw [List.getElem?_take] at hv; split at hv
      · exact hv
      · cases hv)
    obtain ⟨l, hl', hy, oy⟩ := Dec.list h k (cs.drop ts.length) (by rw [List.length_drop]; omega) fun i t v ht hv => hc (ts.length + i) t v (by rw [List.getElem?_append_right (by omega), Nat.add_sub_cancel_left]; exact ht) (by
      rw [List.getElem?_drop] at hv; exact hv)
    refine ⟨x :: l, by simp [hl'], by rw [encs_cons, ← hx, ← hy, List.take_append_drop], ?_⟩
    intro z hz
    rcases List.mem_cons.1 hz with rfl | hz
    · exact ox
    · exact oy z hz
theorem Dec.vec {α : Type} [Enc α] [Rng α] {ts us : List TypeId} {k : Nat} (h : Dec P w r b ts α) (hu : us = (List.replicate k ts).flatten) : Dec P w r b us (Vector α k) := fun cs hl hc => by
  subst hu
  obtain ⟨l, h1, rfl, h2⟩ := Dec.list h k cs hl hc
  subst h1
  refine ⟨⟨l.toArray, rfl⟩, rfl, fun i x hx => h2 x ?_⟩
  have : l[i]? = some x := by simpa using hx
  exact List.mem_of_getElem? this
/-- An argument that is a struct or an array. -/
theorem Dec.agg {α : Type} [Enc α] [Rng α] {t : TypeId} {v : Value} {d : TypeDesc} (hu : P.underlying t = some d) (hd : (match d with | .struct _ | .array _ _ => true | _ => false) = true) {ts : List TypeId} (hts : P.cellTypes P.depth t = some ts) (hN : P.cellsOf t = ts.length)
    (hD : Dec P w r b ts α) (h : Value.okWide P w r b t v) : ∃ x : α, v = .agg (enc x).toArray ∧ Rng.ok x := by
  obtain ⟨cs, rfl, hs, hc⟩ := ok_agg hu hd hts hN h
  obtain ⟨x, hx, ox⟩ := hD cs.toList (by simpa using hs) fun i t' v' ht hv => by
    have hv' : cs[i]? = some v' := by simpa using hv
    obtain ⟨t'', e1, e2⟩ := hc i v' hv'
    have hi := (List.getElem?_eq_some_iff.1 ht).1
    rw [Nat.mod_eq_of_lt hi] at e1
    rw [ht] at e1
    cases e1
    exact e2
  exact ⟨x, by rw [← hx], ox⟩
/-- The world in which a law begins. -/
def Frz.of (W : World) : Frz := fun b => W.heap[b]?
theorem St.first (W : World) : St W (Frz.of W) [] W := ⟨Below.refl _ _, fun _ _ h => h, fun b hb => by simp [feet] at hb, fun i hi => by simp at hi, by simp [feet]⟩
theorem Ok.law {P : Program} {W : World} {f : FuncId} {args : List Value} {v : Value} {post : Frz → List Item → Value → Prop} (h : Ok P W f args (Frz.of W) [] post) (hp : ∀ F L u, post F L u → u = v) : Calls P f args.toArray W fun e W' => e = .returned v ∧ Ext W W' :=
  (h W (St.first W)).mono fun _ _ ⟨F', L', u, he, _, hs, hpost⟩ => ⟨by rw [he, hp F' L' u hpost], hs.below⟩
end
end Go.Proofs.Ytnkfphbggemlbaa
