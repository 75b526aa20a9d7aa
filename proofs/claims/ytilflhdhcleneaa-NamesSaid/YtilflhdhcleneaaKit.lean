/-
  The frame that every law of this seat shares: a law whose call returns true in a world that only grew holds as its row says.
-/
import Derived.Test.YtilflhdhcleneaaRows
import Derived.WalkKit
import Derived.WalkSpells
import Derived.WalkLawsBesides
import Derived.ProofKit
import Derived.SizedLaws
import Derived.Lib.Hide
import Derived.OpenShut
import Derived.BigQuiet
import Derived.Deep.DrawnRows
namespace Go.Proofs.Ytilflhdhcleneaa
open Go.RowKit Go.ChangeShapes Go.WideShapes Go.ChangeAt

/-- All that was there is as it was; there may be new blocks. -/
def Ext (w w' : World) : Prop := Below w.heap.size w w'

namespace Ext
theorem refl (w : World) : Ext w w := Below.refl _ _
theorem trans {a b c : World} (h : Ext a b) (k : Ext b c) : Ext a c := Below.trans h (Below.mono k h.size)
theorem alloc {a w : World} (h : Ext a w) (o : Obj) : Ext a (w.alloc o) := Below.alloc h h.size o
theorem drew {a w : World} (h : Ext a w) : Ext a w.drew := Below.drew h
theorem setCell {a w : World} (h : Ext a w) {p : Addr} (hp : a.heap.size ≤ p.block) (u : Value) : Ext a (w.setCell p u) := Below.setCell h hp u
theorem all {w w' : World} (h : Ext w w') : (∀ b o, b < w.heap.size → w'.cell? ⟨b, o, none⟩ = w.cell? ⟨b, o, none⟩) ∧ (∀ b o, b < w.heap.size → w'.frozen? ⟨b, o, none⟩ = w.frozen? ⟨b, o, none⟩) ∧ w.heap.size ≤ w'.heap.size :=
  ⟨fun b o hb => Below.cell (p := ⟨b, o, none⟩) h hb, fun b o hb => Below.frozen (p := ⟨b, o, none⟩) h hb, h.size⟩
theorem size {w w' : World} (h : Ext w w') : w.heap.size ≤ w'.heap.size := Below.size h
theorem cell {w w' : World} (h : Ext w w') {p : Addr} {v : Value} (hc : w.cell? p = some v) : w'.cell? p = some v := (Below.cell h (block_lt_of_cell hc)).trans hc
end Ext

/-- A world that only grew out of w. -/
structure Grow (w : World) where
  val : World
  ext : Ext w val

instance Grow.any (w : World) : Nonempty (Grow w) := ⟨⟨w, Ext.refl w⟩⟩

/-- The heap of w has n blocks. -/
class SizeIs (w : World) (n : outParam Nat) : Prop where
  eq : w.heap.size = n
instance (priority := low) SizeIs.base (w : World) : SizeIs w w.heap.size := ⟨rfl⟩
instance SizeIs.alloc (w : World) (n : Nat) (o : Obj) [h : SizeIs w n] : SizeIs (w.alloc o) (n + 1) := ⟨by simp [h.eq]⟩
instance SizeIs.setCell (w : World) (n : Nat) (p : Addr) (v : Value) [h : SizeIs w n] : SizeIs (w.setCell p v) n := ⟨by simp [World.setCell, h.eq]⟩
instance SizeIs.drew (w : World) (n : Nat) [h : SizeIs w n] : SizeIs w.drew n := ⟨h.eq⟩

/-- Block b is there in w. -/
class Old (b : Nat) (w : World) : Prop where
  lt : b < w.heap.size
instance Old.grow (b : Nat) (w : World) (g : Grow w) [h : Old b w] : Old b g.val := ⟨Nat.lt_of_lt_of_le h.lt g.ext.size⟩
instance Old.new (b : Nat) (w : World) (o : Obj) [h : SizeIs w b] : Old b (w.alloc o) := ⟨by simp [h.eq]⟩
instance Old.alloc (b : Nat) (w : World) (o : Obj) [h : Old b w] : Old b (w.alloc o) := ⟨by have := h.lt; simp; omega⟩
instance Old.setCell (b : Nat) (w : World) (p : Addr) (v : Value) [h : Old b w] : Old b (w.setCell p v) := ⟨by have := h.lt; simpa [World.setCell] using this⟩
instance Old.drew (b : Nat) (w : World) [h : Old b w] : Old b w.drew := ⟨h.lt⟩

namespace Grow
variable {w : World}
theorem cell (g : Grow w) {b o : Nat} [h : Old b w] : g.val.cell? ⟨b, o, none⟩ = w.cell? ⟨b, o, none⟩ := g.ext.all.1 b o h.lt
theorem frozen (g : Grow w) {b o : Nat} [h : Old b w] : g.val.frozen? ⟨b, o, none⟩ = w.frozen? ⟨b, o, none⟩ := g.ext.all.2.1 b o h.lt
theorem block (g : Grow w) {b : Nat} [h : Old b w] : g.val.heap[b]? = w.heap[b]? := Below.block g.ext b h.lt
theorem size (g : Grow w) : w.heap.size ≤ g.val.heap.size := g.ext.size
theorem lt (g : Grow w) {b : Nat} [h : Old b w] : (b < g.val.heap.size) = True := eq_true (Nat.lt_of_lt_of_le h.lt g.size)
theorem lt_add (g : Grow w) {b k : Nat} [h : Old b w] : (b < g.val.heap.size + k) = True := eq_true (Nat.lt_of_lt_of_le h.lt (Nat.le_trans g.size (Nat.le_add_right _ _)))
end Grow
attribute [go_sem] Grow.cell Grow.frozen Grow.lt Grow.lt_add

theorem Ext.gr {w w' : World} (h : Ext w w') : ∃ g : Grow w, w' = g.val := ⟨⟨w', h⟩, rfl⟩
theorem gr_self (w : World) : ∃ g : Grow w, w = g.val := (Ext.refl w).gr

/-- A region that draws its order, whose operations read or call functions that only make memory: one walk in the order of the text. -/
theorem wp_region_grow {P : Program} {id : Nat} {Q : Exit → Act → World → Prop} {a : Act} {w : World} {l : List Oper} (hm : P.follows .mixedOrders = true) (hB : Region.lexB .any l.toArray = true)
    (h : wpQuiet P l.toArray (fun w' => ∃ g : Grow w, w' = g.val) (fun a' => ∀ w', (∃ g : Grow w, w' = g.val) → Q .normal a' w') l a) : (Code.region id l.toArray true).wp P Q a w :=
  wp_region_quiet (C := fun w' => ∃ g : Grow w, w' = g.val) hm hB ⟨⟨_, (Ext.refl w).drew⟩, rfl⟩ (by simpa using h)

theorem calls_grow {P : Program} {f : FuncId} {args : Array Value} {w : World} {g : Grow w} {v : Value}
    (h : Calls P f args g.val fun e w' => e = .returned v ∧ Ext g.val w') : Calls P f args g.val fun e w'' => e = .returned v ∧ ∃ g' : Grow w, w'' = g'.val :=
  h.mono fun _ _ ⟨he, hx⟩ => ⟨he, (g.ext.trans hx).gr⟩
theorem calls_same {P : Program} {f : FuncId} {args : Array Value} {w : World} {g : Grow w} {v : Value}
    (h : Calls P f args g.val fun e w' => e = .returned v ∧ g.val = w') : Calls P f args g.val fun e w'' => e = .returned v ∧ ∃ g' : Grow w, w'' = g'.val :=
  h.mono fun _ _ ⟨he, hx⟩ => ⟨he, g, hx.symm⟩

theorem ret_i {k : IntKind} {a b : Int} (h : a = b) : Ending.returned (.int k a) = .returned (.int k b) := by rw [h]
theorem ret_b {a b : Bool} (h : a = b) : Ending.returned (.bool a) = .returned (.bool b) := by rw [h]

theorem has_i64 {n : Int} (h : IntKind.i64.has n) : -9223372036854775808 ≤ n ∧ n ≤ 9223372036854775807 := by
  simpa [IntKind.has, IntKind.min, IntKind.max, IntKind.signed, IntKind.bits] using h
theorem has_u8 {n : Int} (h : IntKind.u8.has n) : 0 ≤ n ∧ n ≤ 255 := by
  simpa [IntKind.has, IntKind.min, IntKind.max, IntKind.signed, IntKind.bits] using h
theorem has_u16 {n : Int} (h : IntKind.u16.has n) : 0 ≤ n ∧ n ≤ 65535 := by
  simpa [IntKind.has, IntKind.min, IntKind.max, IntKind.signed, IntKind.bits] using h
theorem cell_int {P : Program} {w : World} {r : Reach} {b : Nat} {t : TypeId} {k : IntKind} {v : Value} (hu : P.underlying t = some (.int k)) (h : Cell.okWide P w r b t v) : ∃ n, v = .int k n ∧ k.has n := by
  simp only [Cell.okWide, Cell.ok, hu] at h
  cases v <;> simp at h
  obtain ⟨rfl, h⟩ := h
  exact ⟨_, rfl, h⟩
theorem cell_bool {P : Program} {w : World} {r : Reach} {b : Nat} {t : TypeId} {v : Value} (hu : P.underlying t = some .bool) (h : Cell.okWide P w r b t v) : ∃ x, v = .bool x := by
  simp only [Cell.okWide, Cell.ok, hu] at h
  cases v <;> simp at h
  exact ⟨_, rfl⟩
theorem ok_int {P : Program} {w : World} {r : Reach} {b : Nat} {t : TypeId} {k : IntKind} {v : Value} (hu : P.underlying t = some (.int k)) (h : Value.okWide P w r b t v) : ∃ n, v = .int k n ∧ k.has n :=
  cell_int hu (by simpa only [Value.okWide, hu] using h)
theorem ok_u8 {P : Program} {w : World} {r : Reach} {b : Nat} {t : TypeId} {v : Value} (hu : P.underlying t = some (.int .u8)) (h : Value.okWide P w r b t v) : ∃ n : Nat, v = .int .u8 n ∧ n < 256 := by
  obtain ⟨n, rfl, hn⟩ := ok_int hu h
  have := has_u8 hn
  exact ⟨n.toNat, by rw [Int.toNat_of_nonneg this.1], by omega⟩
theorem ok_agg {P : Program} {w : World} {r : Reach} {b : Nat} {t : TypeId} {v : Value} {d : TypeDesc} (hu : P.underlying t = some d) (hd : (match d with | .struct _ | .array _ _ => true | _ => false) = true)
    {ts : List TypeId} (hts : P.cellTypes P.depth t = some ts) {N : Nat} (hN : P.cellsOf t = N) (h : Value.okWide P w r b t v) :
    ∃ cs, v = .agg cs ∧ cs.size = N ∧ ∀ i u, cs[i]? = some u → ∃ t', ts[i % ts.length]? = some t' ∧ Cell.okWide P w r b t' u := by
  have h' : ∃ cs, v = .agg cs ∧ cs.size = P.cellsOf t ∧ Row.okWide P w r b t cs := by
    cases d <;> simp at hd <;> simpa only [Value.okWide, hu] using h
  obtain ⟨cs, rfl, hsz, ts', e, _, hc⟩ := h'
  obtain rfl : ts = ts' := Option.some.inj (hts.symm.trans e)
  exact ⟨cs, rfl, hsz.trans hN, hc⟩

theorem trodAll_ext {H : Type} {enc : TypeId × Value → H} {P : Program} (hl : laidOutB P = true) {W W' : World} (hb : Ext W W') : ∀ {ts : List TypeId} {vs : List Value} {ds : List (DataW H)} {ps : List MemPlace},
    (∀ t ∈ ts, P.readableRec t = true ∧ t < P.types.size) → DataW.TrodAll enc P W 0 (fun _ => true) true ts vs ds ps → (∀ x ∈ ps, x.block < W.heap.size) →
    DataW.TrodAll enc P W' 0 (fun b => decide (b < W.heap.size)) true ts vs ds ps
  | [], vs, ds, ps, _, h, _ => by
    obtain ⟨rfl, rfl, rfl⟩ := trodAll_nil h
    exact trodAll_mk0
  | t :: ts, vs, ds, ps, hr, h, hlt => by
    obtain ⟨v, vs', d, ds', p, q, rfl, rfl, rfl, h0, h1⟩ := trodAll_cons h
    have h0' := Below.trod hl (hr t (by simp)).1 (hr t (by simp)).2 h0 hb (fun x hx => hlt x (by simp [hx]))
    have h1' := trodAll_ext hl hb (fun t' ht' => hr t' (by simp [ht'])) h1 (fun x hx => hlt x (by simp [hx]))
    exact trodAll_cons_mk h0' h1'

theorem trodAll_length {H : Type} {enc : TypeId × Value → H} {P : Program} {W : World} : ∀ {ts : List TypeId} {vs : List Value} {ds : List (DataW H)} {ps : List MemPlace},
    DataW.TrodAll enc P W 0 (fun _ => true) true ts vs ds ps → ds.length = ts.length
  | [], vs, ds, ps, h => by obtain ⟨_, rfl, _⟩ := trodAll_nil h; rfl
  | t :: ts, vs, ds, ps, h => by
    obtain ⟨v, vs', d, ds', p', q', _, rfl, _, _, h1⟩ := trodAll_cons h
    simp [trodAll_length h1]

theorem law_lift {C : Checked} {f : FuncId} {fn : Func} {s : ChangeSpec} {tb : TypeId} {H : Type} {enc : TypeId × Value → H} {os : Os}
    (own : ownKnob C.prog.godebug = none) (started : os.Started) (noInit : C.prog.inits.idxOf? f = none) (hfn : C.prog.funcs[f]? = some fn)
    (witness : ∃ (w : World) (tape : Tape) (i : Input), w.os = os ∧ (w.forCall tape i).Shaped C.prog ∧ i.vars = [] ∧ Input.okWide C.prog (w.forCall tape i) .any w.heap.size f i ∧
      s.pre6 enc C.prog fn [] false (w.forCall tape i).memory i.args ∧ ({} : Assume).holds C.prog (lone (Frame.enter C.prog f i.args .normal) [] (w.forCall tape i)))
    (hl : laidOutB C.prog = true) (hrd : ∀ t ∈ fn.params.toList, C.prog.readableRec t = true ∧ t < C.prog.types.size)
    (hres : fn.resultTypes = #[tb]) (hb : C.prog.underlying tb = some .bool) (hv : s.vars = [])
    (hs : ∀ ds : List (DataW H), ds.length = fn.params.toList.length → s.fn H ds = { results := [.lit (.bool true)], args := ds })
    (walk : ∀ (W : World) (base : Nat) (args : Array Value) (ds : List (DataW H)) (p : List MemPlace),
      (∀ (j : Nat) t v, fn.params[j]? = some t → args[j]? = some v → Value.okWide C.prog W .any base t v) →
      DataW.TrodAll enc C.prog W 0 (fun _ => true) true fn.params.toList args.toList ds p →
      (DataW.weightsEach C.prog fn.params.toList ds).all (· ≤ reachBytes) = true →
      Calls C.prog f args W fun e W' => e = .returned (.bool true) ∧ Ext W W') :
    ReturnsInHanded {} C os f .any (s.pre6 enc C.prog fn [] false) (s.post enc C.prog fn false true false false) := by
  refine returnsInHanded_of_change_sized own started noInit hfn witness ?_
  intro W base args ds gs before hval hW _ hsz _
  have hW' := hW
  obtain ⟨p, q, hA, hV, rfl, hfz, hnd⟩ := hW
  rw [hv] at hV
  obtain ⟨rfl, rfl⟩ := trodVars_none hV
  have hlen : ds.length = fn.params.toList.length := trodAll_length hA
  have hty : s.plain.varTypes C.prog = [] := by simp [ChangeSpec.plain, DataSpec.varTypes, hv]
  rw [hty, List.append_nil, List.append_nil] at hsz
  refine (walk W base args ds p hval hA hsz).mono fun e W' ⟨he, hx⟩ => ?_
  subst he
  have hspec := hs ds hlen
  refine ⟨_, rfl, ds, [], p ++ [], [], p, [], hW', ?_, ?_, ?_, Below.frame hx _, fun h => by cases h⟩
  · rw [List.append_nil, hspec, hres]
    exact trodAll_mk1 (shut_bool hb true)
  · rw [List.append_nil, hspec]
    exact trodAll_ext hl hx hrd hA (fun x hx' => hW'.lt x (by simpa using hx'))
  · rw [List.append_nil, hspec, hv]
    rfl

end Go.Proofs.Ytilflhdhcleneaa
