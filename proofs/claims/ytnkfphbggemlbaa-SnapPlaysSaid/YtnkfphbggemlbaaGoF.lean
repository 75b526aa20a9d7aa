/-
  The rules of calls, results, and of the other operations.
-/
import Derived.Test.YtnkfphbggemlbaaGoE
namespace Go.Proofs.Ytnkfphbggemlbaa
open Go.RowKit Enc

/-- What a call comes to. -/
def Gives (w0 : World) (F : Frz) (post : Frz → List Item → Value → Prop) (e : Ending) (w' : World) : Prop :=
  ∃ F' L' v, e = .returned v ∧ FLe F F' ∧ St w0 F' L' w' ∧ post F' L' v
def Ok (P : Program) (w0 : World) (f : FuncId) (args : List Value) (F : Frz) (L : List Item) (post : Frz → List Item → Value → Prop) : Prop :=
  ∀ w, St w0 F L w → Calls P f args.toArray w (Gives w0 F post)
/-- One value, nothing changed that is owned. -/
def Is (v : Value) (L : List Item) : Frz → List Item → Value → Prop := fun _ L' u => u = v ∧ L' = L

theorem Ok.mono {P : Program} {w0 : World} {f : FuncId} {args : List Value} {F : Frz} {L : List Item} {post post' : Frz → List Item → Value → Prop} (h : Ok P w0 f args F L post) (hp : ∀ F' L' v, FLe F F' → post F' L' v → post' F' L' v) : Ok P w0 f args F L post' :=
  fun w hw => (h w hw).mono fun _ _ ⟨F', L', v, h1, h2, h3, h4⟩ => ⟨F', L', v, h1, h2, h3, hp F' L' v h2 h4⟩

def enum : Nat → List Value → List (Nat × Value)
  | _, [] => []
  | k, v :: vs => (k, v) :: enum (k + 1) vs
theorem look_enum : ∀ (vs : List Value) (k t : Nat) (v : Value), look (enum k vs) t = some v → k ≤ t ∧ vs[t - k]? = some v
  | [], _, _, _, h => by simp [enum, look] at h
  | u :: vs, k, t, v, h => by
    simp only [enum, look] at h
    by_cases e1 : k = t
    · subst e1; simp only [beq_self_eq_true, cond_true] at h; simpa using h
    · have : (k == t) = false := by simpa using e1
      rw [this, cond_false] at h
      obtain ⟨h1, h2⟩ := look_enum vs (k + 1) t v h
      refine ⟨by omega, ?_⟩
      rw [show t - k = (t - (k + 1)) + 1 by omega]; simpa using h2

theorem Ok.enter {P : Program} {w0 : World} {f : FuncId} {args : List Value} {F : Frz} {L : List Item} {post : Frz → List Item → Value → Prop} {fn : Func} {c : Code} {n m : Nat} (hf : P.funcs[f]? = some fn) (hb : fn.body = some c) (hn : fn.ntmps = n)
    (hm : args.length = m) (hle : m ≤ n) (h : Cd P n w0 (bodyPost P fn (Gives w0 F post)) c (enum 0 args) F L) : Ok P w0 f args F L post := fun w hw => by
  subst hn hm
  refine calls_of_wp hf hb (h _ w ⟨rfl, by simp; omega, fun t v ht => ?_⟩ hw)
  have := (look_enum args 0 t v ht).2
  simp only [Nat.sub_zero] at this
  have hlt := (List.getElem?_eq_some_iff.1 this).1
  rw [Array.getElem?_append_left (by simpa using hlt)]
  simpa using this

section
variable {P : Program} {n : Nat} {w0 : World} {ops : Array Oper} {Q : Exit → Act → World → Prop} {K : Act → Prop} {l : List Oper} {e : List (Nat × Value)} {F F0 : Frz} {L L' : List Item} {v : Value} {dst : Option Nat} {d : Nat} {ty : TypeId} {pos : String} {aft : Array Edge} {gd : Option (Nat × Bool)}
  {post : Frz → List Item → Value → Prop} {fn : Func}

/-! returns -/
def resF (tmps : Array Value) (r : ResultVar) : Sem Value := match r with
  | .tmp t => pure (tmps.getD t undef)
  | .cell a t => do loadVar t (← asAddr (tmps.getD a undef))
theorem results_eq (fn : Func) (tmps : Array Value) : results fn tmps = (do let vs ← fn.results.mapM (resF tmps); pure (if h : vs.size = 1 then vs[0] else .tuple vs)) := by
  have hf : resF tmps = (fun | .tmp t => pure (tmps.getD t undef) | .cell a t => do loadVar t (← asAddr (tmps.getD a undef))) := by funext r; cases r <;> rfl
  rw [hf]; rfl
def Res (P : Program) (n : Nat) (w0 : World) (e : List (Nat × Value)) (F : Frz) (L : List Item) (r : ResultVar) (v : Value) : Prop :=
  ∀ a w, EnvOk n a e → St w0 F L w → (resF a.tmps r).run P w = .ok v w
theorem Res.tmp {t : Nat} (h : look e t = some v) : Res P n w0 e F L (.tmp t) v := fun a w ha _ => by
  simp [resF, Array.getD_eq_getD_getElem?, ha.get t v h]
theorem Res.cell {t : TypeId} {ad b i : Nat} {cs : List Value} {t' : TypeId} (h : look e ad = some (.pointer (some ⟨b, 0, none⟩))) (hL : L[i]? = some (.blk b cs t')) (ha : ∀ w, (isAgg t).run P w = .ok false w) (hc : cs = [v]) : Res P n w0 e F L (.cell ad t) v := fun a w h' hw => by
  have hb : w.heap[b]? = some (.cells cs.toArray t' (0, 0)) := hw.get hL
  subst hc
  simp [resF, Array.getD_eq_getD_getElem?, h'.get ad _ h, asAddr, run_load1 hb ha (Get.here [v])]
theorem Res.cellA {t : TypeId} {ad b i s : Nat} {cs : List Value} {t' : TypeId} (h : look e ad = some (.pointer (some ⟨b, 0, none⟩))) (hL : L[i]? = some (.blk b cs t')) (ha : ∀ w, (isAgg t).run P w = .ok true w) (hs : ∀ w, (sizeOf t).run P w = .ok s w) (hl : cs.length = s) :
    Res P n w0 e F L (.cell ad t) (.agg cs.toArray) := fun a w h' hw => by
  have hb : w.heap[b]? = some (.cells cs.toArray t' (0, 0)) := hw.get hL
  simp [resF, Array.getD_eq_getD_getElem?, h'.get ad _ h, asAddr, run_loadA hb ha hs hl (Get.here cs)]

theorem At.out {x : Exit} (hx : x = .ret ∨ x = .normal) (hr : ∀ a w, EnvOk n a e → St w0 F L w → (results fn a.tmps).run P w = .ok v w) (hF : FLe F0 F) (hs : L'.Sublist L) (hp : post F L' v) : At n w0 (bodyPost P fn (Gives w0 F0 post)) x e F L := fun a w ha hw => by
  rcases hx with rfl | rfl <;> exact ⟨ha.defers, v, hr a w ha hw, F, L', v, rfl, hF, hw.sublist hs, hp⟩
theorem At.ret0 {x : Exit} (hx : x = .ret ∨ x = .normal) (hres : fn.results = #[]) (hF : FLe F0 F) (hs : L'.Sublist L) (hp : post F L' (.tuple #[])) : At n w0 (bodyPost P fn (Gives w0 F0 post)) x e F L :=
  At.out hx (fun a w ha hw => by simp [results, hres]) hF hs hp
theorem At.ret1 {r1 : ResultVar} (hres : fn.results = #[r1]) (h1 : Res P n w0 e F L r1 v) (hF : FLe F0 F) (hs : L'.Sublist L) (hp : post F L' v) : At n w0 (bodyPost P fn (Gives w0 F0 post)) .ret e F L :=
  At.out (.inl rfl) (fun a w ha hw => by
    have := h1 a w ha hw
    simp [results_eq, hres, this]) hF hs hp
theorem At.ret2 {r1 r2 : ResultVar} {v1 v2 : Value} (hres : fn.results = #[r1, r2]) (h1 : Res P n w0 e F L r1 v1) (h2 : Res P n w0 e F L r2 v2) (hF : FLe F0 F) (hs : L'.Sublist L) (hp : post F L' (.tuple #[v1, v2])) : At n w0 (bodyPost P fn (Gives w0 F0 post)) .ret e F L :=
  At.out (.inl rfl) (fun a w ha hw => by
    have := h1 a w ha hw
    have g2 := h2 a w ha hw
    simp [results_eq, hres, this, g2]) hF hs hp
/-! calls -/
theorem run_call {f : FuncId} {xs : List Operand} {vs : List Value} {ats : Array TypeId} {a : Act} {w : World} (ha : EnvOk n a e) (hx : evs e xs vs) (hcall : ∀ (args : Array Value) (w : World), (callFunc f args).run P w = .ok (.enter f args) w) :
    (execOp a.eval ⟨dst, .call ⟨.value (.func f), xs.toArray, ats⟩, ty, pos, aft, gd⟩).run P w = .ok (.enter f vs.toArray) w := by
  have hm := ha.evals hx
  simp [execOp, resolve, Deferred.ofValue, Act.eval, invoke, hcall]
  exact hm
theorem Lst.call {f : FuncId} {xs : List Operand} {vs : List Value} {ats : Array TypeId} (hg : gd = none) (hdst : dst = some d) (hn : d < n) (hx : evs e xs vs) (hcall : ∀ (args : Array Value) (w : World), (callFunc f args).run P w = .ok (.enter f args) w) (hO : Ok P w0 f vs F L post)
    (k : ∀ F' L' v, FLe F F' → post F' L' v → Lst P n w0 ops Q l ((d, v) :: e) F' L') : Lst P n w0 ops Q (⟨dst, .call ⟨.value (.func f), xs.toArray, ats⟩, ty, pos, aft, gd⟩ :: l) e F L :=
  Lst.wp_plain hg fun a w h hw => by
    subst hdst
    unfold Oper.wp
    rw [run_call h hx hcall, Oper.upon_enter]
    refine (hO w hw).mono ?_
    rintro _ w' ⟨F', L', v, rfl, hF, hw', hp⟩
    exact k F' L' v hF hp _ _ (h.put hn v) hw'
theorem Lst.callG {j : Nat} {want : Bool} {t : Nat} {b : Bool} {f : FuncId} {xs : List Operand} {vs : List Value} {ats : Array TypeId} (hg : gd = some (j, want)) (hj : (ops[j]?).bind (·.dst) = some t) (ht : look e t = some (.bool b)) (hb : b = want) (hdst : dst = some d) (hn : d < n) (hx : evs e xs vs)
    (hcall : ∀ (args : Array Value) (w : World), (callFunc f args).run P w = .ok (.enter f args) w) (hO : Ok P w0 f vs F L post)
    (k : ∀ F' L' v, FLe F F' → post F' L' v → Lst P n w0 ops Q l ((d, v) :: e) F' L') : Lst P n w0 ops Q (⟨dst, .call ⟨.value (.func f), xs.toArray, ats⟩, ty, pos, aft, gd⟩ :: l) e F L := by
  intro a w ha hw
  unfold wpList
  rw [if_pos (by rw [wanted_of ha hg hj ht, hb]; simp)]
  refine .inl ?_
  subst hdst
  unfold Oper.wp
  rw [run_call ha hx hcall, Oper.upon_enter]
  refine (hO w hw).mono ?_
  rintro _ w' ⟨F', L', v, rfl, hF, hw', hp⟩
  exact k F' L' v hF hp _ _ (ha.put hn v) hw'
/-- A call that gives one value. -/
theorem Lst.call1 {f : FuncId} {xs : List Operand} {vs : List Value} {ats : Array TypeId} (hg : gd = none) (hdst : dst = some d) (hn : d < n) (hx : evs e xs vs) (hcall : ∀ (args : Array Value) (w : World), (callFunc f args).run P w = .ok (.enter f args) w) (hO : Ok P w0 f vs F L (Is v L))
    (k : Lst P n w0 ops Q l ((d, v) :: e) F L) : Lst P n w0 ops Q (⟨dst, .call ⟨.value (.func f), xs.toArray, ats⟩, ty, pos, aft, gd⟩ :: l) e F L :=
  Lst.call hg hdst hn hx hcall hO fun _ _ _ hF ⟨h1, h2⟩ => by subst h1 h2; exact fun a w ha hw => k a w ha (hw.weaken hF)
theorem Lst.call1G {j : Nat} {want : Bool} {t : Nat} {b : Bool} {f : FuncId} {xs : List Operand} {vs : List Value} {ats : Array TypeId} (hg : gd = some (j, want)) (hj : (ops[j]?).bind (·.dst) = some t) (ht : look e t = some (.bool b)) (hb : b = want) (hdst : dst = some d) (hn : d < n) (hx : evs e xs vs)
    (hcall : ∀ (args : Array Value) (w : World), (callFunc f args).run P w = .ok (.enter f args) w) (hO : Ok P w0 f vs F L (Is v L))
    (k : Lst P n w0 ops Q l ((d, v) :: e) F L) : Lst P n w0 ops Q (⟨dst, .call ⟨.value (.func f), xs.toArray, ats⟩, ty, pos, aft, gd⟩ :: l) e F L :=
  Lst.callG hg hj ht hb hdst hn hx hcall hO fun _ _ _ hF ⟨h1, h2⟩ => by subst h1 h2; exact fun a w ha hw => k a w ha (hw.weaken hF)
/-- In a drawn region: a call of one value. -/
theorem Qt.call {f : FuncId} {xs : List Operand} {vs : List Value} {ats : Array TypeId} (hg : gd = none) (hdst : dst = some d) (hn : d < n) (hx : evs e xs vs) (hcall : ∀ (args : Array Value) (w : World), (callFunc f args).run P w = .ok (.enter f args) w) (hO : Ok P w0 f vs F L (Is v L))
    (k : Qt P n w0 ops K l ((d, v) :: e) F L) : Qt P n w0 ops K (⟨dst, .call ⟨.value (.func f), xs.toArray, ats⟩, ty, pos, aft, gd⟩ :: l) e F L := by
  intro a ha
  unfold wpQuiet
  rw [if_pos (by simp [Region.wanted, hg])]
  subst hdst
  refine ⟨v, fun w hw => ?_, k _ (ha.put hn v)⟩
  unfold Oper.quietAt
  rw [run_call ha hx hcall]
  refine ⟨rfl, (hO w hw).mono ?_⟩
  rintro _ w' ⟨F', L', v, rfl, hF, hw', rfl, rfl⟩
  exact ⟨rfl, hw'.weaken hF⟩
theorem Qt.callG {j : Nat} {want : Bool} {t : Nat} {b : Bool} {f : FuncId} {xs : List Operand} {vs : List Value} {ats : Array TypeId} (hg : gd = some (j, want)) (hj : (ops[j]?).bind (·.dst) = some t) (ht : look e t = some (.bool b)) (hb : b = want) (hdst : dst = some d) (hn : d < n) (hx : evs e xs vs)
    (hcall : ∀ (args : Array Value) (w : World), (callFunc f args).run P w = .ok (.enter f args) w) (hO : Ok P w0 f vs F L (Is v L))
    (k : Qt P n w0 ops K l ((d, v) :: e) F L) : Qt P n w0 ops K (⟨dst, .call ⟨.value (.func f), xs.toArray, ats⟩, ty, pos, aft, gd⟩ :: l) e F L := by
  intro a ha
  unfold wpQuiet
  rw [if_pos (by rw [wanted_of ha hg hj ht, hb]; simp)]
  subst hdst
  refine ⟨v, fun w hw => ?_, k _ (ha.put hn v)⟩
  unfold Oper.quietAt
  rw [run_call ha hx hcall]
  refine ⟨rfl, (hO w hw).mono ?_⟩
  rintro _ w' ⟨F', L', v, rfl, hF, hw', rfl, rfl⟩
  exact ⟨rfl, hw'.weaken hF⟩

/-! small ones -/
theorem Ev.extract {x : Operand} {vs : Array Value} {i : Nat} (hx : ev e x = some (.tuple vs)) (hv : vs[i]? = some v) : Ev P n w0 e F L ⟨dst, .extract x i, ty, pos, aft, gd⟩ v := fun a w h hw => by
  simp [execOp, h.eval hx, Instr.extract, hv]
theorem Ev.nilCheck {x : Operand} {ad : Addr} (hx : ev e x = some (.pointer (some ad))) : Ev P n w0 e F L ⟨dst, .nilCheck x, ty, pos, aft, gd⟩ (.pointer (some ad)) := fun a w h hw => by
  simp [execOp, h.eval hx]
theorem Ev.nilCheckS {α : Type} [Enc α] {x : Operand} {s : Sl} {xs : List α} {ch : List Value} {k : Nat} (hx : ev e x = some (s.at k)) (hr : Rd w0 F L s xs) (hg : Get (encs xs) k ch) (hc : (ch.length == 0) = false) : Ev P n w0 e F L ⟨dst, .nilCheck x, ty, pos, aft, gd⟩ (s.at k) := fun a w h hw => by
  have hc' : ¬ ch.length = 0 := by simpa using hc
  obtain ⟨b, o, cs, fr, h1, h2, h3⟩ := (hr w hw).choose_spec.choose_spec.block hg (by omega)
  simp [execOp, h.eval hx, h1]
theorem Ev.makeFunc {f : Fn} {xs ys : List Operand} {us vs : List Value} (hx : evs e xs us) (hy : evs e ys vs) : Ev P n w0 e F L ⟨dst, .makeFunc f xs.toArray ys.toArray, ty, pos, aft, gd⟩ (.func f us.toArray vs.toArray) := fun a w h hw => by
  have h1 := h.evals hx
  have h2 := h.evals hy
  simp [execOp, Instr.makeFunc, h1, h2]
theorem Ev.convI {x : Operand} {s t : TypeId} {k k' : IntKind} {i : Int} {d1 : TypeDesc} (hx : ev e x = some (.int k i)) (h1 : ∀ w, (underlying s).run P w = .ok d1 w) (h2 : ∀ w, (underlying t).run P w = .ok (.int k') w) :
    Ev P n w0 e F L ⟨dst, .convert s t x, ty, pos, aft, gd⟩ (.int k' (k'.wrap i)) := fun a w h hw => by
  simp [execOp, h.eval hx, convert, h1, h2, Conv.intToInt]
theorem Ev.lenS {α : Type} [Enc α] {x : Operand} {s : Sl} {t el : TypeId} {xs : List α} {ats : Array TypeId} (hp : 0 < sz α) (hx : ev e x = some s.v) (hat : ats[0]? = some t) (hu : ∀ w, (underlying t).run P w = .ok (.slice el) w) (hr : Rd w0 F L s xs) :
    Ev P n w0 e F L ⟨dst, .call ⟨.builtin .len, #[x], ats⟩, ty, pos, aft, gd⟩ (.int .i64 xs.length) := fun a w h hw => by
  have := (hr w hw).choose_spec.choose_spec.len hp
  simp [execOp, resolve, invoke, builtin, Builtin.len_, hat, h.eval hx, hu, Sl.v, goInt, this]
theorem Ev.max2 {x y : Operand} {i j : Int} {ats : Array TypeId} (hx : ev e x = some (.int .i64 i)) (hy : ev e y = some (.int .i64 j)) :
    Ev P n w0 e F L ⟨dst, .call ⟨.builtin .max, #[x, y], ats⟩, ty, pos, aft, gd⟩ (.int .i64 (max i j)) := fun a w h hw => by
  simp [execOp, resolve, invoke, builtin, Builtin.max_, Builtin.max2, h.eval hx, h.eval hy]
  split <;> omega
theorem Ev.min2 {x y : Operand} {i j : Int} {ats : Array TypeId} (hx : ev e x = some (.int .i64 i)) (hy : ev e y = some (.int .i64 j)) :
    Ev P n w0 e F L ⟨dst, .call ⟨.builtin .min, #[x, y], ats⟩, ty, pos, aft, gd⟩ (.int .i64 (min i j)) := fun a w h hw => by
  simp [execOp, resolve, invoke, builtin, Builtin.min_, Builtin.min2, h.eval hx, h.eval hy]
  split <;> omega
theorem Ev.min3 {x y z : Operand} {i j k : Int} {ats : Array TypeId} (hx : ev e x = some (.int .i64 i)) (hy : ev e y = some (.int .i64 j)) (hz : ev e z = some (.int .i64 k)) :
    Ev P n w0 e F L ⟨dst, .call ⟨.builtin .min, #[x, y, z], ats⟩, ty, pos, aft, gd⟩ (.int .i64 (min (min i j) k)) := fun a w h hw => by
  simp [execOp, resolve, invoke, builtin, Builtin.min_, Builtin.min2, h.eval hx, h.eval hy, h.eval hz]
  split <;> split <;> omega
theorem Get.extract {cs ch : List Value} {off : Nat} (h : Get cs off ch) {s : Nat} (hs : ch.length = s) : cs.toArray.extract off (off + s) = ch.toArray := by
  obtain ⟨A, B, rfl, rfl⟩ := h
  subst hs
  simp
/-! values of structs and arrays -/
theorem splice_fold : ∀ (vs : List Value) (A old B : List Value) (k : Nat), old.length = vs.length → ((vs.zipIdx k).foldl (fun cs (p : Value × Nat) => cs.setIfInBounds (A.length - k + p.2) p.1) (A ++ (old ++ B)).toArray) = (A ++ (vs ++ B)).toArray ∨ k > A.length
  | [], A, old, B, k, h => by
    have : old = [] := by simpa using h
    subst this; simp
  | v :: vs, A, old, B, k, h => by
    cases old with
    | nil => simp at h
    | cons o old =>
      by_cases hk : k > A.length
      · exact .inr hk
      · left
        have ih := splice_fold vs (A ++ [v]) old B (k + 1) (by simpa using h)
        rcases ih with ih | ih
        · simp only [List.zipIdx_cons, List.foldl_cons]
          rw [show A.length - k + k = A.length by omega]
          have e1 : (A ++ (o :: old ++ B)).toArray.setIfInBounds A.length v = (A ++ [v] ++ (old ++ B)).toArray := by
            apply Array.ext'; simp
          rw [e1]
          have e2 : (A ++ [v]).length - (k + 1) = A.length - k := by simp
          rw [e2] at ih
          rw [ih]; simp
        · simp at ih; omega
theorem fill_nil {place : Nat → Option (Nat × Nat)} {cs : Array Value} : Instr.fill place cs [] = some cs := rfl
theorem fill_cons {place : Nat → Option (Nat × Nat)} {cs cs' vs : List Value} {i off s : Nat} {v : Value} {rest : List (Nat × Value)} {r : Array Value} (hp : place i = some (off, s)) (hv : v.cells = vs.toArray) (hl : vs.length = s) (hq : Put cs off vs cs')
    (k : Instr.fill place cs'.toArray rest = some r) : Instr.fill place cs.toArray ((i, v) :: rest) = some r := by
  have hle := hq.le
  obtain ⟨A, old, B, rfl, rfl, ho, rfl⟩ := hq
  unfold Instr.fill
  simp only [hp]
  have hsz : v.cells.size = s := by rw [hv]; simpa using hl
  rw [if_neg (by rw [hsz]; simp only [Bool.or_eq_true, decide_eq_true_eq, List.size_toArray]; simp at hle ⊢; omega)]
  have := splice_fold vs A old B 0 ho
  simp only [Nat.sub_zero] at this
  rcases this with this | this
  · rw [hv]
    have e : (vs.toArray.zipIdx).foldl (fun cs (p : Value × Nat) => cs.setIfInBounds (A.length + p.2) p.1) (A ++ (old ++ B)).toArray = (A ++ (vs ++ B)).toArray := by
      rw [← Array.foldl_toList]; simpa using this
    rw [← e] at k
    exact k
  · omega
theorem run_buildStruct {P : Program} {t : TypeId} {fs : Array Field} {z : Value} {places : Array (Nat × Nat)} {zs cs : List Value} {pv : List (Nat × Value)} (hz : ∀ w, (zeroValue t).run P w = .ok z w) (hzc : z.cells = zs.toArray) (hu : ∀ w, (underlying t).run P w = .ok (.struct fs) w)
    (hp : ∀ w, (fs.mapM fun f => do pure (f.offset, ← sizeOf f.type) : Sem (Array (Nat × Nat))).run P w = .ok places w) (hf : Instr.fill (places[·]?) zs.toArray pv = some cs.toArray) (w : World) : (Instr.build t pv.toArray).run P w = .ok (.agg cs.toArray) w := by
  simp [Instr.build, hz, hu, hzc]
  simp at hp
  simp [hp, hf]
def evps (e : List (Nat × Value)) : List (Nat × Operand) → List (Nat × Value) → Prop
  | [], [] => True
  | (i, x) :: xs, (j, v) :: vs => i = j ∧ ev e x = some v ∧ evps e xs vs
  | _, _ => False
theorem EnvOk.evps {a : Act} (h : EnvOk n a e) : ∀ {xs : List (Nat × Operand)} {vs : List (Nat × Value)}, evps e xs vs → xs.map (fun p => (p.1, a.eval p.2)) = vs
  | [], [], _ => rfl
  | (i, x) :: xs, (j, v) :: vs, ⟨h1, h2, h3⟩ => by subst h1; rw [List.map_cons, h.eval h2, h.evps h3]
  | [], _ :: _, h => h.elim
  | _ :: _, [], h => h.elim
theorem Ev.build {t : TypeId} {ps : List (Nat × Operand)} {pv : List (Nat × Value)} (hx : Ytnkfphbggemlbaa.evps e ps pv) (hb : ∀ w, (Instr.build t pv.toArray).run P w = .ok v w) : Ev P n w0 e F L ⟨dst, .build t ps.toArray, ty, pos, aft, gd⟩ v := fun a w h hw => by
  have hm := h.evps hx
  have hb' := hb w
  simp only [← hm] at hb'
  simp [execOp]
  simp [hb']
theorem Lst.buildSlice {α : Type} [Enc α] {t el : TypeId} {k m : Nat} {ps : List (Nat × Operand)} {pv : List (Nat × Value)} {xs : List α} (hg : gd = none) (hdst : dst = some d) (hn : d < n) (hx : Ytnkfphbggemlbaa.evps e ps pv)
    (hb : ∀ w, (Instr.buildSlice t k pv.toArray).run P w = .ok (.slice (some ⟨w.heap.size, 0, none⟩) k k) { w with heap := w.heap.push (.cells (encs xs).toArray el) }) (hk : xs.length = k) (hm : sz α = m) (h47 : k ≤ 2 ^ 63 - 1)
    (kk : ∀ s : Sl, s.len = k → Lst P n w0 ops Q l ((d, s.v) :: e) F (.own s el m (encs xs) :: L)) : Lst P n w0 ops Q (⟨dst, .buildSlice t k ps.toArray, ty, pos, aft, gd⟩ :: l) e F L :=
  Lst.wp_plain hg fun a w h hw => by
    subst hdst hm
    have hmv := h.evps hx
    have hb' := hb w
    simp only [← hmv] at hb'
    unfold Oper.wp
    have hr : (execOp a.eval ⟨some d, .buildSlice t k ps.toArray, ty, pos, aft, gd⟩).run P w = .ok (.value (.slice (some ⟨w.heap.size, 0, none⟩) k k)) { w with heap := w.heap.push (.cells (encs xs).toArray el) } := by
      simp [execOp]; simp at hb'; simp [hb']
    rw [hr, Oper.upon_value]
    have hlen : (encs xs).length = k * sz α := by rw [encs_len, hk]
    refine kk ⟨some ⟨w.heap.size, 0, none⟩, k, k⟩ rfl _ _ (h.put hn _) (hw.new _ rfl fun g hgb => ?_)
    exact ⟨hlen, h47, .inr ⟨_, 0, [], [], rfl, by simpa using hgb, rfl, Nat.le_refl _, by simp [hlen]⟩⟩
end
end Go.Proofs.Ytnkfphbggemlbaa
