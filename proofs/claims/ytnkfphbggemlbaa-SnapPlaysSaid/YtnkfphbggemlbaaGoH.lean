/-
  Items in another order; calls of function values; cuts; slices of slices whose rows are owned.
-/
import Derived.Test.YtnkfphbggemlbaaGoG
namespace Go.Proofs.Ytnkfphbggemlbaa
open Go.RowKit Enc

theorem front_perm {L : List Item} {i : Nat} {it : Item} (hL : L[i]? = some it) : L.Perm (it :: L.eraseIdx i) := by
  have hi := (List.getElem?_eq_some_iff.1 hL).1
  have hx : L[i] = it := (List.getElem?_eq_some_iff.1 hL).2
  have e : L = L.take i ++ it :: L.drop (i + 1) := by rw [← hx, ← List.drop_eq_getElem_cons hi, List.take_append_drop]
  rw [List.eraseIdx_eq_take_drop_succ]
  exact (List.Perm.of_eq e).trans List.perm_middle

section
variable {P : Program} {n : Nat} {w0 : World} {ops : Array Oper} {Q : Exit → Act → World → Prop} {K : Act → Prop} {l : List Oper} {e : List (Nat × Value)} {F F0 : Frz} {L L' : List Item} {v : Value} {dst : Option Nat} {d : Nat} {ty : TypeId} {pos : String} {aft : Array Edge} {gd : Option (Nat × Bool)}
  {post : Frz → List Item → Value → Prop} {fn : Func}

/-! order -/
theorem Lst.front {i : Nat} {it : Item} (hL : L[i]? = some it) (hL' : it :: L.eraseIdx i = L') (h : Lst P n w0 ops Q l e F L') : Lst P n w0 ops Q l e F L := by subst hL'; exact Lst.perm (front_perm hL) h
theorem At.front {x : Exit} {i : Nat} {it : Item} (hL : L[i]? = some it) (hL' : it :: L.eraseIdx i = L') (h : At n w0 Q x e F L') : At n w0 Q x e F L := by subst hL'; exact At.perm (front_perm hL) h
theorem Cd.front {c : Code} {i : Nat} {it : Item} (hL : L[i]? = some it) (hL' : it :: L.eraseIdx i = L') (h : Cd P n w0 Q c e F L') : Cd P n w0 Q c e F L := by
  subst hL'; exact fun a w ha hw => h a w ha (hw.perm (front_perm hL))
theorem Qt.cond {F' : Frz} (hw : ∀ w, St w0 F L w ↔ St w0 F' L' w) (h : Qt P n w0 ops K l e F' L') : Qt P n w0 ops K l e F L := by
  intro a ha
  have : St w0 F L = St w0 F' L' := funext fun w => propext (hw w)
  rw [this]; exact h a ha
theorem Qt.as {e' : List (Nat × Value)} (he : sub e e') (h : Qt P n w0 ops K l e' F L) : Qt P n w0 ops K l e F L := fun a ha => h a (ha.sub he)
theorem Lst.bound {α : Prop} (hb : ∀ w, St w0 F L w → α) (h : α → Lst P n w0 ops Q l e F L) : Lst P n w0 ops Q l e F L := fun a w ha hw => h (hb w hw) a w ha hw
theorem At.bound {α : Prop} {x : Exit} (hb : ∀ w, St w0 F L w → α) (h : α → At n w0 Q x e F L) : At n w0 Q x e F L := fun a w ha hw => h (hb w hw) a w ha hw

/-! function values -/
theorem run_callV {f : FuncId} {x : Operand} {xs : List Operand} {vs cs : List Value} {ats : Array TypeId} {a : Act} {w : World} (ha : EnvOk n a e) (hf : ev e x = some (.func (.func f) #[] cs.toArray)) (hx : evs e xs vs) (hcall : ∀ (args : Array Value) (w : World), (callFunc f args).run P w = .ok (.enter f args) w) :
    (execOp a.eval ⟨dst, .call ⟨.value x, xs.toArray, ats⟩, ty, pos, aft, gd⟩).run P w = .ok (.enter f (vs ++ cs).toArray) w := by
  have hm := ha.evals hx
  have hm' : (List.map a.eval xs).toArray = vs.toArray := by rw [hm]
  simp [execOp, resolve, Deferred.ofValue, ha.eval hf, invoke, hcall]
  rw [hm]
theorem Lst.callV {f : FuncId} {x : Operand} {xs : List Operand} {vs cs : List Value} {ats : Array TypeId} (hg : gd = none) (hdst : dst = some d) (hn : d < n) (hf : ev e x = some (.func (.func f) #[] cs.toArray)) (hx : evs e xs vs) (hcall : ∀ (args : Array Value) (w : World), (callFunc f args).run P w = .ok (.enter f args) w) (hO : Ok P w0 f (vs ++ cs) F L post)
    (k : ∀ F' L' v, FLe F F' → post F' L' v → Lst P n w0 ops Q l ((d, v) :: e) F' L') : Lst P n w0 ops Q (⟨dst, .call ⟨.value x, xs.toArray, ats⟩, ty, pos, aft, gd⟩ :: l) e F L :=
  Lst.wp_plain hg fun a w h hw => by
    subst hdst
    unfold Oper.wp
    rw [run_callV h hf hx hcall, Oper.upon_enter]
    refine (hO w hw).mono ?_
    rintro _ w' ⟨F', L', v, rfl, hF, hw', hp⟩
    exact k F' L' v hF hp _ _ (h.put hn v) hw'
theorem Lst.callV1 {f : FuncId} {x : Operand} {xs : List Operand} {vs cs : List Value} {ats : Array TypeId} (hg : gd = none) (hdst : dst = some d) (hn : d < n) (hf : ev e x = some (.func (.func f) #[] cs.toArray)) (hx : evs e xs vs) (hcall : ∀ (args : Array Value) (w : World), (callFunc f args).run P w = .ok (.enter f args) w) (hO : Ok P w0 f (vs ++ cs) F L (Is v L))
    (k : Lst P n w0 ops Q l ((d, v) :: e) F L) : Lst P n w0 ops Q (⟨dst, .call ⟨.value x, xs.toArray, ats⟩, ty, pos, aft, gd⟩ :: l) e F L :=
  Lst.callV hg hdst hn hf hx hcall hO fun _ _ _ hF ⟨h1, h2⟩ => by subst h1 h2; exact fun a w ha hw => k a w ha (hw.weaken hF)
theorem Qt.callV {f : FuncId} {x : Operand} {xs : List Operand} {vs cs : List Value} {ats : Array TypeId} (hg : gd = none) (hdst : dst = some d) (hn : d < n) (hf : ev e x = some (.func (.func f) #[] cs.toArray)) (hx : evs e xs vs) (hcall : ∀ (args : Array Value) (w : World), (callFunc f args).run P w = .ok (.enter f args) w) (hO : Ok P w0 f (vs ++ cs) F L (Is v L))
    (k : Qt P n w0 ops K l ((d, v) :: e) F L) : Qt P n w0 ops K (⟨dst, .call ⟨.value x, xs.toArray, ats⟩, ty, pos, aft, gd⟩ :: l) e F L := by
  intro a ha
  unfold wpQuiet
  rw [if_pos (by simp [Region.wanted, hg])]
  subst hdst
  refine ⟨v, fun w hw => ?_, k _ (ha.put hn v)⟩
  unfold Oper.quietAt
  rw [run_callV ha hf hx hcall]
  refine ⟨rfl, (hO w hw).mono ?_⟩
  rintro _ w' ⟨F', L', v, rfl, hF, hw', rfl, rfl⟩
  exact ⟨rfl, hw'.weaken hF⟩
/-! cuts -/
/-- The bounds of a cut, as operands say them. -/
def lo? (e : List (Nat × Value)) : Option Operand → Int → Prop
  | none, i => i = 0
  | some x, i => ev e x = some (.int .i64 i)
def hi? (e : List (Nat × Value)) (n : Nat) : Option Operand → Int → Prop
  | none, i => i = n
  | some x, i => ev e x = some (.int .i64 i)
theorem run_sliceBound {i : Int} {m : Nat} {c : BoundsCode} {w : World} (h0 : 0 ≤ i) (h1 : i ≤ m) : (Instr.sliceBound (.int .i64 i) m c).run P w = .ok i.toNat w := by
  simp [Instr.sliceBound, asIntOf, h0, h1]
theorem run_sliceBounds {a : Act} {x y : Option Operand} {b : Bool} {len cap : Nat} {i j : Int} {w : World} (h : EnvOk n a e) (hx : lo? e x i) (hy : hi? e len y j) (h0 : 0 ≤ i) (h1 : i ≤ j) (h2 : j ≤ len) (h3 : len ≤ cap) :
    (Instr.sliceBounds b len cap (x.map a.eval) (y.map a.eval) none).run P w = .ok (i.toNat, j.toNat, cap) w := by
  have hj : (i.toNat : Int) ≤ j := by omega
  cases x with
  | none =>
    obtain rfl : i = 0 := hx
    cases y with
    | none => obtain rfl : j = len := hy; simp [Instr.sliceBounds]
    | some y =>
      have hy' : ev e y = some (.int .i64 j) := hy
      simp [Instr.sliceBounds, h.eval hy', run_sliceBound (P := P) (w := w) (i := j) (m := cap) (by omega) (by omega)]
  | some x =>
    have hx' : ev e x = some (.int .i64 i) := hx
    cases y with
    | none => obtain rfl : j = len := hy; simp [Instr.sliceBounds, h.eval hx', run_sliceBound (P := P) (w := w) (i := i) (m := len) (by omega) (by omega)]
    | some y =>
      have hy' : ev e y = some (.int .i64 j) := hy
      simp [Instr.sliceBounds, h.eval hx', h.eval hy', run_sliceBound (P := P) (w := w) (i := j) (m := cap) (by omega) (by omega), run_sliceBound (P := P) (w := w) (i := i) (m := j.toNat) (by omega) (by omega)]
theorem Ev.cut {α : Type} [Enc α] {x : Operand} {a b : Option Operand} {t el : TypeId} {s : Sl} {xs : List α} {i j : Int} {m : Nat} (hx : ev e x = some s.v) (ha : lo? e a i) (hb : hi? e xs.length b j) (hu : ∀ w, (underlying t).run P w = .ok (.slice el) w) (hs : ∀ w, (sizeOf el).run P w = .ok m w) (hm : m = sz α) (hp : 0 < sz α)
    (hr : Rd w0 F L s xs) (h0 : 0 ≤ i) (h1 : i ≤ j) (h2 : j ≤ xs.length) : Ev P n w0 e F L ⟨dst, .slice t x a b none, ty, pos, aft, gd⟩ (Sl.v (s.cut i.toNat j.toNat m)) := fun ac w h hw => by
  subst hm
  obtain ⟨_, _, hl⟩ := hr w hw
  have hlen := hl.len hp
  have hcap : s.len ≤ s.cap := by
    rcases hl.2.2 with ⟨h1, h2⟩ | ⟨_, _, _, _, _, _, _, h4, _⟩ <;> omega
  have hbd := run_sliceBounds (P := P) (b := true) (len := s.len) (cap := s.cap) (w := w) h ha (by rw [hlen]; exact hb) h0 h1 (by omega) hcap
  simp [execOp, Instr.sliceAt, h.eval hx, hu, Sl.v, Instr.slice, hbd, hs, Sl.cut]
theorem St.cutOwn {w : World} {i : Nat} {v : Sl} {t : TypeId} {m lo hi : Nat} {xs : List Value} (hw : St w0 F L w) (hL : L[i]? = some (.own v t m xs)) (h1 : lo ≤ hi) (h2 : hi ≤ v.len) : St w0 F (L.set i (.own (v.cut lo hi m) t m ((xs.drop (lo * m)).take ((hi - lo) * m)))) w := by
  have hl : lies (World.hp w) v t m xs := hw.get hL
  have hc := hl.cut h1 h2
  have hf : (v.cut lo hi m).foot = v.foot := by
    unfold Sl.cut Sl.foot
    split
    · rfl
    · cases v.a with
      | none => rfl
      | some a => simp only [Option.map_some, Option.toList_some]; congr 1; unfold Addr.add; split <;> rfl
  have hfeet : feet (L.set i (.own (v.cut lo hi m) t m ((xs.drop (lo * m)).take ((hi - lo) * m)))) = feet L := by
    rw [set_at hL]
    conv => rhs; rw [split_at hL]
    rw [feet_append, feet_cons, feet_append, feet_cons]
    simp only [Item.foot, hf]
  refine ⟨hw.below, hw.frz, fun b hb => hw.apart b (by rwa [hfeet] at hb), fun it hit => ?_, by rw [hfeet]; exact hw.nodup⟩
  rcases List.mem_or_eq_of_mem_set hit with hit | rfl
  · exact hw.holds it hit
  · exact hc
/-- An owned slice is cut: what is cut away is given up. -/
theorem Lst.cutOwn {α : Type} [Enc α] {i : Nat} {s : Sl} {t : TypeId} {m lo hi : Nat} {cs : List Value} {xs : List α} (hL : L[i]? = some (.own s t m cs)) (hcs : cs = encs xs) (hm : m = sz α) (hp : 0 < sz α) (h1 : lo ≤ hi) (h2 : hi ≤ xs.length)
    (hL' : L.set i (.own (s.cut lo hi m) t m (encs ((xs.drop lo).take (hi - lo)))) = L') (h : Lst P n w0 ops Q l e F L') : Lst P n w0 ops Q l e F L := by
  subst hL' hcs hm
  intro a w ha hw
  have hl : lies (World.hp w) s t (sz α) (encs xs) := hw.get hL
  have hlen := hl.len hp
  refine h a w ha ?_
  have := hw.cutOwn hL h1 (by omega)
  rwa [← encs_drop, ← encs_take] at this

/-! rows that are owned -/
/-- The rows of a slice of slices, owned: u the element's type. -/
def Item.rows {α : Type} [Enc α] (u : TypeId) (rs : List (LR α)) : Item := .gen (rs.flatMap (·.h.foot)) (fun h => ∀ x ∈ rs, lies h x.h u (sz α) (encs x.v))
def Item.row {α : Type} [Enc α] (u : TypeId) (x : LR α) : Item := .own x.h u (sz α) (encs x.v)
theorem rows_holds {α : Type} [Enc α] {h : Nat → Option Obj} {u : TypeId} {rs : List (LR α)} : (Item.rows u rs).holds h ↔ ∀ x ∈ rs, lies h x.h u (sz α) (encs x.v) := by
  constructor
  · intro H x hx
    refine lies_congr (fun b hb => ?_) (H x hx)
    have : b ∈ rs.flatMap (·.h.foot) := List.mem_flatMap.2 ⟨x, hx, hb⟩
    simp [this]
  · intro H x hx
    refine lies_congr (fun b hb => ?_) (H x hx)
    have : b ∈ rs.flatMap (·.h.foot) := List.mem_flatMap.2 ⟨x, hx, hb⟩
    simp [this]
theorem rows_feet {α : Type} [Enc α] (u : TypeId) (rs : List (LR α)) (M : List Item) : feet (rs.map (Item.row u) ++ M) = feet (.rows u rs :: M) := by
  rw [feet_append, feet_cons]
  congr 1
  induction rs with
  | nil => rfl
  | cons r rs ih => rw [List.map_cons, feet_cons, ih]; simp [Item.row, Item.foot, Item.rows]
theorem St.rows {α : Type} [Enc α] {u : TypeId} {rs : List (LR α)} {M : List Item} {w : World} : St w0 F (.rows u rs :: M) w ↔ St w0 F (rs.map (Item.row u) ++ M) w := by
  have hf := rows_feet u rs M
  constructor
  · intro h
    refine ⟨h.below, h.frz, fun b hb => h.apart b (by rwa [hf] at hb), fun it hit => ?_, by rw [hf]; exact h.nodup⟩
    rcases List.mem_append.1 hit with hit | hit
    · obtain ⟨x, hx, rfl⟩ := List.mem_map.1 hit
      exact rows_holds.1 (h.holds _ (List.mem_cons_self ..)) x hx
    · exact h.holds it (List.mem_cons_of_mem _ hit)
  · intro h
    refine ⟨h.below, h.frz, fun b hb => h.apart b (by rwa [← hf] at hb), fun it hit => ?_, by rw [← hf]; exact h.nodup⟩
    rcases List.mem_cons.1 hit with rfl | hit
    · exact rows_holds.2 fun x hx => h.holds (Item.row u x) (List.mem_append_left _ (List.mem_map.2 ⟨x, hx, rfl⟩))
    · exact h.holds it (List.mem_append_right _ hit)
theorem Rd.row {α : Type} [Enc α] {j k : Nat} {u : TypeId} {rs : List (LR α)} {r : LR α} (hL : L[j]? = some (.rows u rs)) (hr : rs[k]? = some r) : Rd w0 F L r.h r.v := fun _ hw => ⟨u, _, rows_holds.1 (hw.get hL) r (List.mem_of_getElem? hr)⟩
theorem All.frozen {α : Type} [Enc α] {F' : Frz} {u : TypeId} {rs : List (LR α)} (h : ∀ w, St w0 F' [] w → (Item.rows u rs).holds (World.hp w)) : All LR.rel w0 F' [] rs := fun x hx w hw => ⟨u, _, rows_holds.1 (h w hw) x hx⟩
theorem St.rowSet {α : Type} [Enc α] {u : TypeId} {rs : List (LR α)} {k : Nat} {r : LR α} {M : List Item} {w : World} (h : St w0 F (.rows u rs :: M) w) (hr : rs[k]? = some r) : St w0 F (.row u r :: .rows u (rs.set k ⟨[], Sl.nil⟩) :: M) w := by
  have hk := (List.getElem?_eq_some_iff.1 hr).1
  have hx := (List.getElem?_eq_some_iff.1 hr).2
  have h1 := St.rows.1 h
  have h2 := (h1.addNil u (sz α))
  have hN : (Item.own Sl.nil u (sz α) []) = Item.row u (⟨[], Sl.nil⟩ : LR α) := rfl
  rw [hN] at h2
  have e1 : rs = rs.take k ++ r :: rs.drop (k + 1) := by rw [← hx, ← List.drop_eq_getElem_cons hk, List.take_append_drop]
  have e2 : rs.set k ⟨[], Sl.nil⟩ = rs.take k ++ ⟨[], Sl.nil⟩ :: rs.drop (k + 1) := by rw [List.set_eq_take_append_cons_drop, if_pos hk]
  have hp : (Item.row u (⟨[], Sl.nil⟩ : LR α) :: (rs.map (Item.row u) ++ M)).Perm (Item.row u r :: ((rs.set k ⟨[], Sl.nil⟩).map (Item.row u) ++ M)) := by
    rw [e2]
    conv => lhs; rw [e1]
    simp only [List.map_append, List.map_cons, List.append_assoc, List.cons_append]
    refine (List.Perm.cons _ List.perm_middle).trans ?_
    refine (List.Perm.swap _ _ _).trans (List.Perm.cons _ ?_)
    exact List.perm_middle.symm
  have h3 := h2.perm hp
  have h4 : St w0 F ((rs.set k ⟨[], Sl.nil⟩).map (Item.row u) ++ (Item.row u r :: M)) w := h3.perm List.perm_middle.symm
  exact (St.rows.2 h4).perm (List.Perm.swap _ _ _)
theorem St.rowPut {α : Type} [Enc α] {u : TypeId} {rs : List (LR α)} {k : Nat} {r0 r : LR α} {M : List Item} {w : World} (h : St w0 F (.row u r :: .rows u rs :: M) w) (hr : rs[k]? = some r0) : St w0 F (.rows u (rs.set k r) :: M) w := by
  have hk := (List.getElem?_eq_some_iff.1 hr).1
  have hx := (List.getElem?_eq_some_iff.1 hr).2
  have h1 : St w0 F (.rows u rs :: .row u r :: M) w := h.perm (List.Perm.swap _ _ _)
  have h2 := St.rows.1 h1
  have e1 : rs = rs.take k ++ r0 :: rs.drop (k + 1) := by rw [← hx, ← List.drop_eq_getElem_cons hk, List.take_append_drop]
  have e2 : rs.set k r = rs.take k ++ r :: rs.drop (k + 1) := by rw [List.set_eq_take_append_cons_drop, if_pos hk]
  have hp : (rs.map (Item.row u) ++ Item.row u r :: M).Perm (Item.row u r0 :: ((rs.set k r).map (Item.row u) ++ M)) := by
    rw [e2]
    conv => lhs; rw [e1]
    simp only [List.map_append, List.map_cons, List.append_assoc, List.cons_append]
    refine List.perm_middle.trans (List.Perm.cons _ ?_)
    refine List.Perm.append_left _ ?_
    exact List.perm_middle
  exact St.rows.2 ((h2.perm hp).sublist (List.sublist_cons_self _ _))
theorem St.rowPush {α : Type} [Enc α] {u : TypeId} {rs : List (LR α)} {r : LR α} {M : List Item} {w : World} (h : St w0 F (.row u r :: .rows u rs :: M) w) : St w0 F (.rows u (rs ++ [r]) :: M) w := by
  have h1 : St w0 F (.rows u rs :: .row u r :: M) w := h.perm (List.Perm.swap _ _ _)
  have h2 := St.rows.1 h1
  refine St.rows.2 ?_
  simpa using h2
theorem St.rowsNil {α : Type} [Enc α] {u : TypeId} {k : Nat} {M : List Item} {w : World} (h : St w0 F M w) : St w0 F (.rows u (List.replicate k (⟨[], Sl.nil⟩ : LR α)) :: M) w := by
  refine St.rows.2 ?_
  induction k with
  | zero => simpa using h
  | succ k ih => rw [List.replicate_succ, List.map_cons, List.cons_append]; exact ih.addNil u (sz α)
theorem Lst.rowsNil (α : Type) [Enc α] (u : TypeId) (k : Nat) (h : Lst P n w0 ops Q l e F (.rows u (List.replicate k (⟨[], Sl.nil⟩ : LR α)) :: L)) : Lst P n w0 ops Q l e F L := fun a w ha hw => h a w ha hw.rowsNil
/-- A store into a row. -/
theorem Lst.storeR {α : Type} [Enc α] {x y : Operand} {t u : TypeId} {k off m : Nat} {rs : List (LR α)} {r : LR α} {xs' : List α} {vs : List Value} {M : List Item} (hg : gd = none) (hdst : dst = none) (hx : ev e x = some (r.h.at off)) (hy : ev e y = some v) (hr : rs[k]? = some r)
    (hs : ∀ w, (sizeOf t).run P w = .ok m w) (hv : v.cells.toList = vs) (hl : vs.length = m) (h0 : 0 < m) (h1 : vs.all one1 = true) (hp : Put (encs r.v) off vs (encs xs'))
    (kk : Lst P n w0 ops Q l e F (.rows u (rs.set k ⟨xs', r.h⟩) :: M)) : Lst P n w0 ops Q (⟨dst, .store t x y, ty, pos, aft, gd⟩ :: l) e F (.rows u rs :: M) := by
  refine fun a w ha hw => (?_ : Lst P n w0 ops Q (⟨dst, .store t x y, ty, pos, aft, gd⟩ :: l) e F (.row u r :: .rows u (rs.set k ⟨[], Sl.nil⟩) :: M)) a w ha (hw.rowSet hr)
  refine Lst.storeS (i := 0) hg hdst hx hy rfl hs hv hl h0 h1 hp rfl ?_
  intro a w ha hw
  refine kk a w ha ?_
  have hk : (rs.set k (⟨[], Sl.nil⟩ : LR α))[k]? = some ⟨[], Sl.nil⟩ := by
    rw [List.getElem?_set_self (List.getElem?_eq_some_iff.1 hr).1]
  have := St.rowPut (r := ⟨xs', r.h⟩) hw hk
  rwa [List.set_set] at this
/-- The cells of handles do not tell what the rows hold. -/
theorem encs_rowv {α : Type} [Enc α] {rs : List (LR α)} {k : Nat} {r : LR α} {xs : List α} (hr : rs[k]? = some r) : encs (rs.set k ⟨xs, r.h⟩) = encs rs := by
  rw [set_split hr, (encs_split hr).1]; rfl
theorem Cd.its {c : Code} (hL : L = L') (h : Cd P n w0 Q c e F L') : Cd P n w0 Q c e F L := by subst hL; exact h
theorem At.its {x : Exit} (hL : L = L') (h : At n w0 Q x e F L') : At n w0 Q x e F L := by subst hL; exact h
theorem Cd.less {c : Code} (hs : L'.Sublist L) (h : Cd P n w0 Q c e F L') : Cd P n w0 Q c e F L := fun a w ha hw => h a w ha (hw.sublist hs)
theorem Lst.less (hs : L'.Sublist L) (h : Lst P n w0 ops Q l e F L') : Lst P n w0 ops Q l e F L := fun a w ha hw => h a w ha (hw.sublist hs)
theorem Ev.lenM {o : Oper} {a b : Nat} (h : a = b) (hv : Ev P n w0 e F L o (.int .i64 a)) : Ev P n w0 e F L o (.int .i64 b) := by subst h; exact hv
theorem map_app {ρ α : Type} {f : ρ → α} {rs rs' : List ρ} {xs ys : List α} (h1 : rs.map f = xs) (h2 : rs'.map f = ys) : (rs ++ rs').map f = xs ++ ys := by rw [List.map_append, h1, h2]
section
variable {ρ : Type} {rel : World → Frz → List Item → ρ → Prop}
theorem All.app {rs rs' : List ρ} (h1 : All rel w0 F L rs) (h2 : All rel w0 F L rs') : All rel w0 F L (rs ++ rs') := fun x hx => (List.mem_append.1 hx).elim (h1 x) (h2 x)
theorem All.cut {rs : List ρ} {i j : Nat} (h : All rel w0 F L rs) : All rel w0 F L ((rs.drop i).take j) := fun x hx => h x (List.mem_of_mem_drop (List.mem_of_mem_take hx))
theorem All.cons {r : ρ} {rs : List ρ} (h1 : rel w0 F L r) (h2 : All rel w0 F L rs) : All rel w0 F L (r :: rs) := fun x hx => by
  rcases List.mem_cons.1 hx with rfl | hx
  · exact h1
  · exact h2 x hx
theorem All.of1 {a : ρ} (ha : rel w0 F L a) : All rel w0 F L [a] := All.cons ha All.nil
end
end
end Go.Proofs.Ytnkfphbggemlbaa
