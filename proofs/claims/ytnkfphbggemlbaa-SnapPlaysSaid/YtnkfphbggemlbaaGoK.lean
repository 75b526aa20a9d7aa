/-
  More rules of slices: comparing with nil, the empty literal, copy, clear, what lies behind a slice's end.
-/
import Derived.Test.YtnkfphbggemlbaaGoH
namespace Go.Proofs.Ytnkfphbggemlbaa
open Go.RowKit Enc


section
variable {P : Program} {n : Nat} {w0 : World} {ops : Array Oper} {Q : Exit → Act → World → Prop} {K : Act → Prop} {l : List Oper} {e : List (Nat × Value)} {F F0 : Frz} {L L' : List Item} {v : Value} {dst : Option Nat} {d : Nat} {ty : TypeId} {pos : String} {aft : Array Edge} {gd : Option (Nat × Bool)}

theorem run_eqSliceNil {t el : TypeId} {a : Option Addr} {i j : Nat} {w : World} (hu : ∀ w, (underlying t).run P w = .ok (.slice el) w) : (Op.equal t (.slice a i j) (.slice none 0 0)).run P w = .ok a.isNone w := by
  have e : Op.equal t (.slice a i j) (.slice none 0 0) = Op.equalIn (9999 + 1) t (.slice a i j) (.slice none 0 0) := rfl
  rw [e]
  unfold Op.equalIn
  cases a <;> simp [hu]
theorem Ev.eqlNil {x : Operand} {t t2 el : TypeId} {s : Sl} (hx : ev e x = some s.v) (hu : ∀ w, (underlying t).run P w = .ok (.slice el) w) : Ev P n w0 e F L ⟨dst, .binOp .eql t x (.const (.slice none 0 0)) t2, ty, pos, aft, gd⟩ (.bool s.a.isNone) := fun a w ha _ => by
  have h := run_eqSliceNil (P := P) (w := w) (a := s.a) (i := s.len) (j := s.cap) hu
  have hc : a.eval (.const (.slice none 0 0)) = .slice none 0 0 := rfl
  simp [execOp, ha.eval hx, hc, eqGuard, binOp, Sl.v, h]
theorem Rd.isNil {α : Type} [Enc α] (h0 : 0 < sz α) {v : Sl} {xs : List α} (h : Rd w0 F L v xs) (hn : v.a.isNone = true) : ∀ w, St w0 F L w → xs = [] := fun w hw => by
  obtain ⟨_, _, h1⟩ := h w hw
  have hl := h1.len h0
  rcases h1.2.2 with ⟨g, _⟩ | ⟨b, off, pre, post, g, _⟩
  · exact List.length_eq_zero_iff.1 (by omega)
  · rw [g] at hn; cases hn
/-- An empty literal. -/
theorem Lst.buildSlice0 {t el m : TypeId} (hg : gd = none) (hdst : dst = some d) (hn : d < n) (hu : ∀ w, (underlying t).run P w = .ok (.slice el) w) (hs : ∀ w, (sizeOf el).run P w = .ok m w)
    (kk : ∀ s : Sl, Lst P n w0 ops Q l ((d, s.v) :: e) F (.own s el m [] :: L)) : Lst P n w0 ops Q (⟨dst, .buildSlice t 0 #[], ty, pos, aft, gd⟩ :: l) e F L :=
  Lst.wp_plain hg fun a w h hw => by
    subst hdst
    unfold Oper.wp
    have hr : (execOp a.eval ⟨some d, .buildSlice t 0 #[], ty, pos, aft, gd⟩).run P w = .ok (.value (.slice (some ⟨w.heap.size, 0, none⟩) 0 0)) { w with heap := w.heap.push (.cells #[] el) } := by
      simp [execOp, Instr.buildSlice, hu, hs, Instr.fill, newRow]
      rw [show (Array.map (fun _ => default) (Array.range 0) : Array Value) = #[] from by simp]
    rw [hr, Oper.upon_value]
    exact kk ⟨some ⟨w.heap.size, 0, none⟩, 0, 0⟩ _ _ (h.put hn _) (hw.new _ rfl fun g hgb => ⟨by simp, by simp, .inl ⟨rfl, rfl⟩⟩)

/-- What a slice that is cut out of an owned one reaches. -/
theorem cut_at {s : Sl} {lo hi m b off : Nat} (ha : s.a = some ⟨b, off, none⟩) : (s.cut lo hi m).a = some ⟨b, off, none⟩ ∧ s.cap = lo ∨ (s.cut lo hi m).a = some ⟨b, off + lo * m, none⟩ := by
  unfold Sl.cut
  by_cases h : s.cap = lo
  · left; simp [h, ha]
  · right; simp [h, ha, add_none]
theorem run_firstN {fr : Nat × Nat} {w : World} {s : Sl} {t : TypeId} {m k : Nat} {xs : List Value} (h : liesF fr (World.hp w) s t m xs) (hk : k ≤ s.len) : (Builtin.firstCells m k s.v).run P w = .ok (xs.take (k * m)).toArray w := by
  have hc := h.cut (Nat.zero_le k) hk
  have := run_first (P := P) hc
  simp only [Nat.zero_mul, List.drop_zero, Nat.sub_zero] at this
  have e : (s.cut 0 k m).len = k := by simp [Sl.cut]
  rw [e] at this
  rw [← this]
  cases ha : s.a with
  | none => simp [Builtin.firstCells, Sl.v, Sl.cut, ha]
  | some a =>
    by_cases hcap : s.cap = 0
    · simp [Builtin.firstCells, Sl.v, Sl.cut, ha, hcap]
    · have : Addr.add a 0 = a := by unfold Addr.add; simp
      simp [Builtin.firstCells, Sl.v, Sl.cut, ha, hcap, this]
/-- `copy` into an owned slice. -/
theorem Lst.copy {α : Type} [Enc α] {x y : Operand} {t t2 el : TypeId} {i m lo hi : Nat} {s s2 : Sl} {xs ys : List α} {cs : List Value} (hg : gd = none) (hdst : dst = some d) (hn : d < n) (hx : ev e x = some (s.cut lo hi m).v) (hy : ev e y = some s2.v) (hu : ∀ w, (underlying t).run P w = .ok (.slice el) w)
    (hs : ∀ w, (sizeOf el).run P w = .ok m w) (hm : m = sz α) (hp : 0 < sz α) (hL : L[i]? = some (.own s el m cs)) (hcs : cs = encs xs) (h2 : Rd w0 F L s2 ys) (h0 : lo ≤ hi) (h1 : hi ≤ xs.length)
    (k : Lst P n w0 ops Q l ((d, .int .i64 ((min (hi - lo) ys.length : Nat) : Int)) :: e) F (L.set i (.own s el m (encs (copyL xs lo hi ys))))) : Lst P n w0 ops Q (⟨dst, .call ⟨.builtin .copy, #[x, y], #[t, t2]⟩, ty, pos, aft, gd⟩ :: l) e F L :=
  Lst.wp_plain hg fun a w h hw => by
    subst hdst hcs hm
    have hl : lies (World.hp w) s el (sz α) (encs xs) := hw.get hL
    have hlen := hl.len hp
    obtain ⟨el2, fr2, h3⟩ := h2 w hw
    have hlen2 := h3.len hp
    have hq : min s2.len (hi - lo) = min (hi - lo) ys.length := by rw [hlen2, Nat.min_comm]
    have hrd := run_firstN (P := P) h3 (k := min (hi - lo) ys.length) (by omega)
    rw [← encs_take] at hrd
    have htk : ys.take (hi - lo) = ys.take (min (hi - lo) ys.length) := by
      by_cases hc : hi - lo ≤ ys.length
      · rw [Nat.min_eq_left hc]
      · rw [Nat.min_eq_right (by omega), List.take_of_length_le (by omega), List.take_of_length_le (by omega)]
    have hzs : (ys.take (hi - lo)).length = min (hi - lo) ys.length := by simp
    unfold Oper.wp
    by_cases he : min (hi - lo) ys.length = 0
    · -- nothing is copied
      have hsame : copyL xs lo hi ys = xs := by
        unfold copyL
        rw [htk, he]; simp
      rw [hsame, set_at hL, ← split_at hL, he] at k
      rw [he] at hrd
      have hrun : (execOp a.eval ⟨some d, .call ⟨.builtin .copy, #[x, y], #[t, t2]⟩, ty, pos, aft, gd⟩).run P w = .ok (.value (.int .i64 0)) w := by
        simp [execOp, resolve, invoke, builtin, Builtin.copy_, h.eval hx, h.eval hy, hu, hs, Sl.v, Builtin.lenOf, Sl.cut, hq, he, goInt]
        simp [Sl.v] at hrd
        rw [hrd]
        cases hsa : s.a <;> simp [encs_nil, storeCells]
        split <;> simp
      rw [hrun, Oper.upon_value]
      exact k _ _ (h.put hn _) hw
    · rcases hl.2.2 with ⟨g2, _⟩ | ⟨b, off, pre, post, hb, hh, ho, hcap, hcs⟩
      · omega
      · have hca : (s.cut lo hi (sz α)).a = some ⟨b, off + lo * sz α, none⟩ := by
          rcases cut_at (s := s) (lo := lo) (hi := hi) (m := sz α) hb with ⟨_, h9⟩ | h9
          · omega
          · exact h9
        have e1 : encs xs = encs (xs.take lo) ++ (encs ((xs.drop lo).take (min (hi - lo) ys.length)) ++ encs (xs.drop (lo + min (hi - lo) ys.length))) := by
          rw [← encs_append, ← encs_append]
          congr 1
          rw [← List.drop_drop, List.take_append_drop, List.take_append_drop]
        have e2 : encs (copyL xs lo hi ys) = encs (xs.take lo) ++ (encs (ys.take (hi - lo)) ++ encs (xs.drop (lo + min (hi - lo) ys.length))) := by
          unfold copyL; rw [encs_append, encs_append]
        have hput0 : Put (encs xs) (lo * sz α) (encs (ys.take (hi - lo))) (encs (copyL xs lo hi ys)) := by
          refine ⟨encs (xs.take lo), encs ((xs.drop lo).take (min (hi - lo) ys.length)), encs (xs.drop (lo + min (hi - lo) ys.length)), e1, ?_, ?_, e2⟩
          · rw [encs_len, List.length_take, Nat.min_eq_left (by omega)]
          · rw [encs_len, encs_len, hzs, List.length_take, List.length_drop, Nat.min_eq_left (by omega)]
        have hput : Put (pre ++ (encs xs ++ post)) (off + lo * sz α) (encs (ys.take (hi - lo))) (pre ++ (encs (copyL xs lo hi ys) ++ post)) := Put.right ho (Put.left hput0)
        have hst := run_storeCells_at (P := P) b (off + lo * sz α) el (encs (ys.take (hi - lo))) 0 (pre ++ (encs xs ++ post)).toArray w hh (by have := hput.le; simp at this ⊢; omega) (by intro u hu'; exact List.all_eq_true.1 (encs_one _) u hu')
        simp only [Nat.add_zero] at hst
        rw [hput.eq] at hst
        have hrun : (execOp a.eval ⟨some d, .call ⟨.builtin .copy, #[x, y], #[t, t2]⟩, ty, pos, aft, gd⟩).run P w = .ok (.value (.int .i64 ((min (hi - lo) ys.length : Nat) : Int))) (w.setRow b (pre ++ (encs (copyL xs lo hi ys) ++ post)).toArray) := by
          have hcl : (s.cut lo hi (sz α)).len = hi - lo := rfl
          rw [← htk] at hrd
          simp [Sl.v] at hrd hst
          simp [execOp, resolve, invoke, builtin, Builtin.copy_, h.eval hx, h.eval hy, hu, hs, Sl.v, Builtin.lenOf, hca, hcl, hq, goInt, hrd, hst]
        rw [hrun, Oper.upon_value]
        refine k _ _ (h.put hn _) (hw.setRow hL (by simp [Item.foot, Sl.foot, hb]) (by simp [Item.foot, Sl.foot, hb]) fun g hgb => ?_)
        have hcl : (encs (copyL xs lo hi ys)).length = (encs xs).length := hput0.len
        refine ⟨by rw [hcl]; exact hl.1, hl.2.1, .inr ⟨b, off, pre, post, hb, hgb _ _ _ hh, ho, hcap, ?_⟩⟩
        rw [List.length_append, hcl, ← List.length_append]; exact hcs
theorem cut_self (s : Sl) (m : Nat) : s.cut 0 s.len m = s := by
  unfold Sl.cut
  cases s with
  | mk a len cap =>
    cases a with
    | none => simp
    | some a => have : Addr.add a 0 = a := by unfold Addr.add; simp
                simp [this]
theorem Lst.copyAll {α : Type} [Enc α] {x y : Operand} {t t2 el : TypeId} {i m : Nat} {s s2 : Sl} {xs ys : List α} {cs : List Value} (hg : gd = none) (hdst : dst = some d) (hn : d < n) (hx : ev e x = some s.v) (hy : ev e y = some s2.v) (hu : ∀ w, (underlying t).run P w = .ok (.slice el) w)
    (hs : ∀ w, (sizeOf el).run P w = .ok m w) (hm : m = sz α) (hp : 0 < sz α) (hL : L[i]? = some (.own s el m cs)) (hcs : cs = encs xs) (h2 : Rd w0 F L s2 ys)
    (k : Lst P n w0 ops Q l ((d, .int .i64 (copyN 0 xs.length ys)) :: e) F (L.set i (.own s el m (encs (copyL xs 0 xs.length ys))))) : Lst P n w0 ops Q (⟨dst, .call ⟨.builtin .copy, #[x, y], #[t, t2]⟩, ty, pos, aft, gd⟩ :: l) e F L := fun a w h hw => by
  subst hm hcs
  have hl : lies (World.hp w) s el (sz α) (encs xs) := hw.get hL
  refine Lst.copy (lo := 0) (hi := xs.length) hg hdst hn ?_ hy hu hs rfl hp hL rfl h2 (by omega) (by omega) k a w h hw
  rw [← hl.len hp, cut_self]; exact hx
/-! what lies behind the end -/
theorem Lst.capOwn {α : Type} [Enc α] {i m : Nat} {s : Sl} {t : TypeId} {xs : List α} {cs : List Value} (hL : L[i]? = some (.own s t m cs)) (hcs : cs = encs xs) (hm : m = sz α) (hp : 0 < sz α) (h : s.len = xs.length → xs.length ≤ s.cap → Lst P n w0 ops Q l e F L) : Lst P n w0 ops Q l e F L := fun a w ha hw => by
  subst hcs hm
  have hl : lies (World.hp w) s t (sz α) (encs xs) := hw.get hL
  have hlen := hl.len hp
  have hc : s.len ≤ s.cap := by
    rcases hl.2.2 with ⟨h1, h2⟩ | ⟨_, _, _, _, _, _, _, h4, _⟩ <;> omega
  exact h hlen (by omega) a w ha hw
theorem Ev.cut3 {x a b c : Operand} {t el : TypeId} {s : Sl} {i j k : Int} {m : Nat} (hx : ev e x = some s.v) (ha : ev e a = some (.int .i64 i)) (hb : ev e b = some (.int .i64 j)) (hc : ev e c = some (.int .i64 k)) (hu : ∀ w, (underlying t).run P w = .ok (.slice el) w) (hs : ∀ w, (sizeOf el).run P w = .ok m w)
    (h0 : 0 ≤ i) (h1 : i ≤ j) (h2 : j ≤ k) (h3 : k ≤ s.cap) : Ev P n w0 e F L ⟨dst, .slice t x (some a) (some b) (some c), ty, pos, aft, gd⟩ (.slice (if k.toNat = i.toNat then s.a else s.a.map (·.add (i.toNat * m))) (j.toNat - i.toNat) (k.toNat - i.toNat)) := fun ac w h hw => by
  simp [execOp, Instr.sliceAt, h.eval hx, h.eval ha, h.eval hb, h.eval hc, hu, Sl.v, Instr.slice, Instr.sliceBounds, run_sliceBound (P := P) (w := w) (i := k) (m := s.cap) (by omega) h3, run_sliceBound (P := P) (w := w) (i := j) (m := k.toNat) (by omega) (by omega), run_sliceBound (P := P) (w := w) (i := i) (m := j.toNat) h0 (by omega), hs]
/-- A cut that may reach behind the end. -/
theorem Ev.cutBeyond {x a b : Operand} {t el : TypeId} {s : Sl} {i j : Int} {m : Nat} (hx : ev e x = some s.v) (ha : ev e a = some (.int .i64 i)) (hb : ev e b = some (.int .i64 j)) (hu : ∀ w, (underlying t).run P w = .ok (.slice el) w) (hs : ∀ w, (sizeOf el).run P w = .ok m w)
    (h0 : 0 ≤ i) (h1 : i ≤ j) (h3 : j ≤ s.cap) : Ev P n w0 e F L ⟨dst, .slice t x (some a) (some b) none, ty, pos, aft, gd⟩ (Sl.v (s.cut i.toNat j.toNat m)) := fun ac w h hw => by
  simp [execOp, Instr.sliceAt, h.eval hx, h.eval ha, h.eval hb, hu, Sl.v, Instr.slice, Instr.sliceBounds, run_sliceBound (P := P) (w := w) (i := j) (m := s.cap) (by omega) h3, run_sliceBound (P := P) (w := w) (i := i) (m := j.toNat) h0 (by omega), hs, Sl.cut]
/-- `append(s[:i], s[j:]...)`, s owned: what is behind moves to the front. -/
theorem Lst.shift {α : Type} [Enc α] {x y : Operand} {t el : TypeId} {k i j m : Nat} {inf : TypeInfo} {s : Sl} {xs : List α} {cs : List Value} (hg : gd = none) (hdst : dst = some d) (hn : d < n) (hx : ev e x = some (s.cut 0 i m).v) (hy : ev e y = some (s.cut j xs.length m).v) (hu : ∀ w, (underlying t).run P w = .ok (.slice el) w)
    (hi : ∀ w, (typeInfo el).run P w = .ok inf w) (hsz : inf.size = m) (hmm : m = sz α) (hp : 0 < sz α) (hL : L[k]? = some (.own s el m cs)) (hcs : cs = encs xs) (h1 : i ≤ j) (h2 : j ≤ xs.length)
    (kk : Lst P n w0 ops Q l ((d, Sl.v ⟨s.a, i + (xs.length - j), s.cap⟩) :: e) F (L.set k (.own ⟨s.a, i + (xs.length - j), s.cap⟩ el m (encs (xs.take i ++ xs.drop j))))) : Lst P n w0 ops Q (⟨dst, .call ⟨.builtin .append, #[x, y], #[t, t]⟩, ty, pos, aft, gd⟩ :: l) e F L :=
  Lst.wp_plain hg fun a w h hw => by
    subst hdst hcs hmm
    have hl : lies (World.hp w) s el (sz α) (encs xs) := hw.get hL
    have hlen := hl.len hp
    have hrd := run_first (P := P) (hl.cut h2 (by omega : xs.length ≤ s.len))
    have ecl : (s.cut j xs.length (sz α)).len = xs.length - j := rfl
    have eci : (s.cut 0 i (sz α)).len = i := by simp [Sl.cut]
    have ecc : (s.cut 0 i (sz α)).cap = s.cap := by simp [Sl.cut]
    have eca : (s.cut 0 i (sz α)).a = s.a := by
      cases hsa : s.a with
      | none => simp [Sl.cut, hsa]
      | some ad => have : Addr.add ad 0 = ad := by unfold Addr.add; simp
                   simp [Sl.cut, hsa, this]
    have hcap : s.len ≤ s.cap := by
      rcases hl.2.2 with ⟨h1, h2⟩ | ⟨_, _, _, _, _, _, _, h4, _⟩ <;> omega
    rw [ecl] at hrd
    have etk : ((encs xs).drop (j * sz α)).take ((xs.length - j) * sz α) = encs (xs.drop j) := by
      rw [← encs_drop, ← encs_take, List.take_of_length_le (by simp)]
    rw [etk] at hrd
    have hroom : i + (xs.length - j) ≤ s.cap := by omega
    have htl : (encs (xs.take i ++ xs.drop j)).length = (i + (xs.length - j)) * sz α := by
      rw [encs_len, List.length_append, List.length_take, List.length_drop, Nat.min_eq_left (by omega)]
    unfold Oper.wp
    rcases hl.2.2 with ⟨g2, g3⟩ | ⟨b, off, pre, post, hb, hh, ho, hcap', hcs⟩
    · -- nothing there
      have hx0 : xs = [] := List.length_eq_zero_iff.1 (by omega)
      subst hx0
      have hj0 : j = 0 := by simpa using h2
      have hi0 : i = 0 := by omega
      subst hj0 hi0
      have hrun : (execOp a.eval ⟨some d, .call ⟨.builtin .append, #[x, y], #[t, t]⟩, ty, pos, aft, gd⟩).run P w = .ok (.value (Sl.v ⟨s.a, 0 + (([] : List α).length - 0), s.cap⟩)) w := by
        have h00 : ∀ a : Option Addr, (Builtin.firstCells (sz α) 0 (.slice a 0 0)).run P w = .ok #[] w := fun a => by cases a <;> simp [Builtin.firstCells, loadCells, loadCellsFrom]
        simp [execOp, resolve, invoke, builtin, h.eval hx, h.eval hy, Builtin.append_, hu, sizeOf, hi, hsz, Builtin.lenOf, Sl.v, eca, eci, ecc, ecl, g3]
        cases s.a <;> simp [h00, storeCells]
      rw [hrun, Oper.upon_value]
      refine kk _ _ (h.put hn _) ?_
      have hq : L.set k (.own ⟨s.a, 0 + (([] : List α).length - 0), s.cap⟩ el (sz α) (encs (([] : List α).take 0 ++ ([] : List α).drop 0))) = L.set k (.own s el (sz α) (encs ([] : List α))) := by
        have hs0 : s = ⟨s.a, 0, s.cap⟩ := by cases s; simp_all
        conv => rhs; rw [hs0]
        simp
      rw [hq, set_at hL, ← split_at hL]; exact hw
    · have e1 : encs xs = encs (xs.take i) ++ (encs ((xs.drop i).take (xs.length - j)) ++ encs (xs.drop (i + (xs.length - j)))) := by
        rw [← encs_append, ← encs_append]
        congr 1
        rw [← List.drop_drop, List.take_append_drop, List.take_append_drop]
      have hput0 : Put (encs xs) (i * sz α) (encs (xs.drop j)) (encs (xs.take i ++ xs.drop j) ++ encs (xs.drop (i + (xs.length - j)))) := by
        refine ⟨encs (xs.take i), encs ((xs.drop i).take (xs.length - j)), encs (xs.drop (i + (xs.length - j))), e1, ?_, ?_, by rw [encs_append]; simp⟩
        · rw [encs_len, List.length_take, Nat.min_eq_left (by omega)]
        · rw [encs_len, encs_len, List.length_take, List.length_drop, List.length_drop, Nat.min_eq_left (by omega)]
      have hput : Put (pre ++ (encs xs ++ post)) (off + i * sz α) (encs (xs.drop j)) (pre ++ ((encs (xs.take i ++ xs.drop j) ++ encs (xs.drop (i + (xs.length - j)))) ++ post)) := Put.right ho (Put.left hput0)
      have hst := run_storeCells_at (P := P) b (off + i * sz α) el (encs (xs.drop j)) 0 (pre ++ (encs xs ++ post)).toArray w hh (by have := hput.le; simp at this ⊢; omega) (by intro u hu'; exact List.all_eq_true.1 (encs_one _) u hu')
      simp only [Nat.add_zero] at hst
      rw [hput.eq] at hst
      have hrun : (execOp a.eval ⟨some d, .call ⟨.builtin .append, #[x, y], #[t, t]⟩, ty, pos, aft, gd⟩).run P w = .ok (.value (Sl.v ⟨s.a, i + (xs.length - j), s.cap⟩)) (w.setRow b (pre ++ ((encs (xs.take i ++ xs.drop j) ++ encs (xs.drop (i + (xs.length - j)))) ++ post)).toArray) := by
        simp [Sl.v, ecl] at hrd
        simp at hst
        have hz0 : ((i : Int) + ((xs.length - j : Nat) : Int) = 0 → False) ∨ True := .inr trivial
        simp [execOp, resolve, invoke, builtin, h.eval hx, h.eval hy, Builtin.append_, hu, sizeOf, hi, hsz, Builtin.lenOf, Sl.v, eca, eci, ecc, ecl, hb, hroom, hrd, add_none, hst]
      rw [hrun, Oper.upon_value]
      refine kk _ _ (h.put hn _) (hw.setRow hL (by simp [Item.foot, Sl.foot, hb]) (by simp [Item.foot, Sl.foot, hb]) fun g hgb => ?_)
      refine ⟨htl, by have := hl.2.1; simp only; omega, .inr ⟨b, off, pre, encs (xs.drop (i + (xs.length - j))) ++ post, hb, by rw [hgb _ _ _ hh]; simp, ho, hroom, ?_⟩⟩
      have hle := hput0.len
      rw [List.length_append] at hle hcs ⊢
      rw [List.length_append]
      simp only
      omega
/-- `clear` of what lies behind the end. -/
theorem Lst.clearBehind {α : Type} [Enc α] {x : Operand} {t el : TypeId} {i j k m : Nat} {z : Value} {s : Sl} {xs : List α} {cs : List Value} (hg : gd = none) (hdst : dst = none) (hx : ev e x = some (s.cut i j m).v) (hu : ∀ w, (underlying t).run P w = .ok (.slice el) w)
    (hz : ∀ w, (zeroValue el).run P w = .ok z w) (z0 : α) (hzc : z.cells = (enc z0).toArray) (hmm : m = sz α) (hp : 0 < sz α) (hL : L[k]? = some (.own s el m cs)) (hcs : cs = encs xs) (h1 : xs.length ≤ i) (h2 : j ≤ s.cap)
    (kk : Lst P n w0 ops Q l e F L) : Lst P n w0 ops Q (⟨dst, .call ⟨.builtin .clear, #[x], #[t]⟩, ty, pos, aft, gd⟩ :: l) e F L :=
  Lst.wp_plain hg fun a w h hw => by
    subst hdst hcs hmm
    have hl : lies (World.hp w) s el (sz α) (encs xs) := hw.get hL
    have hlen := hl.len hp
    unfold Oper.wp
    by_cases hij : j - i = 0
    · have hrun : (execOp a.eval ⟨none, .call ⟨.builtin .clear, #[x], #[t]⟩, ty, pos, aft, gd⟩).run P w = .ok (.value (.tuple #[])) w := by
        have ec : (s.cut i j (sz α)).len = 0 := hij
        simp [execOp, resolve, invoke, builtin, h.eval hx, Builtin.clear_, hu, Sl.v, ec]
        cases (s.cut i j (sz α)).a <;> simp
      rw [hrun, Oper.upon_value]
      exact kk _ _ h hw
    · rcases hl.2.2 with ⟨g2, g3⟩ | ⟨b, off, pre, post, hb, hh, ho, hcap, hcs⟩
      · omega
      · have hca : (s.cut i j (sz α)).a = some ⟨b, off + i * sz α, none⟩ := by
          rcases cut_at (s := s) (lo := i) (hi := j) (m := sz α) hb with ⟨_, h9⟩ | h9
          · omega
          · exact h9
        have hzl : (encs (List.replicate (j - i) z0)).length = (j - i) * sz α := by rw [encs_len]; simp
        have hmul : j * sz α ≤ s.cap * sz α := Nat.mul_le_mul_right _ h2
        have hmul2 : (j - i) * sz α = j * sz α - i * sz α := Nat.sub_mul _ _ _
        have hmul3 : xs.length * sz α ≤ i * sz α := Nat.mul_le_mul_right _ h1
        have hmul4 : i * sz α ≤ j * sz α := Nat.mul_le_mul_right _ (by omega)
        have hxl : (encs xs).length = xs.length * sz α := encs_len xs
        rw [List.length_append] at hcs
        have hput : Put (pre ++ (encs xs ++ post)) (off + i * sz α) (encs (List.replicate (j - i) z0)) (pre ++ (encs xs ++ (post.take (i * sz α - xs.length * sz α) ++ (encs (List.replicate (j - i) z0) ++ post.drop (i * sz α - xs.length * sz α + (j - i) * sz α))))) := by
          refine ⟨pre ++ (encs xs ++ post.take (i * sz α - xs.length * sz α)), (post.drop (i * sz α - xs.length * sz α)).take ((j - i) * sz α), post.drop (i * sz α - xs.length * sz α + (j - i) * sz α), ?_, ?_, ?_, ?_⟩
          · simp only [List.append_assoc]
            congr 2
            rw [← List.drop_drop, List.take_append_drop, List.take_append_drop]
          · simp only [List.length_append, List.length_take, hxl]
            omega
          · rw [List.length_take, List.length_drop, hzl]
            omega
          · simp only [List.append_assoc]
        have hst := run_storeCells_at (P := P) b (off + i * sz α) el (encs (List.replicate (j - i) z0)) 0 (pre ++ (encs xs ++ post)).toArray w hh (by have := hput.le; simp at this ⊢; omega) (by intro u hu'; exact List.all_eq_true.1 (encs_one _) u hu')
        simp only [Nat.add_zero] at hst
        rw [hput.eq] at hst
        have hrep : (Builtin.zeroCells z.cells (j - i)).toList = encs (List.replicate (j - i) z0) := by
          have hzs : z.cells.size = sz α := by rw [hzc]; simp [Enc.len]
          have := rep_cells hp hzc (j - i)
          unfold Builtin.zeroCells
          rw [hzs] at this ⊢
          rw [this]
        have hrun : (execOp a.eval ⟨none, .call ⟨.builtin .clear, #[x], #[t]⟩, ty, pos, aft, gd⟩).run P w = .ok (.value (.tuple #[])) (w.setRow b (pre ++ (encs xs ++ (post.take (i * sz α - xs.length * sz α) ++ (encs (List.replicate (j - i) z0) ++ post.drop (i * sz α - xs.length * sz α + (j - i) * sz α))))).toArray) := by
          have hn0 : ∃ q, j - i = q + 1 := ⟨j - i - 1, by omega⟩
          obtain ⟨q, hq⟩ := hn0
          have ec : (s.cut i j (sz α)).len = q + 1 := hq
          rw [hq] at hrep hst ⊢
          try simp at hst
          simp [execOp, resolve, invoke, builtin, h.eval hx, Builtin.clear_, hu, Sl.v, ec, hca, hz, hrep, hst]
        rw [hrun, Oper.upon_value]
        refine kk _ _ h ?_
        have := hw.setRow (it' := .own s el (sz α) (encs xs)) hL (b := b) (cs := pre ++ (encs xs ++ (post.take (i * sz α - xs.length * sz α) ++ (encs (List.replicate (j - i) z0) ++ post.drop (i * sz α - xs.length * sz α + (j - i) * sz α))))) (by simp [Item.foot, Sl.foot, hb]) rfl fun g hgb => ?_
        · rwa [set_at hL, ← split_at hL] at this
        · refine ⟨hl.1, hl.2.1, .inr ⟨b, off, pre, _, hb, hgb _ _ _ hh, ho, hcap, ?_⟩⟩
          simp only [List.length_append, List.length_take, List.length_drop, hzl] at hcs ⊢
          omega
theorem clone_nil {α : Type} {l : List α} (h : l = []) : ((room ([] : List α) l).bind fun _ => some (([] : List α) ++ l)) = some [] := by subst h; simp [room]
theorem shift_len {α : Type} {xs : List α} {i j : Nat} (h1 : i ≤ j) (h2 : j ≤ xs.length) : (xs.take i ++ xs.drop j).length ≤ xs.length := by simp; omega
end
end Go.Proofs.Ytnkfphbggemlbaa
