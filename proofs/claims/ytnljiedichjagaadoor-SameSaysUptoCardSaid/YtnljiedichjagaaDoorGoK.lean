/-
  More rules of slices: comparing with nil, the empty literal, copy, clear, what lies behind a slice's end.
-/
import Derived.Test.YtnljiedichjagaaDoorGoH
namespace Go.Proofs.YtnljiedichjagaaDoor
open Go.RowKit Enc


section
variable {P : Program} {n : Nat} {w0 : World} {ops : Array Oper} {Q : Exit → Act → World → Prop} {K : Act → Prop} {l : List Oper} {e : List (Nat × Value)} {F F0 : Frz} {L L' : List Item} {v : Value} {dst : Option Nat} {d : Nat} {ty : TypeId} {pos : String} {aft : Array Edge} {gd : Option (Nat × Bool)}

/-- What a slice that is cut out of an owned one reaches. -/
theorem cut_at {s : Sl} {lo hi m b off : Nat} (ha : s.a = some ⟨b, off, none⟩) : (s.cut lo hi m).a = some ⟨b, off, none⟩ ∧ s.cap = lo ∨ (s.cut lo hi m).a = some ⟨b, off + lo * m, none⟩ := by
  unfold Sl.cut
  by_cases h : s.cap = lo
  · left; simp [h, ha]
  · right; simp [h, ha, add_none]
theorem run_firstN {fr : Nat × Nat} {w : World} {s : Sl} {t : TypeId} {m k : Nat} {xs : List Value} (h : liesF fr (World.hp w) s t m xs) (hk : k ≤ s.len) : (Builtin.firstCells m k s.v).run P w = .ok (xs.take (k * m)).toArray w := by
  have hc := h.cut (Nat.zero_le k) hk
  have := run_first (P := P) hc
  simp only [Nat.zero_mul, List.drop_zero, Nat.sub_zero] at this
  have e : (s.cut 0 k m).len = k := by simp [Sl.cut]
  rw [e] at this
  rw [← this]
  cases ha : s.a with
  | none => simp [Builtin.firstCells, Sl.v, Sl.cut, ha]
  | some a =>
    by_cases hcap : s.cap = 0
    · simp [Builtin.firstCells, Sl.v, Sl.cut, ha, hcap]
    · have : Addr.add a 0 = a := by unfold Addr.add; simp
      simp [Builtin.firstCells, Sl.v, Sl.cut, ha, hcap, this]
/-- `copy` into an owned slice. -/
theorem Lst.copy {α : Type} [Enc α] {x y : Operand} {t t2 el : TypeId} {i m lo hi : Nat} {s s2 : Sl} {xs ys : List α} {cs : List Value} (hg : gd = none) (hdst : dst = some d) (hn : d < n) (hx : ev e x = some (s.cut lo hi m).v) (hy : ev e y = some s2.v) (hu : ∀ w, (underlying t).run P w = .ok (.slice el) w)
    (hs : ∀ w, (sizeOf el).run P w = .ok m w) (hm : m = sz α) (hp : 0 < sz α) (hL : L[i]? = some (.own s el m cs)) (hcs : cs = encs xs) (h2 : Rd w0 F L s2 ys) (h0 : lo ≤ hi) (h1 : hi ≤ xs.length)
    (k : Lst P n w0 ops Q l ((d, .int .i64 ((min (hi - lo) ys.length : Nat) : Int)) :: e) F (L.set i (.own s el m (encs (copyL xs lo hi ys))))) : Lst P n w0 ops Q (⟨dst, .call ⟨.builtin .copy, #[x, y], #[t, t2]⟩, ty, pos, aft, gd⟩ :: l) e F L :=
  Lst.wp_plain hg fun a w h hw => by
    subst hdst hcs hm
    have hl : lies (World.hp w) s el (sz α) (encs xs) := hw.get hL
    have hlen := hl.len hp
    obtain ⟨el2, fr2, h3⟩ := h2 w hw
    have hlen2 := h3.len hp
    have hq : min s2.len (hi - lo) = min (hi - lo) ys.length := by rw [hlen2, Nat.min_comm]
    have hrd := run_firstN (P := P) h3 (k := min (hi - lo) ys.length) (by omega)
    rw [← encs_take] at hrd
    have htk : ys.take (hi - lo) = ys.take (min (hi - lo) ys.length) := by
      by_cases hc : hi - lo ≤ ys.length
      · rw [Nat.min_eq_left hc]
      · rw [Nat.min_eq_right (by omega), List.take_of_length_le (by omega), List.take_of_length_le (by omega)]
    have hzs : (ys.take (hi - lo)).length = min (hi - lo) ys.length := by simp
    unfold Oper.wp
    by_cases he : min (hi - lo) ys.length = 0
    · -- nothing is copied
      have hsame : copyL xs lo hi ys = xs := by
        unfold copyL
        rw [htk, he]; simp
      rw [hsame, set_at hL, ← split_at hL, he] at k
      rw [he] at hrd
      have hrun : (execOp a.eval ⟨some d, .call ⟨.builtin .copy, #[x, y], #[t, t2]⟩, ty, pos, aft, gd⟩).run P w = .ok (.value (.int .i64 0)) w := by
        simp [execOp, resolve, invoke, builtin, Builtin.copy_, h.eval hx, h.eval hy, hu, hs, Sl.v, Builtin.lenOf, Sl.cut, hq, he, goInt]
        simp [Sl.v] at hrd
        rw [hrd]
        cases hsa : s.a <;> simp [encs_nil, storeCells]
        split <;> simp
      rw [hrun, Oper.upon_value]
      exact k _ _ (h.put hn _) hw
    · rcases hl.2.2 with ⟨g2, _⟩ | ⟨b, off, pre, post, hb, hh, ho, hcap, hcs⟩
      · omega
      · have hca : (s.cut lo hi (sz α)).a = some ⟨b, off + lo * sz α, none⟩ := by
          rcases cut_at (s := s) (lo := lo) (hi := hi) (m := sz α) hb with ⟨_, h9⟩ | h9
          · omega
          · exact h9
        have e1 : encs xs = encs (xs.take lo) ++ (encs ((xs.drop lo).take (min (hi - lo) ys.length)) ++ encs (xs.drop (lo + min (hi - lo) ys.length))) := by
          rw [← encs_append, ← encs_append]
          congr 1
          rw [← List.drop_drop, List.take_append_drop, List.take_append_drop]
        have e2 : encs (copyL xs lo hi ys) = encs (xs.take lo) ++ (encs (ys.take (hi - lo)) ++ encs (xs.drop (lo + min (hi - lo) ys.length))) := by
          unfold copyL; rw [encs_append, encs_append]
        have hput0 : Put (encs xs) (lo * sz α) (encs (ys.take (hi - lo))) (encs (copyL xs lo hi ys)) := by
          refine ⟨encs (xs.take lo), encs ((xs.drop lo).take (min (hi - lo) ys.length)), encs (xs.drop (lo + min (hi - lo) ys.length)), e1, ?_, ?_, e2⟩
          · rw [encs_len, List.length_take, Nat.min_eq_left (by omega)]
          · rw [encs_len, encs_len, hzs, List.length_take, List.length_drop, Nat.min_eq_left (by omega)]
        have hput : Put (pre ++ (encs xs ++ post)) (off + lo * sz α) (encs (ys.take (hi - lo))) (pre ++ (encs (copyL xs lo hi ys) ++ post)) := Put.right ho (Put.left hput0)
        have hst := run_storeCells_at (P := P) b (off + lo * sz α) el (encs (ys.take (hi - lo))) 0 (pre ++ (encs xs ++ post)).toArray w hh (by have := hput.le; simp at this ⊢; omega) (by intro u hu'; exact List.all_eq_true.1 (encs_one _) u hu')
        simp only [Nat.add_zero] at hst
        rw [hput.eq] at hst
        have hrun : (execOp a.eval ⟨some d, .call ⟨.builtin .copy, #[x, y], #[t, t2]⟩, ty, pos, aft, gd⟩).run P w = .ok (.value (.int .i64 ((min (hi - lo) ys.length : Nat) : Int))) (w.setRow b (pre ++ (encs (copyL xs lo hi ys) ++ post)).toArray) := by
          have hcl : (s.cut lo hi (sz α)).len = hi - lo := rfl
          rw [← htk] at hrd
          simp [Sl.v] at hrd hst
          simp [execOp, resolve, invoke, builtin, Builtin.copy_, h.eval hx, h.eval hy, hu, hs, Sl.v, Builtin.lenOf, hca, hcl, hq, goInt, hrd, hst]
        rw [hrun, Oper.upon_value]
        refine k _ _ (h.put hn _) (hw.setRow hL (by simp [Item.foot, Sl.foot, hb]) (by simp [Item.foot, Sl.foot, hb]) fun g hgb => ?_)
        have hcl : (encs (copyL xs lo hi ys)).length = (encs xs).length := hput0.len
        refine ⟨by rw [hcl]; exact hl.1, hl.2.1, .inr ⟨b, off, pre, post, hb, hgb _ _ _ hh, ho, hcap, ?_⟩⟩
        rw [List.length_append, hcl, ← List.length_append]; exact hcs
/-! what lies behind the end -/
end
end Go.Proofs.YtnljiedichjagaaDoor
