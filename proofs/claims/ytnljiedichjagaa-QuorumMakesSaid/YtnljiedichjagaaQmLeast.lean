/-
  Least sets: what two ways of finding them have in common.
-/
import Derived.Test.YtnljiedichjagaaQmSortQ
namespace Go.Proofs.Ytnljiedichjagaa
open Enc

theorem any_loop {α : Type} {l : List α} (p : α → Bool) {body : Nat → Unit → Option (Ctl Unit Int)} (hb : ∀ (j : Nat) x, l[j]? = some x → body j () = some (bif p x then .ret (j : Int) else .go ())) :
    ((andThen (rangeM body l.length 0 ()) fun _ => some (-1 : Int)).bind fun r => some (decide (r ≥ (0 : Int)))) = some (l.any p) := by
  rw [index_loop p hb, Option.bind_some]
  congr 1
  rw [Bool.eq_iff_iff, decide_eq_true_eq, List.any_eq_true]
  rcases idxI_cases p l with ⟨h, h1⟩ | ⟨i, x, h, h1, h2, _⟩
  · rw [h]
    refine ⟨fun k => by omega, ?_⟩
    rintro ⟨x, hx, hp⟩
    rw [h1 x hx] at hp; cases hp
  · rw [h]
    exact ⟨fun _ => ⟨x, List.mem_of_getElem? h1, h2⟩, fun _ => by omega⟩
/-- t lies within s. -/
def subB (t s : BitVec 16) : Bool := decide (s ||| t = s)
theorem or_sub (t s : BitVec 16) : (((s ||| t).toNat : Int) == (s.toNat : Int)) = subB t s := by
  rw [u_beq]
  unfold subB
  rw [Bool.eq_iff_iff, beq_iff_eq, decide_eq_true_eq]
theorem andnot_sub (t s : BitVec 16) : (((t &&& ~~~s).toNat : Int) == ((0 : BitVec 16).toNat : Int)) = subB t s := by
  rw [u_beq]
  unfold subB
  rw [Bool.eq_iff_iff, beq_iff_eq, decide_eq_true_eq]
  constructor
  · intro h
    apply BitVec.eq_of_getLsbD_eq
    intro i hi
    have := congrArg (fun x : BitVec 16 => x.getLsbD i) h
    simp only [BitVec.getLsbD_and, BitVec.getLsbD_not, hi, decide_true, Bool.true_and] at this
    rw [BitVec.getLsbD_or]
    cases h1 : t.getLsbD i <;> cases h2 : s.getLsbD i <;> simp_all
  · intro h
    apply BitVec.eq_of_getLsbD_eq
    intro i hi
    have := congrArg (fun x : BitVec 16 => x.getLsbD i) h
    simp only [BitVec.getLsbD_or] at this
    rw [BitVec.getLsbD_and, BitVec.getLsbD_not]
    cases h1 : t.getLsbD i <;> cases h2 : s.getLsbD i <;> simp_all

/-! ### Sizes -/
theorem pcF_pow : ∀ (f n m : Nat), m < 2 ^ n → pcF f m ≤ n
  | 0, _, _, _ => Nat.zero_le _
  | f + 1, 0, m, h => by
    have : m = 0 := by simpa using h
    subst this
    have := pcF_pow f 0 0 (by simp)
    show 0 % 2 + pcF f (0 / 2) ≤ 0
    simpa using this
  | f + 1, n + 1, m, h => by
    have := pcF_pow f n (m / 2) (by rw [Nat.pow_succ] at h; omega)
    show m % 2 + pcF f (m / 2) ≤ n + 1
    omega
theorem size_law {fu : Nat} (hfu : 2 ^ 16 < fu) (x : BitVec 16) : partref_size fu x = some (pc x : Int) := by
  refine Tot.eq ?_
  unfold partref_size
  rw [Tot.andThen_iff]
  have hx := x.isLt
  refine Tot.whileM (fun z : (BitVec 16) × Int => ∃ f : Nat, f ≤ 16 ∧ z.1.toNat < 2 ^ f ∧ z.2 + pcF f z.1.toNat = pc x ∧ 0 ≤ z.2) (fun z => z.1.toNat) ⟨16, by omega, hx, by unfold pc; simp, by simp only; omega⟩ (by simp only; omega) ?_
  rintro ⟨y, n⟩ ⟨f, hf, h1, h2, h0⟩
  simp only at h1 h2 h0
  unfold partref_size_B0
  simp only
  rw [Tot.ite_iff]
  refine ⟨fun k => ?_, fun k => ?_⟩
  · have k : 0 < y.toNat := by have := of_decide_eq_true k; simp at this; omega
    obtain ⟨f, rfl⟩ : ∃ g, f = g + 1 := ⟨f - 1, by
      rcases Nat.eq_zero_or_pos f with rfl | q
      · simp at h1; omega
      · omega⟩
    have e1 : (y / (2 : BitVec 16)).toNat = y.toNat / 2 := by rw [BitVec.toNat_udiv]; rfl
    have e2 : (y % (2 : BitVec 16)).toNat = y.toNat % 2 := by rw [BitVec.toNat_umod]; rfl
    have hp : pcF (f + 1) y.toNat = y.toNat % 2 + pcF f (y.toNat / 2) := rfl
    have hle := pc_le x
    rw [Tot.some_iff, e2, w64_id (by omega) (by omega)]
    refine ⟨⟨f, by omega, ?_, ?_, by simp only; omega⟩, ?_⟩
    · simp only [e1]; rw [Nat.pow_succ] at h1; omega
    · simp only [e1]; rw [hp] at h2; push_cast at h2 ⊢; omega
    · simp only [e1]; omega
  · have k : y.toNat = 0 := by have := of_decide_eq_false k; simp at this; omega
    rw [Tot.some_iff]
    show Tot (some n) _
    rw [Tot.some_iff]
    rw [k] at h2
    have hz : ∀ f, pcF f 0 = 0 := by
      intro f
      induction f with
      | zero => rfl
      | succ f ih => show 0 % 2 + pcF f (0 / 2) = 0; simpa using ih
    rw [hz] at h2
    omega

/-! ### All numbers below a power -/
def nums (m : Nat) : List (BitVec 16) := (List.range m).map (BitVec.ofNat 16)
theorem nums_succ {m : Nat} : nums (m + 1) = nums m ++ [BitVec.ofNat 16 m] := by unfold nums; rw [List.range_succ, List.map_append]; rfl
theorem mem_nums {m : Nat} (hm : m ≤ 2 ^ 16) {s : BitVec 16} : s ∈ nums m ↔ s.toNat < m := by
  unfold nums
  rw [List.mem_map]
  constructor
  · rintro ⟨i, hi, rfl⟩
    rw [List.mem_range] at hi
    rw [BitVec.toNat_ofNat, Nat.mod_eq_of_lt (by omega)]; exact hi
  · intro h
    exact ⟨s.toNat, List.mem_range.2 h, by simp⟩
theorem nums_pw {m : Nat} (hm : m ≤ 2 ^ 16) : (nums m).Pairwise fun a b => a.toNat < b.toNat := by
  unfold nums
  rw [List.pairwise_map]
  refine List.Pairwise.imp_of_mem (R := fun a b => a < b) ?_ List.pairwise_lt_range
  intro a b ha hb hab
  rw [List.mem_range] at ha hb
  rw [BitVec.toNat_ofNat, BitVec.toNat_ofNat, Nat.mod_eq_of_lt (by omega), Nat.mod_eq_of_lt (by omega)]
  exact hab
theorem one_shift {n : Nat} (hn : n ≤ 10) : ((1 : BitVec 16) <<< n).toNat = 2 ^ n := by
  have : 2 ^ n ≤ 2 ^ 10 := Nat.pow_le_pow_right (by omega) hn
  rw [BitVec.toNat_shiftLeft, Nat.shiftLeft_eq]
  simp only [BitVec.ofNat_eq_ofNat, BitVec.toNat_ofNat]
  rw [Nat.mod_eq_of_lt (by omega)]; omega
theorem ofNat_succ (i : Nat) : BitVec.ofNat 16 i + (1 : BitVec 16) = BitVec.ofNat 16 (i + 1) := by simp [BitVec.ofNat_add]
theorem filter_len {m : Nat} (p : BitVec 16 → Bool) : ((nums m).filter p).length ≤ m := by
  refine Nat.le_trans (List.length_filter_le _ _) ?_
  unfold nums; simp
theorem collect_law {τ : Type} {n fu : Nat} {good : BitVec 16 → Bool} (hn : n ≤ 10) (hfu : 2000 < fu) {gd : BitVec 16 → Option Bool} (hgd : ∀ s, gd s = some (good s)) {body : (BitVec 16) × (List (BitVec 16)) → Option (Ctl ((BitVec 16) × (List (BitVec 16))) τ)}
    (hbody : ∀ z7, body z7 = bif decide ((z7.1.toNat : Int) < (((1 : BitVec 16) <<< n).toNat : Int)) then ((gd z7.1).bind fun r38 => bif r38 then ((room z7.2 ([z7.1] : List (BitVec 16))).bind fun _ => some (.go (z7.1 + (1 : BitVec 16), z7.2 ++ ([z7.1] : List (BitVec 16))))) else some (.go (z7.1 + (1 : BitVec 16), z7.2))) else some (.brk (z7.1, z7.2))) :
    Tot (whileM body fu ((0 : BitVec 16), ([] : List (BitVec 16)))) fun o => ∃ s, o = .inl (s, (nums (2 ^ n)).filter good) := by
  have hp : 2 ^ n ≤ 2 ^ 10 := Nat.pow_le_pow_right (by omega) hn
  refine Tot.whileM (fun z : (BitVec 16) × (List (BitVec 16)) => ∃ i : Nat, i ≤ 2 ^ n ∧ z.1 = BitVec.ofNat 16 i ∧ z.2 = (nums i).filter good) (fun z => 2 ^ n - z.1.toNat) ⟨0, Nat.zero_le _, rfl, rfl⟩ (by simp only; omega) ?_
  rintro ⟨s, l⟩ ⟨i, hi, rfl, rfl⟩
  have e : (BitVec.ofNat 16 i).toNat = i := by rw [BitVec.toNat_ofNat, Nat.mod_eq_of_lt (by omega)]
  rw [hbody]
  simp only
  rw [one_shift hn, e, Tot.ite_iff]
  refine ⟨fun k => ?_, fun k => ?_⟩
  · have k : i < 2 ^ n := by have := of_decide_eq_true k; omega
    have e' : (BitVec.ofNat 16 (i + 1)).toNat = i + 1 := by rw [BitVec.toNat_ofNat, Nat.mod_eq_of_lt (by omega)]
    have hl := filter_len (m := i) good
    rw [hgd, Option.bind_some, ofNat_succ, Tot.ite_iff]
    refine ⟨fun q => ?_, fun q => ?_⟩
    · rw [room_ok (by simp; omega), Option.bind_some, Tot.some_iff]
      exact ⟨⟨i + 1, k, rfl, by simp only; rw [nums_succ, List.filter_append]; simp [q]⟩, by simp only [e']; omega⟩
    · rw [Tot.some_iff]
      exact ⟨⟨i + 1, k, rfl, by simp only; rw [nums_succ, List.filter_append]; simp [q]⟩, by simp only [e']; omega⟩
  · have k : ¬ i < 2 ^ n := by have := of_decide_eq_false k; omega
    have : i = 2 ^ n := by omega
    subst this
    exact Tot.some_iff.2 ⟨_, rfl⟩

/-! ### One after another, if it contains none -/
def gstep (out : List (BitVec 16)) (s : BitVec 16) : List (BitVec 16) := bif out.any (fun t => subB t s) then out else out ++ [s]
theorem gstep_len (out : List (BitVec 16)) (s : BitVec 16) : (gstep out s).length ≤ out.length + 1 := by
  unfold gstep
  cases out.any (fun t => subB t s) <;> simp
theorem gfold_len : ∀ (l : List (BitVec 16)) (out : List (BitVec 16)), (l.foldl gstep out).length ≤ out.length + l.length
  | [], _ => Nat.le_refl _
  | s :: l, out => by
    have := gfold_len l (gstep out s)
    have := gstep_len out s
    simp only [List.foldl_cons, List.length_cons]
    omega
/-- The order of the reference: by size, then by number. -/
def inOrder (n : Nat) (good : BitVec 16 → Bool) : List (BitVec 16) := (List.range (n + 1)).flatMap fun k => (nums (2 ^ n)).filter fun s => decide (pc s = k) && good s
theorem pw_unique {α : Type} {R : α → α → Prop} (asym : ∀ x y, R x y → ¬ R y x) : ∀ {l m : List α}, l.Pairwise R → m.Pairwise R → (∀ x, x ∈ l ↔ x ∈ m) → l = m
  | [], [], _, _, _ => rfl
  | [], b :: m, _, _, h => by have := (h b).2 (List.mem_cons_self ..); cases this
  | a :: l, [], _, _, h => by have := (h a).1 (List.mem_cons_self ..); cases this
  | a :: l, b :: m, hl, hm, h => by
    rw [List.pairwise_cons] at hl hm
    have hab : a = b := by
      rcases List.mem_cons.1 ((h a).1 (List.mem_cons_self ..)) with e | e
      · exact e
      · rcases List.mem_cons.1 ((h b).2 (List.mem_cons_self ..)) with e' | e'
        · exact e'.symm
        · exact absurd (hl.1 b e') (asym _ _ (hm.1 a e))
    subst hab
    congr 1
    refine pw_unique asym hl.2 hm.2 fun x => ?_
    constructor
    · intro hx
      rcases List.mem_cons.1 ((h x).1 (List.mem_cons_of_mem _ hx)) with e | e
      · subst e; exact absurd (hl.1 x hx) (asym _ _ (hl.1 x hx))
      · exact e
    · intro hx
      rcases List.mem_cons.1 ((h x).2 (List.mem_cons_of_mem _ hx)) with e | e
      · subst e; exact absurd (hm.1 x hx) (asym _ _ (hm.1 x hx))
      · exact e
theorem sorted_inOrder {n : Nat} {good : BitVec 16 → Bool} (hn : n ≤ 10) {r : List (BitVec 16)} (h1 : SP 0 ((nums (2 ^ n)).filter good).length ((nums (2 ^ n)).filter good) r) (h2 : Srt qlt 0 ((nums (2 ^ n)).filter good).length r) : r = inOrder n good := by
  have hp : 2 ^ n ≤ 2 ^ 10 := Nat.pow_le_pow_right (by omega) hn
  have hnd : ((nums (2 ^ n)).filter good).Nodup := by
    unfold List.Nodup
    refine List.Pairwise.filter _ ((nums_pw (by omega)).imp fun {a b} hab e => ?_)
    subst e; omega
  have hrn := h1.nodup hnd
  have hlen := h1.len
  refine pw_unique (R := fun x y => qlt x y = true) (fun x y h k => ?_) ?_ ?_ fun x => ?_
  · rw [qlt_iff] at h k; omega
  · unfold List.Nodup at hrn
    rw [List.pairwise_iff_getElem] at hrn ⊢
    intro i j hi hj hij
    have hne := hrn i j hi hj hij
    have hs := h2 i j r[i] r[j] (Nat.zero_le _) hij (by omega) (by simp) (by simp)
    rw [qlt_false] at hs
    rw [qlt_iff]
    have : r[i].toNat ≠ r[j].toNat := fun e => hne (BitVec.eq_of_toNat_eq e)
    omega
  · unfold inOrder
    rw [List.pairwise_flatMap]
    refine ⟨fun k _ => ?_, ?_⟩
    · refine List.Pairwise.imp_of_mem (R := fun a b : BitVec 16 => a.toNat < b.toNat) ?_ (List.Pairwise.filter _ (nums_pw (by omega)))
      intro a b ha hb hab
      rw [List.mem_filter, Bool.and_eq_true, decide_eq_true_eq] at ha hb
      rw [qlt_iff]; omega
    · refine List.pairwise_lt_range.imp fun {a b} hab => ?_
      intro x hx y hy
      rw [List.mem_filter, Bool.and_eq_true, decide_eq_true_eq] at hx hy
      rw [qlt_iff]; omega
  · rw [h1.mem]
    unfold inOrder
    simp only [List.mem_flatMap, List.mem_filter, List.mem_range, Bool.and_eq_true, decide_eq_true_eq]
    constructor
    · rintro ⟨a, b⟩
      refine ⟨pc x, ?_, a, rfl, b⟩
      have := pcF_pow 16 n x.toNat ((mem_nums (by omega)).1 a)
      unfold pc; omega
    · rintro ⟨k, _, a, _, b⟩; exact ⟨a, b⟩
/-- The reference's round of one size. -/
theorem round_law {τ : Type} {n k fu : Nat} {good : BitVec 16 → Bool} {out : List (BitVec 16)} (hn : n ≤ 10) (hfu : 2000 < fu) (ho : out.length ≤ 2 ^ 20) {gd : BitVec 16 → Option Bool} (hgd : ∀ s, gd s = some (good s)) {sz : BitVec 16 → Option Int} (hsz : ∀ s, sz s = some (pc s : Int))
    {ct : List (BitVec 16) → BitVec 16 → Option Bool} (hct : ∀ l s, ct l s = some (l.any fun t => subB t s)) {body : (BitVec 16) × (List (BitVec 16)) → Option (Ctl ((BitVec 16) × (List (BitVec 16))) τ)}
    (hbody : ∀ z13, body z13 = bif decide ((z13.1.toNat : Int) < (((1 : BitVec 16) <<< n).toNat : Int)) then ((sz z13.1).bind fun r22 => bif r22 == (k : Int) then ((gd z13.1).bind fun r27 => bif r27 then ((ct z13.2 z13.1).bind fun r32 => bif !r32 then ((room z13.2 ([z13.1] : List (BitVec 16))).bind fun _ => some (.go (z13.1 + (1 : BitVec 16), z13.2 ++ ([z13.1] : List (BitVec 16))))) else
      some (.go (z13.1 + (1 : BitVec 16), z13.2))) else some (.go (z13.1 + (1 : BitVec 16), z13.2))) else some (.go (z13.1 + (1 : BitVec 16), z13.2))) else some (.brk (z13.1, z13.2))) :
    Tot (whileM body fu ((0 : BitVec 16), out)) fun o => ∃ s, o = .inl (s, ((nums (2 ^ n)).filter fun s => decide (pc s = k) && good s).foldl gstep out) := by
  have hp : 2 ^ n ≤ 2 ^ 10 := Nat.pow_le_pow_right (by omega) hn
  refine Tot.whileM (fun z : (BitVec 16) × (List (BitVec 16)) => ∃ i : Nat, i ≤ 2 ^ n ∧ z.1 = BitVec.ofNat 16 i ∧ z.2 = ((nums i).filter fun s => decide (pc s = k) && good s).foldl gstep out) (fun z => 2 ^ n - z.1.toNat) ⟨0, Nat.zero_le _, rfl, rfl⟩ (by simp only; omega) ?_
  rintro ⟨s, l⟩ ⟨i, hi, rfl, rfl⟩
  have e : (BitVec.ofNat 16 i).toNat = i := by rw [BitVec.toNat_ofNat, Nat.mod_eq_of_lt (by omega)]
  rw [hbody]
  simp only
  rw [one_shift hn, e, Tot.ite_iff]
  refine ⟨fun q => ?_, fun q => ?_⟩
  · have q : i < 2 ^ n := by have := of_decide_eq_true q; omega
    have e' : (BitVec.ofNat 16 (i + 1)).toNat = i + 1 := by rw [BitVec.toNat_ofNat, Nat.mod_eq_of_lt (by omega)]
    have hl := filter_len (m := i) fun s => decide (pc s = k) && good s
    have hl2 := gfold_len ((nums i).filter fun s => decide (pc s = k) && good s) out
    have hstep : ((nums (i + 1)).filter fun s => decide (pc s = k) && good s).foldl gstep out = bif decide (pc (BitVec.ofNat 16 i) = k) && good (BitVec.ofNat 16 i) then gstep (((nums i).filter fun s => decide (pc s = k) && good s).foldl gstep out) (BitVec.ofNat 16 i) else ((nums i).filter fun s => decide (pc s = k) && good s).foldl gstep out := by
      rw [nums_succ, List.filter_append, List.foldl_append]
      cases hq : decide (pc (BitVec.ofNat 16 i) = k) && good (BitVec.ofNat 16 i) with
      | true => simp [hq]
      | false => simp [hq]
    generalize ((nums i).filter fun s => decide (pc s = k) && good s).foldl gstep out = acc at *
    have fin : ∀ l', l' = ((nums (i + 1)).filter fun s => decide (pc s = k) && good s).foldl gstep out → (∃ j : Nat, j ≤ 2 ^ n ∧ (BitVec.ofNat 16 (i + 1), l').1 = BitVec.ofNat 16 j ∧ (BitVec.ofNat 16 (i + 1), l').2 = ((nums j).filter fun s => decide (pc s = k) && good s).foldl gstep out) ∧ 2 ^ n - (BitVec.ofNat 16 (i + 1), l').1.toNat < 2 ^ n - i := by
      intro l' h
      exact ⟨⟨i + 1, q, rfl, h⟩, by simp only [e']; omega⟩
    rw [hsz, Option.bind_some, hgd, ofNat_succ, Option.bind_some, hct, Option.bind_some]
    by_cases hk : pc (BitVec.ofNat 16 i) = k
    · rw [hk, show ((k : Int) == (k : Int)) = true by simp, cond_true]
      rw [decide_eq_true hk, Bool.true_and] at hstep
      cases hg : good (BitVec.ofNat 16 i) with
      | true =>
        rw [hg, cond_true] at hstep
        unfold gstep at hstep
        rw [cond_true]
        cases ha : acc.any (fun t => subB t (BitVec.ofNat 16 i)) with
        | true => rw [ha, cond_true] at hstep; rw [Bool.not_true, cond_false, Tot.some_iff]; exact fin _ hstep.symm
        | false =>
          rw [ha, cond_false] at hstep
          rw [Bool.not_false, cond_true, room_ok (by simp; omega), Option.bind_some, Tot.some_iff]; exact fin _ hstep.symm
      | false => rw [hg, cond_false] at hstep; rw [cond_false, Tot.some_iff]; exact fin _ hstep.symm
    · rw [decide_eq_false hk, Bool.false_and, cond_false] at hstep
      rw [show (((pc (BitVec.ofNat 16 i) : Nat) : Int) == (k : Int)) = false by simp; omega, cond_false, Tot.some_iff]
      exact fin _ hstep.symm
  · have q : ¬ i < 2 ^ n := by have := of_decide_eq_false q; omega
    have : i = 2 ^ n := by omega
    subst this
    exact Tot.some_iff.2 ⟨_, rfl⟩
end Go.Proofs.Ytnljiedichjagaa
