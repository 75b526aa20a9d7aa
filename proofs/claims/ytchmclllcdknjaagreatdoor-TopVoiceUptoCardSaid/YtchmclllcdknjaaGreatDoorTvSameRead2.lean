/-
  Commands: what the code reads and what the document reads (the document's functions are laid here: the law does not reach them).
-/
import Derived.Test.YtchmclllcdknjaaGreatDoorTvWorldA
namespace Go.Proofs.YtchmclllcdknjaaGreatDoor
open Enc
set_option linter.unusedVariables false
def strings_HasPrefix (a0 : Str) (a1 : Str) : Option Bool :=
 (internal_stringslite_HasPrefix a0 a1).bind fun r1 =>
 some r1
def partref_numberOf_B0 (y1 : Str) (i25 : Nat) (z25 : Int) : Option (Ctl Int (Int × Bool)) :=
 (lat (Str.bytes y1) (i25 : Int)).bind fun x29 =>
 (bif decide ((x29.toNat : Int) < ((48 : BitVec 8).toNat : Int)) then (some true) else
 some (decide ((x29.toNat : Int) > ((57 : BitVec 8).toNat : Int)))).bind fun y33 =>
 bif y33 then (some (.ret ((0 : Int), false))) else
 some (.go (w64 ((w64 ((w64 (z25 * (10 : Int))) + (x29.toNat : Int))) - (48 : Int))))
def partref_numberOf (a0 : Str) : Option (Int × Bool) :=
 ((strings_HasPrefix a0 ([45] : Str)).bind fun r4 =>
 bif r4 then ((cutL a0 (1 : Int) (a0.length : Int)).bind fun m9 =>
 some (m9, (-1 : Int))) else
 some (a0, (1 : Int))).bind fun (y1, y2) =>
 (bif decide ((y1.length : Int) < (1 : Int)) then (some true) else
 some (decide ((y1.length : Int) > (9 : Int)))).bind fun y14 =>
 bif y14 then (some ((0 : Int), false)) else
 (room ([] : Str) y1).bind fun u19 =>
 andThen (rangeM (partref_numberOf_B0 y1) ((Str.bytes y1).length) 0 (0 : Int)) fun y26 =>
 some (w64 (y2 * y26), true)
def partref_ReadCmd (fu : Nat) (a0 : Str) : Option (Cmd × Int) :=
 (strings_Split fu a0 ([32] : Str)).bind fun r3 =>
 bif (r3.length : Int) != (3 : Int) then (some (Cmd.zero, (12 : Int))) else
 (lat r3 (0 : Int)).bind fun x12 =>
 (slices_Index_string_string ([([] : Str), ([115, 101, 116] : Str), ([97, 100, 100] : Str), ([109, 111, 115, 116] : Str), ([99, 111, 112, 121] : Str)] : List Str) x12).bind fun r15 =>
 (lat r3 (1 : Int)).bind fun x19 =>
 (partref_numberOf x19).bind fun r22 =>
 (lat r3 (2 : Int)).bind fun x26 =>
 (partref_numberOf x26).bind fun r29 =>
 (bif decide (r15 < (1 : Int)) then (some true) else
 some (!r22.2)).bind fun y34 =>
 (bif y34 then (some true) else
 some (!r29.2)).bind fun y39 =>
 bif y39 then (some (Cmd.zero, (12 : Int))) else
 (bif decide (r22.1 < (0 : Int)) then (some true) else
 some (decide (r22.1 > (9 : Int)))).bind fun y45 =>
 bif y45 then (some (Cmd.zero, (1 : Int))) else
 bif r15 == (4 : Int) then ((bif decide (r29.1 < (0 : Int)) then (some true) else
 some (decide (r29.1 > (9 : Int)))).bind fun y52 =>
 bif y52 then (some (Cmd.zero, (1 : Int))) else
 some (({ Cmd.zero with Kind := r15, Key := r22.1, N := r29.1 } : Cmd), (0 : Int))) else
 some (({ Cmd.zero with Kind := r15, Key := r22.1, N := r29.1 } : Cmd), (0 : Int))
def partref_RunCmds_1 (a0 : Int) : Option Int :=
 bif decide (a0 > (1000000000 : Int)) then (some (1000000000 : Int)) else
 bif decide (a0 < (-1000000000 : Int)) then (some (-1000000000 : Int)) else
 some a0
def partref_RunCmds_B0 (fu : Nat) (a1 : List Str) (i5 : Nat) (z5 : Int × (Vector Int 10)) : Option (Int × (Vector Int 10)) :=
 (lat a1 (i5 : Int)).bind fun x10 =>
 (partref_ReadCmd fu x10).bind fun r13 =>
 bif r13.2 != (0 : Int) then (some (w64 (z5.1 + (1 : Int)), z5.2)) else
 (partref_RunCmds_1 r13.1.N).bind fun r20 =>
 (bif r13.1.Kind == (2 : Int) then ((vat z5.2 r13.1.Key).bind fun x27 =>
 (partref_RunCmds_1 (w64 ((max (-1099511627776 : Int) (min x27 (1099511627776 : Int))) + r20))).bind fun r30 =>
 some r30) else
 bif r13.1.Kind == (3 : Int) then ((vat z5.2 r13.1.Key).bind fun x35 =>
 some (max r20 x35)) else
 bif r13.1.Kind == (4 : Int) then ((vat z5.2 r13.1.N).bind fun x39 =>
 some x39) else
 some r20).bind fun y24 =>
 (vat z5.2 r13.1.Key).bind fun x44 =>
 Let (z5.2.setIfInBounds r13.1.Key.toNat y24) fun p47 =>
 some (z5.1, p47)
def partref_RunCmds (fu : Nat) (a0 : Vector Int 10) (a1 : List Str) : Option ((Vector Int 10) × Int) :=
 (rangeF (partref_RunCmds_B0 fu a1) a1.length 0 ((0 : Int), a0)).bind fun (y6, y7) =>
 some (y7, y6)

/-! ### Where a byte is -/
theorem idx_byte (s : Str) (c : UInt8) : Lib.indexByte s c = -1 ∨ (0 ≤ Lib.indexByte s c ∧ Lib.indexByte s c < s.length) := by
  induction s with
  | nil => exact .inl rfl
  | cons b s ih =>
    unfold Lib.indexByte
    by_cases h : (b == c) = true
    · rw [if_pos h]; right; simp only [List.length_cons]; omega
    · rw [if_neg h]
      rcases ih with e | ⟨e1, e2⟩
      · rw [e]; left; rfl
      · have : ¬ (Lib.indexByte s c == -1) = true := by simp; omega
        rw [if_neg this]
        right; simp only [List.length_cons]; omega
theorem index_one (s : Str) : ∃ r, strings_Index s ([32] : Str) = some r ∧ (r = -1 ∨ (0 ≤ r ∧ r < s.length)) := by
  unfold strings_Index internal_stringslite_Index internal_stringslite_IndexByte
  by_cases h : ([32] : Str) = s
  · subst h
    exact ⟨0, rfl, .inr ⟨by decide, by decide⟩⟩
  · have e1 : ((([32] : Str).length : Int) == 0) = false := rfl
    have e2 : ((([32] : Str).length : Int) == 1) = true := rfl
    have e3 : lat ([32] : Str) 0 = some 32 := rfl
    simp only [e1, e2, e3, cond_false, cond_true, Option.bind_some, decide_eq_false h]
    exact ⟨_, rfl, idx_byte s _⟩
theorem split_law {s : Str} {fu : Nat} (hs : s.length ≤ 2 ^ 21) (hf : s.length + 10 < fu) : Tot (strings_Split fu s ([32] : Str)) fun l => ∀ x ∈ l, x.length ≤ s.length := by
  have hcnt : sCnt s ((32 : UInt8).toBitVec) ≤ s.length := by
    unfold sCnt
    have := List.count_le_length (l := s) (a := UInt8.ofBitVec ((32 : UInt8).toBitVec))
    omega
  have hcnt0 : 0 ≤ sCnt s ((32 : UInt8).toBitVec) := by unfold sCnt; omega
  unfold strings_Split strings_genSplit strings_Count
  have e0 : ((-1 : Int) == 0) = false := rfl
  have e1 : decide (([32] : Str) = []) = false := rfl
  have e2 : decide ((-1 : Int) < 0) = true := rfl
  have e3 : ((([32] : Str).length : Int) == 0) = false := rfl
  have e4 : ((([32] : Str).length : Int) == 1) = true := rfl
  have e5 : lat ([32] : Str) 0 = some 32 := rfl
  rw [e0, cond_false, e1, cond_false, e2, cond_true, e3, cond_false, e4, cond_true, e5, Option.bind_some, Option.bind_some]
  generalize hq : sCnt s ((32 : UInt8).toBitVec) = q at hcnt hcnt0
  obtain ⟨n, rfl⟩ := int_nat hcnt0
  have w1 : w64 ((n : Int) + 1) = ((n + 1 : Nat) : Int) := by rw [w64_id (by omega) (by omega)]; rfl
  have w2 : w64 ((s.length : Int) + 1) = ((s.length + 1 : Nat) : Int) := by rw [w64_id (by omega) (by omega)]; rfl
  have w3 : min (((n + 1 : Nat)) : Int) ((s.length + 1 : Nat) : Int) = ((n + 1 : Nat) : Int) := by omega
  have w4 : w64 (((n + 1 : Nat) : Int) - 1) = (n : Int) := by rw [w64_id (by omega) (by omega)]; omega
  rw [Option.bind_some, w1, w2, w3]
  have hmk : mkLen ((n + 1 : Nat) : Int) = some (n + 1) := by unfold mkLen; rw [if_pos (by omega)]; rfl
  rw [hmk, Option.bind_some, Tot.bind_iff, Tot.bind_iff, Tot.andThen_iff]
  refine Tot.whileM (fun z => ∃ i : Nat, z.2.1 = (i : Int) ∧ i ≤ n ∧ z.2.2.length = n + 1 ∧ z.1.length ≤ s.length ∧ ∀ x ∈ z.2.2, x.length ≤ s.length) (fun z => ((n : Int) - z.2.1).toNat)
    ⟨0, rfl, Nat.zero_le _, by simp, Nat.le_refl _, fun x hx => by rw [(List.mem_replicate.1 hx).2]; simp⟩ (by simp only; omega) ?_
  rintro ⟨t, z, l⟩ ⟨i, hz, hi, hl, ht, hx⟩
  simp only at hz hl ht hx
  subst hz
  have fin : ∀ t' : Str, t'.length ≤ s.length → Tot (some (t', ((i : Nat) : Int), l)) fun a => Tot ((lat a.2.2 a.2.1).bind fun x46 => Let (a.2.2.set a.2.1.toNat a.1) fun p49 => (cutL p49 0 (w64 (a.2.1 + 1))).bind fun m51 => some m51) fun a => Tot (some a) fun l => ∀ x ∈ l, x.length ≤ s.length := fun t' ht' => by
    rw [Tot.some_iff]
    simp only
    have hil : i < l.length := by omega
    have w : w64 ((i : Int) + 1) = ((i + 1 : Nat) : Int) := by rw [w64_id (by omega) (by omega)]; rfl
    rw [lat_at hil, Option.bind_some, Tot.let_iff, w, Tot.bind_iff, Tot.cutL_iff]
    refine ⟨by simp only [List.length_set]; omega, ?_⟩
    rw [Tot.some_iff, Tot.some_iff]
    intro x hxm
    have := List.mem_of_mem_take hxm
    have := List.mem_of_mem_drop this
    rcases List.mem_or_eq_of_mem_set this with h | h
    · exact hx x h
    · rw [h]; exact ht'
  unfold strings_genSplit_B0
  simp only
  rw [w2, w3, w4, Tot.ite_iff]
  refine ⟨fun c => ?_, fun c => ?_⟩
  · have c : i < n := by simpa using c
    obtain ⟨r, er, hr⟩ := index_one t
    rw [er, Option.bind_some, Tot.ite_iff]
    refine ⟨fun d => ?_, fun d => ?_⟩
    · rw [Tot.some_iff]
      exact Tot.brk_iff.2 (Tot.inl_iff.2 (fin t ht))
    · have d : ¬ r < 0 := by simpa using d
      have hr : 0 ≤ r ∧ r < t.length := by omega
      have e6 : (([32] : Str).length : Int) = 1 := rfl
      have hil : i < l.length := by omega
      rw [w64_id (show -9223372036854775808 ≤ r + 0 by omega) (by omega), e6, w64_id (show -9223372036854775808 ≤ r + 1 by omega) (by omega), w64_id (show -9223372036854775808 ≤ (i : Int) + 1 by omega) (by omega), Tot.bind_iff, Tot.cutL_iff]
      refine ⟨by omega, ?_⟩
      rw [lat_at hil, Option.bind_some, Tot.let_iff, Tot.bind_iff, Tot.cutL_iff]
      refine ⟨by omega, ?_⟩
      rw [Tot.some_iff]
      refine Tot.go_iff.2 ⟨⟨i + 1, rfl, by omega, by simpa using hl, ?_, fun x hxm => ?_⟩, ?_⟩
      · simp only [List.length_take, List.length_drop]; omega
      · rcases List.mem_or_eq_of_mem_set hxm with h | h
        · exact hx x h
        · rw [h]; simp only [List.length_take, List.length_drop]; omega
      · simp only; omega
  · rw [Tot.some_iff]
    exact Tot.brk_iff.2 (Tot.inl_iff.2 (fin t ht))

/-! ### Numbers -/
theorem ref_digits {t : Str} : ∀ (k i : Nat) (z : Int) (b : Nat), i + k = t.length → i ≤ b → 0 ≤ z → z < 10 ^ b → b + k ≤ 12 →
    rangeM (partref_numberOf_B0 t) k i z = some (bif (t.drop i).all isd then .inl (dval z (t.drop i)) else .inr (0, false))
  | 0, i, z, b, h, _, _, _, _ => by
    rw [List.drop_of_length_le (by omega)]; rfl
  | k + 1, i, z, b, h, hb, h0, h1, h2 => by
    have hi : i < t.length := by omega
    have hx : t[i]? = some t[i] := by simp [hi]
    generalize t[i] = c at hx
    rw [drop_at hx, List.all_cons]
    have hz : (10 : Int) ^ b ≤ 10 ^ 11 := by
      have : (10 : Nat) ^ b ≤ 10 ^ 11 := Nat.pow_le_pow_right (by omega) (by omega)
      exact_mod_cast this
    have hz2 : (10 : Int) ^ (b + 1) = 10 ^ b * 10 := by rw [Int.pow_succ]
    unfold rangeM partref_numberOf_B0
    rw [bytes_at hx, Option.bind_some, or_some, Option.bind_some]
    have e : c.toBitVec.toNat = c.toNat := rfl
    have hc := c.toNat_lt
    rw [e, show ((48 : BitVec 8).toNat : Int) = 48 from rfl, show ((57 : BitVec 8).toNat : Int) = 57 from rfl]
    have e2 : (decide ((c.toNat : Int) < 48) || decide ((c.toNat : Int) > 57)) = !isd c := by
      unfold isd; rw [Bool.eq_iff_iff]; simp; omega
    rw [e2]
    cases hd : isd c with
    | false => rfl
    | true =>
      have hd' := isd_iff.1 hd
      rw [Bool.not_true, cond_false, Bool.true_and, w64_id (show -9223372036854775808 ≤ z * 10 by omega) (by omega), w64_id (show -9223372036854775808 ≤ z * 10 + (c.toNat : Int) by omega) (by omega), w64_id (show -9223372036854775808 ≤ z * 10 + (c.toNat : Int) - 48 by omega) (by omega)]
      exact ref_digits k (i + 1) _ (b + 1) (by omega) (by omega) (by omega) (by rw [hz2]; omega) (by omega)
/-! ### Trim -/
theorem ascii_law {fu : Nat} (hf : 20 < fu) : ∃ v, strings_makeASCIISet fu ([48, 49, 50, 51, 52, 53, 54, 55, 56, 57] : Str) = some (v, true) ∧ VIs v fun c => decide (48 ≤ c) && decide (c ≤ 57) := by
  have hd : ∀ i, i < 10 → ([48, 49, 50, 51, 52, 53, 54, 55, 56, 57] : Str)[i]? = some (UInt8.ofNat (48 + i)) := by decide
  have key : Tot (strings_makeASCIISet fu ([48, 49, 50, 51, 52, 53, 54, 55, 56, 57] : Str)) fun r => r.2 = true ∧ VIs r.1 fun c => decide (48 ≤ c) && decide (c ≤ 57) := by
    unfold strings_makeASCIISet
    rw [Tot.andThen_iff]
    refine Tot.whileM (fun z => ∃ i : Nat, z.1 = (i : Int) ∧ i ≤ 10 ∧ VIs z.2 fun c => decide (48 ≤ c) && decide (c < 48 + i)) (fun z => (10 - z.1).toNat) ⟨0, rfl, by omega, VIs.rep.to fun c hc => by first | (simp; done) | (simp; omega)⟩ (by simp only; omega) ?_
    rintro ⟨z, v⟩ ⟨i, hz, hi, hv⟩
    simp only at hz hv
    subst hz
    unfold strings_makeASCIISet_B0
    simp only
    rw [Tot.ite_iff]
    refine ⟨fun c => ?_, fun c => ?_⟩
    · have c : i < 10 := by have : (i : Int) < 10 := by simpa using c
                            omega
      rw [lat_nat, hd i c, Option.bind_some]
      have e : (UInt8.ofNat (48 + i)).toBitVec.toNat = 48 + i := by
        show (UInt8.ofNat (48 + i)).toNat = _
        simp; omega
      rw [e, show ((128 : BitVec 8).toNat : Int) = 128 from rfl, decide_eq_false (show ¬ ((48 + i : Nat) : Int) ≥ 128 by omega), cond_false, hv.vat (by omega), Option.bind_some, Tot.let_iff, Tot.some_iff, Int.toNat_natCast]
      refine Tot.go_iff.2 ⟨⟨i + 1, by rw [w64_id (by omega) (by omega)]; rfl, by omega, ?_⟩, by simp only; rw [w64_id (by omega) (by omega)]; omega⟩
      refine (hv.set (48 + i) true).to fun c hc => ?_
      by_cases q : c = 48 + i
      · subst q; rw [upd_self]; simp
      · rw [upd_ne q]; congr 1; rw [Bool.eq_iff_iff]; simp; omega
    · have c : ¬ i < 10 := by have : (10 : Int) ≤ i := by simpa using c
                              omega
      have : i = 10 := by omega
      subst this
      rw [Tot.some_iff]
      refine Tot.brk_iff.2 (Tot.inl_iff.2 (Tot.some_iff.2 ⟨rfl, hv.to fun c hc => ?_⟩))
      congr 1; rw [Bool.eq_iff_iff]; simp; omega
  obtain ⟨⟨v, b⟩, e, rfl, h⟩ := key
  exact ⟨v, e, h⟩
theorem contains_isd {v : Vector Bool 256} (hv : VIs v fun c => decide (48 ≤ c) && decide (c ≤ 57)) (c : UInt8) : strings_asciiSet_contains v c.toBitVec = some (isd c) := by
  unfold strings_asciiSet_contains
  have e : c.toBitVec.toNat = c.toNat := rfl
  have := c.toNat_lt
  rw [e, hv.vat (by omega)]; rfl
theorem right_law {v : Vector Bool 256} (hv : VIs v fun c => decide (48 ≤ c) && decide (c ≤ 57)) {t : Str} {fu : Nat} (ht : t.length ≤ 100) (hf : 110 < fu) : Tot (strings_trimRightASCII fu t v) fun r => r.length ≤ t.length ∧ (r = [] ↔ t.all isd = true) ∧ (r ≠ [] → r.all isd = false) := by
  unfold strings_trimRightASCII
  rw [Tot.bind_iff, Tot.andThen_iff]
  refine Tot.whileM (fun z => ∃ d : Str, t = z ++ d ∧ d.all isd = true) (fun z => z.length) ⟨[], by simp, rfl⟩ (by omega) ?_
  rintro z ⟨d, hd, ha⟩
  have hzl : z.length ≤ t.length := by rw [hd]; simp
  unfold strings_trimRightASCII_B0
  rw [Tot.ite_iff]
  refine ⟨fun c => ?_, fun c => ?_⟩
  · have c : 0 < z.length := by simpa using c
    have w : w64 ((z.length : Int) - 1) = ((z.length - 1 : Nat) : Int) := by rw [w64_id (by omega) (by omega)]; omega
    have hx : z[z.length - 1]? = some (z[z.length - 1]'(by omega)) := by simp
    generalize z[z.length - 1]'(by omega) = x at hx
    have hz : z = z.take (z.length - 1) ++ [x] := by
      conv => lhs; rw [← List.take_append_drop (z.length - 1) z]
      rw [drop_at hx, List.drop_of_length_le (by omega)]
    rw [w, lat_nat, hx, Option.bind_some, contains_isd hv, Option.bind_some, Tot.ite_iff]
    refine ⟨fun q => ?_, fun q => ?_⟩
    · have q : isd x = false := by simpa using q
      have hb : z.all isd = false := by rw [hz, List.all_append]; simp [q]
      rw [Tot.some_iff]
      refine Tot.brk_iff.2 (Tot.inl_iff.2 (Tot.some_iff.2 (Tot.some_iff.2 ⟨hzl, ?_, fun _ => hb⟩)))
      constructor
      · intro e; rw [e] at c; simp at c
      · intro e; rw [hd, List.all_append, hb] at e; cases e
    · have q : isd x = true := by simpa using q
      rw [Tot.bind_iff, Tot.cutL_iff]
      refine ⟨by omega, ?_⟩
      rw [Tot.some_iff]
      refine Tot.go_iff.2 ⟨⟨x :: d, ?_, by rw [List.all_cons, q, ha]; rfl⟩, ?_⟩
      · simp only [Int.toNat_zero, List.drop_zero, Nat.sub_zero, Int.toNat_natCast]
        rw [hd]
        conv => lhs; rw [hz]
        simp
      · simp only [List.length_take, List.length_drop]; omega
  · have c : ¬ 0 < z.length := by simpa using c
    have hz : z = [] := List.length_eq_zero_iff.1 (by omega)
    rw [Tot.some_iff]
    refine Tot.brk_iff.2 (Tot.inl_iff.2 (Tot.some_iff.2 (Tot.some_iff.2 ⟨hzl, ⟨fun _ => ?_, fun _ => hz⟩, fun h => absurd hz h⟩)))
    rw [hd, hz]; exact ha
theorem left_law {v : Vector Bool 256} (hv : VIs v fun c => decide (48 ≤ c) && decide (c ≤ 57)) {t : Str} {fu : Nat} (ht : t.length ≤ 100) (hf : 110 < fu) : Tot (strings_trimLeftASCII fu t v) fun r => r = [] ↔ t.all isd = true := by
  unfold strings_trimLeftASCII
  rw [Tot.bind_iff, Tot.andThen_iff]
  refine Tot.whileM (fun z => ∃ d : Str, t = d ++ z ∧ d.all isd = true) (fun z => z.length) ⟨[], by simp, rfl⟩ (by omega) ?_
  rintro z ⟨d, hd, ha⟩
  have hzl : z.length ≤ t.length := by rw [hd]; simp
  unfold strings_trimLeftASCII_B0
  cases z with
  | nil =>
    rw [decide_eq_false (show ¬ ((([] : Str).length : Int) > 0) by simp), cond_false, Tot.some_iff]
    refine Tot.brk_iff.2 (Tot.inl_iff.2 (Tot.some_iff.2 (Tot.some_iff.2 ⟨fun _ => ?_, fun _ => rfl⟩)))
    rw [hd, List.append_nil]; exact ha
  | cons x z =>
    have el : lat (x :: z) (0 : Int) = some x := lat_nat (x :: z) 0
    rw [decide_eq_true (show (((x :: z).length : Int) > 0) by simp only [List.length_cons]; omega), cond_true, el, Option.bind_some, contains_isd hv, Option.bind_some, Tot.ite_iff]
    refine ⟨fun q => ?_, fun q => ?_⟩
    · have q : isd x = false := by simpa using q
      rw [Tot.some_iff]
      refine Tot.brk_iff.2 (Tot.inl_iff.2 (Tot.some_iff.2 (Tot.some_iff.2 ⟨fun h => (by cases h), fun e => ?_⟩)))
      rw [hd, List.all_append, List.all_cons, q, Bool.false_and, Bool.and_false] at e; cases e
    · have q : isd x = true := by simpa using q
      rw [Tot.bind_iff, Tot.cutL_iff]
      refine ⟨by simp only [List.length_cons]; omega, ?_⟩
      rw [Tot.some_iff]
      refine Tot.go_iff.2 ⟨⟨d ++ [x], ?_, by rw [List.all_append, ha]; simp [q]⟩, ?_⟩
      · rw [hd]
        simp
      · simp only [List.length_take, List.length_drop, List.length_cons]; omega
theorem trim_law {t : Str} {fu : Nat} (h1 : 1 ≤ t.length) (ht : t.length ≤ 100) (hf : 110 < fu) : ∃ r, strings_Trim fu t ([48, 49, 50, 51, 52, 53, 54, 55, 56, 57] : Str) = some r ∧ (r = [] ↔ t.all isd = true) := by
  obtain ⟨v, ev, hv⟩ := ascii_law (fu := fu) (by omega)
  obtain ⟨r, er, hr1, hr2, hr3⟩ := right_law hv ht hf
  obtain ⟨q, eq, hq⟩ := left_law hv (t := r) (by omega) hf
  have hne : t ≠ [] := fun e => by rw [e] at h1; simp at h1
  refine ⟨q, ?_, ?_⟩
  · unfold strings_Trim
    have e2 : decide (([48, 49, 50, 51, 52, 53, 54, 55, 56, 57] : Str) = []) = false := rfl
    have e3 : ((([48, 49, 50, 51, 52, 53, 54, 55, 56, 57] : Str).length : Int) == 1) = false := rfl
    rw [decide_eq_false hne, cond_false, e2, Option.bind_some, cond_false, e3, cond_false, Option.bind_some, cond_false, ev, Option.bind_some]
    simp only [cond_true]
    rw [er, Option.bind_some, eq]; rfl
  · rw [hq]
    by_cases e : r = []
    · rw [e]; simp only [List.all_nil, true_iff]; exact hr2.1 e
    · rw [hr3 e]
      constructor
      · intro h; cases h
      · intro h; exact absurd (hr2.2 h) e
theorem sin_eq (a b c : Int) : same_in a b c = some (decide (a ≥ b) && decide (a ≤ c)) := by
  unfold same_in
  rw [and_some, Option.bind_some]
def dash (s : Str) : Bool := match s with | c :: _ => c == 45 | [] => false
theorem has_dash (s : Str) : internal_stringslite_HasPrefix s ([45] : Str) = some (dash s) := by
  unfold internal_stringslite_HasPrefix
  cases s with
  | nil => rfl
  | cons c s =>
    have e : (([45] : Str).length : Int) = 1 := rfl
    have ec : cutL (c :: s) 0 1 = some [c] := by
      unfold cutL; rw [if_pos (by simp only [List.length_cons]; omega)]; rfl
    rw [e, decide_eq_true (show ((c :: s).length : Int) ≥ 1 by simp only [List.length_cons]; omega), cond_true, ec, Option.bind_some, Option.bind_some]
    congr 1
    show decide ([c] = [45]) = (c == 45)
    rw [Bool.eq_iff_iff]; simp
def nodash (s : Str) : Str := bif dash s then s.drop 1 else s
theorem trim_dash (s : Str) : strings_TrimPrefix s ([45] : Str) = some (nodash s) := by
  unfold strings_TrimPrefix internal_stringslite_TrimPrefix nodash
  rw [has_dash, Option.bind_some]
  cases h : dash s with
  | false => rfl
  | true =>
    have e : (([45] : Str).length : Int) = 1 := rfl
    have hl : 1 ≤ s.length := by cases s with
      | nil => cases h
      | cons c s => simp
    have ec : cutL s 1 (s.length : Int) = some (s.drop 1) := by
      unfold cutL
      rw [if_pos (by omega)]
      congr 1
      exact List.take_of_length_le (by simp)
    rw [cond_true, e, ec]; rfl
theorem number_law {s : Str} {fu : Nat} (hs : s.length ≤ 2 ^ 21) (hf : 200 < fu) : ∃ n b, same_number fu s = some (n, b) ∧ partref_numberOf s = some (n, b) ∧ (b = true → -1000000000 < n ∧ n < 1000000000) := by
  have hr : (bif dash s then ((cutL s (1 : Int) (s.length : Int)).bind fun m9 => some (m9, (-1 : Int))) else some (s, (1 : Int))) = some (nodash s, bif dash s then -1 else 1) := by
    unfold nodash
    cases h : dash s with
    | false => rfl
    | true =>
      have hl : 1 ≤ s.length := by cases s with
        | nil => cases h
        | cons c s => simp
      have ec : cutL s 1 (s.length : Int) = some (s.drop 1) := by
        unfold cutL
        rw [if_pos (by omega)]
        congr 1
        exact List.take_of_length_le (by simp)
      rw [cond_true, ec]; rfl
  have hl : (nodash s).length ≤ s.length ∧ s.length ≤ (nodash s).length + 1 := by
    unfold nodash
    cases h : dash s with
    | false => simp
    | true => simp; omega
  unfold same_number partref_numberOf strings_HasPrefix
  rw [trim_dash, Option.bind_some, sin_eq, Option.bind_some, has_dash, Option.bind_some, Option.bind_some, hr, Option.bind_some]
  simp only
  rw [or_some, Option.bind_some]
  generalize ht : nodash s = t at hl
  by_cases hlen : 1 ≤ t.length ∧ t.length ≤ 9
  · have e1 : (decide ((t.length : Int) ≥ 1) && decide ((t.length : Int) ≤ 9)) = true := by simp; omega
    have e2 : (decide ((t.length : Int) < 1) || decide ((t.length : Int) > 9)) = false := by rw [Bool.eq_false_iff]; simp; omega
    obtain ⟨r, er, hr⟩ := trim_law (t := t) (fu := fu) hlen.1 (by omega) (by omega)
    rw [e1, e2, Bool.not_true, cond_false, cond_false, er, Option.bind_some, Option.bind_some, room_ok (by simp; omega), Option.bind_some]
    have hbl : (Str.bytes t).length = t.length := by simp [Str.bytes]
    have rd := ref_digits (t := t) t.length 0 0 0 (by omega) (by omega) (by omega) (by omega) (by omega)
    rw [List.drop_zero] at rd
    rw [hbl, rd]
    cases ha : t.all isd with
    | false =>
      have : r ≠ [] := fun e => by rw [hr.1 e] at ha; cases ha
      rw [decide_eq_false this]
      exact ⟨0, false, rfl, rfl, fun h => by cases h⟩
    | true =>
      rw [decide_eq_true (hr.2 ha)]
      simp only [Bool.not_true, cond_false, cond_true, andThen_inl]
      have cd := code_digits (t := t) t.length 0 0 0 (by omega) (by omega) (by omega) (by omega) (by omega) (by rw [List.drop_zero]; exact ha)
      rw [List.drop_zero] at cd
      have hv := dval_le t 0 0 (by omega) (by omega) ha
      have hp : (10 : Int) ^ (0 + t.length) ≤ 10 ^ 9 := by
        have : (10 : Nat) ^ (0 + t.length) ≤ 10 ^ 9 := Nat.pow_le_pow_right (by omega) (by omega)
        exact_mod_cast this
      generalize hD : dval 0 t = D at cd hv
      have hD9 : 0 ≤ D ∧ D < 1000000000 := by omega
      have key : strconv_Atoi s = some ((bif dash s then -D else D), ()) := by
        unfold strconv_Atoi internal_strconv_Atoi
        have h0 : 0 < s.length := by omega
        obtain ⟨c, s', rfl⟩ : ∃ c s', s = c :: s' := by
          cases s with
          | nil => simp at h0
          | cons c s' => exact ⟨c, s', rfl⟩
        have el : lat (c :: s') (0 : Int) = some c := lat_nat (c :: s') 0
        have ec : c.toBitVec.toNat = c.toNat := rfl
        have e45 : ((c.toBitVec.toNat : Int) == ((45 : BitVec 8).toNat : Int)) = (c == 45) := by
          rw [ec, Bool.eq_iff_iff, beq_iff_eq, beq_iff_eq, show ((45 : BitVec 8).toNat : Int) = 45 from rfl]
          constructor
          · intro h; exact UInt8.toNat_inj.1 (by simp; omega)
          · intro h; rw [h]; rfl
        have e43 : ((c.toBitVec.toNat : Int) == ((43 : BitVec 8).toNat : Int)) = (c == 43) := by
          rw [ec, Bool.eq_iff_iff, beq_iff_eq, beq_iff_eq, show ((43 : BitVec 8).toNat : Int) = 43 from rfl]
          constructor
          · intro h; exact UInt8.toNat_inj.1 (by simp; omega)
          · intro h; rw [h]; rfl
        rw [decide_eq_true (show (0 : Int) < ((c :: s').length : Int) by omega), cond_true, decide_eq_true (show ((c :: s').length : Int) < 19 by omega), Option.bind_some, cond_true, el, Option.bind_some, Option.bind_some, e45, e43, or_some, Option.bind_some]
        have hdash : dash (c :: s') = (c == 45) := rfl
        rw [hdash]
        unfold nodash at ht
        rw [hdash] at ht
        cases h45 : c == 45 with
        | true =>
          rw [h45, cond_true] at ht
          have ht : s' = t := by simpa using ht
          subst ht
          have ecut : cutL (c :: s') 1 ((c :: s').length : Int) = some s' := by
            unfold cutL
            rw [if_pos (by simp only [List.length_cons]; omega)]
            simp
          rw [Bool.true_or, cond_true, ecut, Option.bind_some, decide_eq_false (show ¬ (s'.length : Int) < 1 by omega), cond_false, andThen_inl, room_ok (by simp; omega), Option.bind_some, hbl, cd, andThen_inl, Option.bind_some, e45, h45, cond_true, Option.bind_some, Option.bind_some, w64_id (show -9223372036854775808 ≤ 0 - D by omega) (by omega)]
          simp
        | false =>
          rw [h45, cond_false] at ht
          subst ht
          have h43 : (c == 43) = false := by
            rw [List.all_cons, Bool.and_eq_true, isd_iff] at ha
            rw [Bool.eq_false_iff, ne_eq, beq_iff_eq]
            intro h
            rw [h] at ha
            have : (43 : UInt8).toNat = 43 := rfl
            omega
          rw [h43, Bool.or_self, cond_false, andThen_inl, room_ok (by simp only [List.length_nil]; omega), Option.bind_some, hbl, cd, andThen_inl, Option.bind_some, e45, h45, cond_false, Option.bind_some, Option.bind_some]
          rfl
      rw [key]
      refine ⟨bif dash s then -D else D, true, rfl, ?_, fun _ => ?_⟩
      · congr 2
        cases dash s with
        | true => rw [cond_true, cond_true, w64_id (show -9223372036854775808 ≤ -1 * D by omega) (by omega)]; omega
        | false => rw [cond_false, cond_false, w64_id (show -9223372036854775808 ≤ 1 * D by omega) (by omega)]; omega
      · cases dash s with
        | true => rw [cond_true]; omega
        | false => rw [cond_false]; omega
  · have e1 : (decide ((t.length : Int) ≥ 1) && decide ((t.length : Int) ≤ 9)) = false := by rw [Bool.eq_false_iff]; simp; omega
    have e2 : (decide ((t.length : Int) < 1) || decide ((t.length : Int) > 9)) = true := by simp; omega
    rw [e1, e2]
    exact ⟨0, false, rfl, rfl, fun h => by cases h⟩

/-! ### Commands -/
theorem kinds (x : Str) : ∃ k : Int, idxI (x == ·) ([([115, 101, 116] : Str), ([97, 100, 100] : Str), ([109, 111, 115, 116] : Str), ([99, 111, 112, 121] : Str)] : List Str) = k ∧ -1 ≤ k ∧ k ≤ 3 ∧
    ((k = -1 ∧ idxI (x == ·) ([([] : Str), ([115, 101, 116] : Str), ([97, 100, 100] : Str), ([109, 111, 115, 116] : Str), ([99, 111, 112, 121] : Str)] : List Str) < 1) ∨ (0 ≤ k ∧ idxI (x == ·) ([([] : Str), ([115, 101, 116] : Str), ([97, 100, 100] : Str), ([109, 111, 115, 116] : Str), ([99, 111, 112, 121] : Str)] : List Str) = k + 1)) := by
  by_cases h1 : x = [115, 101, 116]
  · subst h1; exact ⟨0, by decide, by decide, by decide, .inr ⟨by decide, by decide⟩⟩
  by_cases h2 : x = [97, 100, 100]
  · subst h2; exact ⟨1, by decide, by decide, by decide, .inr ⟨by decide, by decide⟩⟩
  by_cases h3 : x = [109, 111, 115, 116]
  · subst h3; exact ⟨2, by decide, by decide, by decide, .inr ⟨by decide, by decide⟩⟩
  by_cases h4 : x = [99, 111, 112, 121]
  · subst h4; exact ⟨3, by decide, by decide, by decide, .inr ⟨by decide, by decide⟩⟩
  refine ⟨-1, idxI_none.2 fun y hy => ?_, by decide, by decide, .inl ⟨rfl, ?_⟩⟩
  · simp only [List.mem_cons, List.not_mem_nil, or_false] at hy
    rcases hy with rfl | rfl | rfl | rfl <;> simp [*]
  · by_cases h0 : x = []
    · subst h0; decide
    · have : idxI (x == ·) ([([] : Str), ([115, 101, 116] : Str), ([97, 100, 100] : Str), ([109, 111, 115, 116] : Str), ([99, 111, 112, 121] : Str)] : List Str) = -1 := idxI_none.2 fun y hy => by
        simp only [List.mem_cons, List.not_mem_nil, or_false] at hy
        rcases hy with rfl | rfl | rfl | rfl | rfl <;> simp [*]
      rw [this]; decide
structure GoodC (c : Cmd) : Prop where
  k1 : 1 ≤ c.Kind
  k4 : c.Kind ≤ 4
  key0 : 0 ≤ c.Key
  key9 : c.Key ≤ 9
  n1 : -1000000000 < c.N
  n2 : c.N < 1000000000
  copy : c.Kind = 4 → 0 ≤ c.N ∧ c.N ≤ 9
theorem read_law {s : Str} {fu : Nat} (hs : s.length ≤ 2 ^ 21) (hf : s.length + 300 < fu) : ∃ c e, same_Read fu s = some (c, e) ∧ partref_ReadCmd fu s = some (c, e) ∧ (e = 0 → GoodC c) := by
  obtain ⟨l, el, hl⟩ := split_law (fu := fu) hs (by omega)
  unfold same_Read partref_ReadCmd
  rw [el, Option.bind_some, Option.bind_some]
  by_cases h3 : l.length = 3
  · have e3 : ((l.length : Int) != 3) = false := by rw [h3]; rfl
    rw [e3, cond_false, cond_false]
    obtain ⟨a, b, c, rfl⟩ : ∃ a b c, l = [a, b, c] := by
      match l, h3 with
      | [a, b, c], _ => exact ⟨a, b, c, rfl⟩
    have l0 : lat [a, b, c] (0 : Int) = some a := lat_nat [a, b, c] 0
    have l1 : lat [a, b, c] (1 : Int) = some b := lat_nat [a, b, c] 1
    have l2 : lat [a, b, c] (2 : Int) = some c := lat_nat [a, b, c] 2
    obtain ⟨n1, b1, m1, m2, m3⟩ := number_law (s := b) (fu := fu) (by have := hl b (by simp); omega) (by omega)
    obtain ⟨n2, b2, p1, p2, p3⟩ := number_law (s := c) (fu := fu) (by have := hl c (by simp); omega) (by omega)
    obtain ⟨k, k1, k2, k3, k4⟩ := kinds a
    rw [l0, l1, l2]
    simp only [Option.bind_some]
    rw [eq_slices_Index_string_string, eq_slices_Index_string_string, k1]
    simp only [Option.bind_some]
    rw [m1, m2]
    simp only [Option.bind_some]
    rw [p1, p2]
    simp only [Option.bind_some, or_some, sin_eq]
    have wk : w64 (k + 1) = k + 1 := w64_id (by omega) (by omega)
    rw [wk]
    rcases k4 with ⟨rfl, hk⟩ | ⟨hk0, hk⟩
    · rw [show ((-1 : Int) + 1 == 0) = true from rfl, decide_eq_true hk]
      exact ⟨Cmd.zero, 12, rfl, rfl, fun h => by cases h⟩
    · rw [hk]
      have e1 : (k + 1 == 0) = false := by simp; omega
      have e2 : decide (k + 1 < 1) = false := by simp; omega
      rw [e1, e2]
      cases b1 with
      | false => exact ⟨Cmd.zero, 12, rfl, rfl, fun h => by cases h⟩
      | true =>
        cases b2 with
        | false => exact ⟨Cmd.zero, 12, rfl, rfl, fun h => by cases h⟩
        | true =>
          have hn1 := m3 rfl
          have hn2 := p3 rfl
          simp only [Bool.not_true, Bool.or_self, cond_false]
          have e4 : (decide (n1 < 0) || decide (n1 > 9)) = !(decide (n1 ≥ 0) && decide (n1 ≤ 9)) := by rw [Bool.eq_iff_iff]; simp <;> omega
          have e5 : (decide (n2 < 0) || decide (n2 > 9)) = !(decide (n2 ≥ 0) && decide (n2 ≤ 9)) := by rw [Bool.eq_iff_iff]; simp <;> omega
          rw [e4, e5]
          cases hkey : decide (n1 ≥ 0) && decide (n1 ≤ 9) with
          | false => exact ⟨Cmd.zero, 1, rfl, rfl, fun h => by cases h⟩
          | true =>
            have hkey' : 0 ≤ n1 ∧ n1 ≤ 9 := by simpa using hkey
            simp only [Bool.not_true, cond_false]
            cases hc : (k + 1 == 4) with
            | false =>
              have hc' : k + 1 ≠ 4 := by simpa using hc
              exact ⟨⟨k + 1, n1, n2⟩, 0, rfl, rfl, fun _ => ⟨by show 1 ≤ k + 1; omega, by show k + 1 ≤ 4; omega, hkey'.1, hkey'.2, hn2.1, hn2.2, fun h => absurd h hc'⟩⟩
            | true =>
              cases hn : decide (n2 ≥ 0) && decide (n2 ≤ 9) with
              | false => exact ⟨Cmd.zero, 1, rfl, rfl, fun h => by cases h⟩
              | true =>
                have hn' : 0 ≤ n2 ∧ n2 ≤ 9 := by simpa using hn
                exact ⟨⟨k + 1, n1, n2⟩, 0, rfl, rfl, fun _ => ⟨by show 1 ≤ k + 1; omega, by show k + 1 ≤ 4; omega, hkey'.1, hkey'.2, hn2.1, hn2.2, fun _ => hn'⟩⟩
  · have e3 : ((l.length : Int) != 3) = true := by simp; omega
    rw [e3]
    exact ⟨Cmd.zero, 12, rfl, rfl, fun h => by cases h⟩
theorem clamp_eq (x : Int) : same_clamp x = some (min (max x (-1000000000)) 1000000000) := rfl
theorem near_eq (x : Int) : partref_RunCmds_1 x = some (min (max x (-1000000000)) 1000000000) := by
  unfold partref_RunCmds_1
  by_cases h1 : x > 1000000000
  · rw [decide_eq_true h1, cond_true]; congr 1; omega
  · rw [decide_eq_false h1, cond_false]
    by_cases h2 : x < -1000000000
    · rw [decide_eq_true h2, cond_true]; congr 1; omega
    · rw [decide_eq_false h2, cond_false]; congr 1; omega
theorem step_law {c : Cmd} (h : GoodC c) (v : Vector Int 10) : ∃ w, same_run v c = some w ∧ ((partref_RunCmds_1 c.N).bind fun r20 =>
    (bif c.Kind == (2 : Int) then ((vat v c.Key).bind fun x27 => (partref_RunCmds_1 (w64 ((max (-1099511627776 : Int) (min x27 (1099511627776 : Int))) + r20))).bind fun r30 => some r30) else
    bif c.Kind == (3 : Int) then ((vat v c.Key).bind fun x35 => some (max r20 x35)) else
    bif c.Kind == (4 : Int) then ((vat v c.N).bind fun x39 => some x39) else some r20).bind fun y24 =>
    (vat v c.Key).bind fun x44 => Let (v.setIfInBounds c.Key.toNat y24) fun p47 => some p47) = some w := by
  obtain ⟨k, key, n⟩ := c
  obtain ⟨h1, h2, h3, h4, h5, h6, h7⟩ := h
  simp only at h1 h2 h3 h4 h5 h6 h7
  obtain ⟨x, hx⟩ := vat_in v h3 (show key < (10 : Nat) by omega)
  unfold same_run
  simp only [hx, Option.bind_some, clamp_eq, near_eq, Let]
  by_cases e1 : k = 1
  · subst e1
    exact ⟨_, rfl, rfl⟩
  by_cases e2 : k = 2
  · subst e2
    refine ⟨_, rfl, ?_⟩
    simp only [show ((2 : Int) == 1) = false from rfl, show ((2 : Int) == 2) = true from rfl, cond_true, cond_false, Option.bind_some]
    congr 2
    rw [w64_id (show -9223372036854775808 ≤ max (-1099511627776 : Int) (min x 1099511627776) + min (max n (-1000000000)) 1000000000 by omega) (by omega), w64_id (show -9223372036854775808 ≤ min (max x (-4000000000)) 4000000000 + min (max n (-1000000000)) 1000000000 by omega) (by omega)]
    omega
  by_cases e3 : k = 3
  · subst e3
    refine ⟨_, rfl, ?_⟩
    simp only [show ((3 : Int) == 1) = false from rfl, show ((3 : Int) == 2) = false from rfl, show ((3 : Int) == 3) = true from rfl, cond_true, cond_false, Option.bind_some]
    congr 2
    omega
  have e4 : k = 4 := by omega
  subst e4
  have h8 := h7 rfl
  obtain ⟨y, hy⟩ := vat_in v h8.1 (show n < (10 : Nat) by omega)
  simp only [hy, Option.bind_some, show ((4 : Int) == 1) = false from rfl, show ((4 : Int) == 2) = false from rfl, show ((4 : Int) == 3) = false from rfl, show ((4 : Int) == 4) = true from rfl, cond_true, cond_false]
  exact ⟨_, rfl, rfl⟩
theorem run_law {v : Vector Int 10} {l : List Str} {fu : Nat} (hl : ∀ s ∈ l, s.length ≤ 2 ^ 21) (hf : 2 ^ 21 + 400 < fu) : ∃ r, same_Run fu v l = some r ∧ partref_RunCmds fu v l = some r := by
  obtain ⟨e, r, er, _⟩ := rangeF_two (f := same_Run_B0 fu l) (g := partref_RunCmds_B0 fu l) (fun _ _ => True) l.length 0 ((0 : Int), v) trivial (by
    rintro j ⟨n, z⟩ _ hj _
    have hj : j < l.length := by omega
    have hx : l[j]? = some l[j] := by simp [hj]
    have hm := hl _ (List.mem_of_getElem? hx)
    generalize l[j] = s at hx hm
    obtain ⟨c, e, h1, h2, h3⟩ := read_law (fu := fu) hm (by omega)
    unfold same_Run_B0 partref_RunCmds_B0
    simp only [lat_nat, hx, Option.bind_some, h1, h2]
    by_cases h0 : e = 0
    · subst h0
      obtain ⟨w, w1, w2⟩ := step_law (h3 rfl) z
      simp only [bne_self_eq_false, cond_false, w1, Option.bind_some]
      have : ((partref_RunCmds_1 c.N).bind fun r20 =>
          (bif c.Kind == (2 : Int) then ((vat z c.Key).bind fun x27 => (partref_RunCmds_1 (w64 ((max (-1099511627776 : Int) (min x27 (1099511627776 : Int))) + r20))).bind fun r30 => some r30) else
          bif c.Kind == (3 : Int) then ((vat z c.Key).bind fun x35 => some (max r20 x35)) else
          bif c.Kind == (4 : Int) then ((vat z c.N).bind fun x39 => some x39) else some r20).bind fun y24 =>
          (vat z c.Key).bind fun x44 => Let (z.setIfInBounds c.Key.toNat y24) fun p47 => some (n, p47)) = some (n, w) := by
        revert w2
        simp only [near_eq, Option.bind_some, Let]
        cases (bif c.Kind == (2 : Int) then ((vat z c.Key).bind fun x27 => some (min (max (w64 (max (-1099511627776) (min x27 1099511627776) + min (max c.N (-1000000000)) 1000000000)) (-1000000000)) 1000000000)) else
          bif c.Kind == (3 : Int) then ((vat z c.Key).bind fun x35 => some (max (min (max c.N (-1000000000)) 1000000000) x35)) else
          bif c.Kind == (4 : Int) then ((vat z c.N).bind fun x39 => some x39) else some (min (max c.N (-1000000000)) 1000000000)) with
        | none => intro h; cases h
        | some y =>
          simp only [Option.bind_some]
          cases vat z c.Key with
          | none => intro h; cases h
          | some x => simp only [Option.bind_some]; intro h; rw [Option.some.inj h]
      exact ⟨this.symm, _, this, trivial⟩
    · have hne : (e != 0) = true := by simpa using h0
      rw [hne]
      exact ⟨rfl, _, rfl, trivial⟩)
  unfold same_Run partref_RunCmds
  rw [e, er]
  exact ⟨_, rfl, rfl⟩
end Go.Proofs.YtchmclllcdknjaaGreatDoor
