/-
  Numbers and colons: what strconv.Itoa writes, strconv.Atoi reads; strings.Cut at a colon.
-/
import Derived.Test.YtchmclllcdknjaaGreatDoorTnLaneCode
namespace Go.Proofs.YtchmclllcdknjaaGreatDoor
open Enc

def isd (c : UInt8) : Bool := decide (48 ≤ c.toNat) && decide (c.toNat ≤ 57)
theorem isd_iff {c : UInt8} : isd c = true ↔ 48 ≤ c.toNat ∧ c.toNat ≤ 57 := by unfold isd; simp
def dval : Int → Str → Int
  | z, [] => z
  | z, c :: t => dval (z * 10 + c.toNat - 48) t
theorem dval_le : ∀ (t : Str) (z : Int) (k : Nat), 0 ≤ z → z < 10 ^ k → t.all isd = true → 0 ≤ dval z t ∧ dval z t < 10 ^ (k + t.length)
  | [], z, k, h0, h1, _ => ⟨h0, h1⟩
  | c :: t, z, k, h0, h1, h => by
    rw [List.all_cons, Bool.and_eq_true, isd_iff] at h
    have hk : (10 : Int) ^ (k + 1) = 10 ^ k * 10 := by rw [Int.pow_succ]
    have := dval_le t (z * 10 + c.toNat - 48) (k + 1) (by omega) (by rw [hk]; omega) h.2
    rw [show k + 1 + t.length = k + (c :: t).length by simp; omega] at this
    exact this
theorem bytes_at {t : Str} {i : Nat} {c : UInt8} (h : t[i]? = some c) : lat (Str.bytes t) (i : Int) = some c.toBitVec := by
  rw [lat_nat]; unfold Str.bytes; rw [List.getElem?_map, h]; rfl
theorem drop_at {α : Type} {t : List α} {i : Nat} {c : α} (h : t[i]? = some c) : t.drop i = c :: t.drop (i + 1) := by
  obtain ⟨h1, rfl⟩ := List.getElem?_eq_some_iff.1 h
  exact List.drop_eq_getElem_cons h1
theorem sub48 {c : UInt8} (h : isd c = true) : ((c.toBitVec - (48 : BitVec 8)).toNat : Int) = (c.toNat : Int) - 48 := by
  have h := isd_iff.1 h
  have e : c.toBitVec.toNat = c.toNat := rfl
  rw [BitVec.toNat_sub, e]
  have := c.toNat_lt
  have e2 : (48 : BitVec 8).toNat = 48 := rfl
  rw [e2]
  omega
theorem code_digits {t : Str} : ∀ (k i : Nat) (z : Int) (b : Nat), i + k = t.length → i ≤ b → 0 ≤ z → z < 10 ^ b → b + k ≤ 12 → (t.drop i).all isd = true →
    rangeM (internal_strconv_Atoi_B0 t) k i z = some (.inl (dval z (t.drop i)))
  | 0, i, z, b, h, _, _, _, _, _ => by
    rw [List.drop_of_length_le (by omega)]; rfl
  | k + 1, i, z, b, h, hb, h0, h1, h2, ha => by
    have hi : i < t.length := by omega
    have hx : t[i]? = some t[i] := by simp [hi]
    generalize t[i] = c at hx
    rw [drop_at hx, List.all_cons, Bool.and_eq_true] at ha
    rw [drop_at hx]
    have hz : (10 : Int) ^ b ≤ 10 ^ 11 := by
      have : (10 : Nat) ^ b ≤ 10 ^ 11 := Nat.pow_le_pow_right (by omega) (by omega)
      exact_mod_cast this
    have hz2 : (10 : Int) ^ (b + 1) = 10 ^ b * 10 := by rw [Int.pow_succ]
    unfold rangeM internal_strconv_Atoi_B0
    rw [bytes_at hx, Option.bind_some, sub48 ha.1, show ((9 : BitVec 8).toNat : Int) = 9 from rfl]
    have hd' := isd_iff.1 ha.1
    rw [decide_eq_false (show ¬ (c.toNat : Int) - 48 > 9 by omega), cond_false, w64_id (show -9223372036854775808 ≤ z * 10 by omega) (by omega), w64_id (show -9223372036854775808 ≤ z * 10 + ((c.toNat : Int) - 48) by omega) (by omega)]
    rw [show z * 10 + ((c.toNat : Int) - 48) = z * 10 + (c.toNat : Int) - 48 by omega]
    exact code_digits k (i + 1) _ (b + 1) (by omega) (by omega) (by omega) (by rw [hz2]; omega) (by omega) ha.2


theorem atoi_law {s : Str} (h1 : 1 ≤ s.length) (h2 : s.length ≤ 9) (ha : s.all isd = true) : strconv_Atoi s = some (dval 0 s, ()) := by
  obtain ⟨c, s', rfl⟩ : ∃ c s', s = c :: s' := by
    cases s with
    | nil => simp at h1
    | cons c s' => exact ⟨c, s', rfl⟩
  have hc : isd c = true := by rw [List.all_cons, Bool.and_eq_true] at ha; exact ha.1
  have hc' := isd_iff.1 hc
  have ec : c.toBitVec.toNat = c.toNat := rfl
  have el : lat (c :: s') (0 : Int) = some c := lat_nat (c :: s') 0
  have e45 : ((c.toBitVec.toNat : Int) == ((45 : BitVec 8).toNat : Int)) = false := by
    rw [ec, show ((45 : BitVec 8).toNat : Int) = 45 from rfl]; simp; omega
  have e43 : ((c.toBitVec.toNat : Int) == ((43 : BitVec 8).toNat : Int)) = false := by
    rw [ec, show ((43 : BitVec 8).toNat : Int) = 43 from rfl]; simp; omega
  have hbl : (Str.bytes (c :: s')).length = (c :: s').length := by simp [Str.bytes]
  have cd := code_digits (t := c :: s') (c :: s').length 0 0 0 (by omega) (by omega) (by omega) (by omega) (by omega) (by simpa using ha)
  rw [List.drop_zero] at cd
  unfold strconv_Atoi internal_strconv_Atoi
  rw [decide_eq_true (show (0 : Int) < ((c :: s').length : Int) by omega), cond_true, decide_eq_true (show ((c :: s').length : Int) < 19 by omega), Option.bind_some, cond_true, el, Option.bind_some, e45, cond_false, Option.bind_some, e43, Option.bind_some, cond_false, andThen_inl, room_ok (by simp only [List.length_nil]; omega), Option.bind_some, hbl, cd, andThen_inl, Option.bind_some, e45, cond_false, Option.bind_some, Option.bind_some]
theorem dval_app : ∀ (a b : Str) (z : Int), dval z (a ++ b) = dval (dval z a) b
  | [], b, z => rfl
  | c :: a, b, z => by rw [List.cons_append]; exact dval_app a b _
theorem dig_isd {u : Nat} (h : u < 10) : isd (UInt8.ofNat (48 + u)) = true := by
  rw [isd_iff]; simp; omega
theorem dig_val {u : Nat} (h : u < 10) : ((UInt8.ofNat (48 + u)).toNat : Int) = 48 + u := by simp; omega
theorem dec_spec : ∀ (k n : Nat), n < 10 ^ k → 1 ≤ k → 1 ≤ (Lib.decDigits n).length ∧ (Lib.decDigits n).length ≤ k ∧ (Lib.decDigits n).all isd = true ∧ dval 0 (Lib.decDigits n) = n
  | 0, n, h, hk => by omega
  | k + 1, n, h, hk => by
    rw [Lib.decDigits]
    split
    · rename_i hn
      refine ⟨by simp, by simp, ?_, ?_⟩
      · rw [List.all_cons, dig_isd hn]; rfl
      · show 0 * 10 + ((UInt8.ofNat (48 + n)).toNat : Int) - 48 = n
        rw [dig_val hn]; omega
    · rename_i hn
      have hk0 : 1 ≤ k := by
        rcases Nat.eq_zero_or_pos k with e | e
        · subst e; simp at h; omega
        · exact e
      obtain ⟨a1, a2, a3, a4⟩ := dec_spec k (n / 10) (by rw [Nat.pow_succ] at h; omega) hk0
      have hd : n % 10 < 10 := Nat.mod_lt _ (by omega)
      refine ⟨by rw [List.length_append]; simp, by rw [List.length_append]; simp only [List.length_cons, List.length_nil]; omega, ?_, ?_⟩
      · rw [List.all_append, a3, List.all_cons, dig_isd hd]; rfl
      · rw [dval_app, a4]
        show ((n / 10 : Nat) : Int) * 10 + ((UInt8.ofNat (48 + n % 10)).toNat : Int) - 48 = n
        rw [dig_val hd]; omega
def itS (n : Int) : Str := Lib.itoa n
theorem itoa_law {n : Int} (h0 : 0 ≤ n) (h1 : n < 1000000000) : strconv_Itoa n = some (itS n) ∧ 1 ≤ (itS n).length ∧ (itS n).length ≤ 9 ∧ (itS n).all isd = true ∧ strconv_Atoi (itS n) = some (n, ()) := by
  obtain ⟨m, rfl⟩ := int_nat h0
  have e : itS (m : Int) = Lib.decDigits m := by unfold itS Lib.itoa; rw [if_neg (by omega)]; simp
  obtain ⟨a1, a2, a3, a4⟩ := dec_spec 9 m (by omega) (by omega)
  refine ⟨?_, by rw [e]; exact a1, by rw [e]; exact a2, by rw [e]; exact a3, ?_⟩
  · unfold strconv_Itoa itoaR
    rw [if_pos (by omega)]; rfl
  · rw [e, atoi_law a1 a2 a3, a4]
theorem idx_at : ∀ (d t : Str), d.all isd = true → Lib.indexByte (d ++ 58 :: t) 58 = (d.length : Int)
  | [], t, _ => by
    show Lib.indexByte (58 :: t) 58 = 0
    unfold Lib.indexByte; rw [if_pos (by decide)]
  | c :: d, t, h => by
    rw [List.all_cons, Bool.and_eq_true] at h
    have hc := isd_iff.1 h.1
    have hne : ¬ (c == 58) = true := fun q => by
      have : c = 58 := by simpa using q
      subst this
      have : (58 : UInt8).toNat = 58 := rfl
      omega
    have ih := idx_at d t h.2
    rw [List.cons_append]
    unfold Lib.indexByte
    rw [if_neg hne, ih]
    have h2 : ¬ ((d.length : Int) == -1) = true := fun q => by have := beq_iff_eq.1 q; omega
    rw [if_neg h2, List.length_cons]
    omega
theorem cut_law {d t : Str} (h1 : 1 ≤ d.length) (hd : d.all isd = true) (hl : (d ++ 58 :: t).length ≤ 2 ^ 40) : strings_Cut (d ++ 58 :: t) ([58] : Str) = some (d, t, true) := by
  have hne : ¬ (([58] : Str) = d ++ 58 :: t) := fun q => by
    have := congrArg List.length q
    simp at this
    omega
  have e1 : ((([58] : Str).length : Int) == 0) = false := rfl
  have e2 : ((([58] : Str).length : Int) == 1) = true := rfl
  have e3 : lat ([58] : Str) 0 = some 58 := rfl
  have hi : sIdx (d ++ 58 :: t) ((58 : UInt8).toBitVec) = (d.length : Int) := idx_at d t hd
  have hl' : (d ++ 58 :: t).length = d.length + 1 + t.length := by simp; omega
  have ex : internal_stringslite_Index (d ++ 58 :: t) ([58] : Str) = some (d.length : Int) := by
    unfold internal_stringslite_Index internal_stringslite_IndexByte
    rw [e1, cond_false, Option.bind_some, decide_eq_false hne, cond_false, e2, cond_true, e3, Option.bind_some, Option.bind_some, hi]
  have c1 : cutL (d ++ 58 :: t) 0 (d.length : Int) = some d := by
    unfold cutL; rw [if_pos (by omega)]
    simp
  have c2 : cutL (d ++ 58 :: t) ((d.length + 1 : Nat) : Int) ((d ++ 58 :: t).length : Int) = some t := by
    unfold cutL; rw [if_pos (by omega)]
    simp only [Int.toNat_natCast]
    rw [hl', show d ++ 58 :: t = (d ++ [58]) ++ t by simp, List.drop_left' (by simp), List.take_of_length_le (by omega)]
  have e4 : (([58] : Str).length : Int) = 1 := rfl
  unfold strings_Cut internal_stringslite_Cut
  rw [ex, Option.bind_some, decide_eq_true (show (d.length : Int) ≥ 0 by omega), cond_true, c1, Option.bind_some, e4, w64_id (show -9223372036854775808 ≤ (d.length : Int) + 1 by omega) (by omega), show (d.length : Int) + 1 = ((d.length + 1 : Nat) : Int) by rfl, c2, Option.bind_some, Option.bind_some]
end Go.Proofs.YtchmclllcdknjaaGreatDoor
