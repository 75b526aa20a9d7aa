/-
  WireSays: the plain law.
-/
import Derived.Test.YtobikknjaomalaaWiLib
namespace Go.Proofs.Ytobikknjaomalaa
open Enc

/- ## the check -/
theorem win_eq (a b c : Int) : wire_in a b c = some (decide (a ≥ b) && decide (a ≤ c)) := by
  unfold wire_in; simp only [cond_some, Option.bind_some, Bool.cond_false_right]
def inR (x : Int) : Bool := decide (x ≥ 0) && decide (x ≤ 16777215)
theorem any_eq (l : List Int) : slices_ContainsFunc_int_int_Check_2 l = some (l.any fun x => !inR x) := by
  unfold slices_ContainsFunc_int_int_Check_2
  have : slices_IndexFunc_int_int_Check_2 l = some (idxI (fun x => !inR x) l) := by
    unfold slices_IndexFunc_int_int_Check_2
    refine index_loop _ fun j x hx => ?_
    unfold slices_IndexFunc_int_int_Check_2_B0 wire_Check_2 wire_Check_1
    rw [lat_nat, hx, Option.bind_some, win_eq]
    simp only [Option.bind_some]
    unfold inR
    cases (!(decide (x ≥ 0) && decide (x ≤ 16777215))) <;> rfl
  rw [this, Option.bind_some]
  congr 1
  rw [Bool.eq_iff_iff, List.any_eq_true, decide_eq_true_eq]
  rcases idxI_cases (fun x : Int => !inR x) l with ⟨h, h1⟩ | ⟨i, y, h, h1, h2, _⟩
  · rw [h]
    exact ⟨fun k => by omega, fun ⟨x, hx, k⟩ => by have := h1 x hx; rw [this] at k; cases k⟩
  · rw [h]
    exact ⟨fun _ => ⟨y, List.mem_of_getElem? h1, h2⟩, fun _ => by omega⟩
theorem cons_drop {l : List Int} (h : 1 ≤ l.length) : l = l[0] :: l.drop 1 := by
  cases l with
  | nil => simp at h
  | cons a l => rfl
theorem min_eq (l : List Int) {fu : Nat} (h1 : 1 ≤ l.length) (h2 : l.length ≤ 10) (hf : 20 ≤ fu) : ∃ r, slices_Min_int_int fu l = some r ∧ (0 ≤ r ↔ ∀ x ∈ l, 0 ≤ x) := by
  unfold slices_Min_int_int
  rw [show decide ((l.length : Int) < 1) = false from decide_eq_false (by omega), cond_false, show (0 : Int) = ((0 : Nat) : Int) from rfl, lat_nat, List.getElem?_eq_getElem (by omega), Option.bind_some]
  obtain ⟨r, j, e, h3⟩ := min_loop (l := l) (body := slices_Min_int_int_B0 l) (by omega) (fun m i => rfl) fu 1 l[0] (by omega) (by omega)
  rw [show (1 : Int) = ((1 : Nat) : Int) from rfl, e]
  refine ⟨r, rfl, ?_⟩
  rw [h3]
  have e0 := cons_drop h1
  constructor
  · rintro ⟨a, b⟩ x hx
    rw [e0] at hx
    rcases List.mem_cons.1 hx with rfl | hx
    · exact a
    · exact b x hx
  · intro h
    exact ⟨h _ (List.getElem_mem _), fun x hx => h x (List.mem_of_mem_drop hx)⟩
theorem max_eq (l : List Int) {fu : Nat} (h1 : 1 ≤ l.length) (h2 : l.length ≤ 10) (hf : 20 ≤ fu) : ∃ r, slices_Max_int_int fu l = some r ∧ ∀ c, r ≤ c ↔ ∀ x ∈ l, x ≤ c := by
  unfold slices_Max_int_int
  rw [show decide ((l.length : Int) < 1) = false from decide_eq_false (by omega), cond_false, show (0 : Int) = ((0 : Nat) : Int) from rfl, lat_nat, List.getElem?_eq_getElem (by omega), Option.bind_some]
  obtain ⟨r, j, e, h3, _⟩ := max_loop (l := l) (body := slices_Max_int_int_B0 l) (by omega) (fun m i => rfl) fu 1 l[0] (by omega) (by omega)
  rw [show (1 : Int) = ((1 : Nat) : Int) from rfl, e]
  refine ⟨r, rfl, fun c => ?_⟩
  rw [h3]
  have e0 := cons_drop h1
  constructor
  · rintro ⟨a, b⟩ x hx
    rw [e0] at hx
    rcases List.mem_cons.1 hx with rfl | hx
    · exact a
    · exact b x hx
  · intro h
    exact ⟨h _ (List.getElem_mem _), fun x hx => h x (List.mem_of_mem_drop hx)⟩
structure NoteOk (t : Note) : Prop where
  kind : 0 ≤ t.Kind ∧ t.Kind ≤ 255
  from_ : 0 ≤ t.From ∧ t.From ≤ 5
  to : 0 ≤ t.To ∧ t.To ≤ 5
  view : 0 ≤ t.View ∧ t.View ≤ 16777215
  seq : 0 ≤ t.Seq ∧ t.Seq ≤ 16777215
  at_ : ∀ x ∈ t.At.toList, 0 ≤ x ∧ x ≤ 16777215
  text : t.Text.length ≤ 200
theorem check_val (t : Note) : wire_Check t = some (bif (!(decide (t.Kind ≥ 0) && decide (t.Kind ≤ 255)) || !(decide (t.From ≥ 0) && decide (t.From ≤ 5)) || !(decide (t.To ≥ 0) && decide (t.To ≤ 5)) || !inR t.View || !inR t.Seq) then 1 else bif t.At.toList.any (fun x => !inR x) then 1 else bif decide ((t.Text.length : Int) > 200) then 2 else 0) := by
  unfold wire_Check wire_Check_1
  simp only [win_eq, any_eq, cond_some, Option.bind_some, Bool.cond_true_left]
  rfl
theorem check_eq (t : Note) {fu : Nat} (hf : 20 ≤ fu) : partref_NoteErr fu t = wire_Check t := by
  obtain ⟨r, e1, h1⟩ := min_eq t.At.toList (fu := fu) (by simp) (by simp) hf
  obtain ⟨m, e2, h2⟩ := max_eq t.At.toList (fu := fu) (by simp) (by simp) hf
  rw [check_val]
  unfold partref_NoteErr
  rw [e1, e2]
  simp only [cond_some, Option.bind_some, Bool.cond_true_left]
  have a1 : (decide (t.Kind < 0) || decide (t.Kind > 255) || decide (min (min (min t.From t.To) t.View) t.Seq < 0) || decide (max t.From t.To > 5) || decide (max t.View t.Seq > 16777215)) = (!(decide (t.Kind ≥ 0) && decide (t.Kind ≤ 255)) || !(decide (t.From ≥ 0) && decide (t.From ≤ 5)) || !(decide (t.To ≥ 0) && decide (t.To ≤ 5)) || !inR t.View || !inR t.Seq) := by
    unfold inR
    rw [Bool.eq_iff_iff]
    simp only [Bool.or_eq_true, decide_eq_true_eq, Bool.not_eq_true', Bool.and_eq_false_iff, decide_eq_false_iff_not]
    omega
  have a2 : (decide (r < 0) || decide (m > 16777215)) = t.At.toList.any (fun x => !inR x) := by
    rw [Bool.eq_iff_iff, List.any_eq_true]
    simp only [Bool.or_eq_true, decide_eq_true_eq]
    have h3 := h2 16777215
    constructor
    · intro h
      refine Classical.byContradiction fun hn => ?_
      have hall : ∀ x ∈ t.At.toList, 0 ≤ x ∧ x ≤ 16777215 := fun x hx => by
        have : ¬ (!inR x) = true := fun k => hn ⟨x, hx, k⟩
        unfold inR at this
        simp at this
        exact this
      have b1 := h1.2 fun x hx => (hall x hx).1
      have b2 := h3.2 fun x hx => (hall x hx).2
      omega
    · rintro ⟨x, hx, k⟩
      refine Classical.byContradiction fun hn => ?_
      have b1 := h1.1 (by omega) x hx
      have b2 := h3.1 (by omega) x hx
      unfold inR at k
      simp [b1, b2] at k
  rw [a1, a2]
theorem check_law (t : Note) : ∃ c, wire_Check t = some c ∧ (c = 0 ↔ NoteOk t) := by
  rw [check_val]
  refine ⟨_, rfl, ?_⟩
  cases h1 : (!(decide (t.Kind ≥ 0) && decide (t.Kind ≤ 255)) || !(decide (t.From ≥ 0) && decide (t.From ≤ 5)) || !(decide (t.To ≥ 0) && decide (t.To ≤ 5)) || !inR t.View || !inR t.Seq) with
  | true =>
    refine ⟨fun h => (by cases h), fun h => ?_⟩
    obtain ⟨k1, k2, k3, k4, k5, _, _⟩ := h
    unfold inR at h1
    simp [k1, k2, k3, k4, k5] at h1
  | false =>
    cases h2 : t.At.toList.any (fun x => !inR x) with
    | true =>
      refine ⟨fun h => (by cases h), fun h => ?_⟩
      obtain ⟨x, hx, k⟩ := List.any_eq_true.1 h2
      have := h.at_ x hx
      unfold inR at k
      simp [this] at k
    | false =>
      cases h3 : decide ((t.Text.length : Int) > 200) with
      | true =>
        refine ⟨fun h => (by cases h), fun h => ?_⟩
        have := of_decide_eq_true h3
        have := h.text
        omega
      | false =>
        refine ⟨fun _ => ?_, fun _ => rfl⟩
        have h3' := of_decide_eq_false h3
        unfold inR at h1
        simp only [Bool.or_eq_false_iff, Bool.not_eq_false', Bool.and_eq_true, decide_eq_true_eq] at h1
        refine ⟨by omega, by omega, by omega, by omega, by omega, fun x hx => ?_, by omega⟩
        have := List.any_eq_false.1 h2 x hx
        unfold inR at this
        simp at this
        exact this

/- ## the sum -/
def poly32 : BitVec 32 := 2197175160
def stp (z : BitVec 32) (odd : Bool) : BitVec 32 := bif odd then (z >>> 1) ^^^ poly32 else z >>> 1
def refst (b : BitVec 32) : Nat → BitVec 32 → BitVec 32
  | 0, r => r
  | k + 1, r => stp (refst b k r) ((refst b k r).getLsbD 0 != b.getLsbD k)
def byteW (c : UInt8) (z : BitVec 32) : BitVec 32 := refst (BitVec.ofNat 32 c.toBitVec.toNat) 8 z
theorem and_one {z : BitVec 32} : (((z &&& (1 : BitVec 32)).toNat : Int) == ((1 : BitVec 32).toNat : Int)) = z.getLsbD 0 := by
  rw [u_beq, Bool.eq_iff_iff, beq_iff_eq]
  constructor
  · intro h
    have : (z &&& 1).getLsbD 0 = (1 : BitVec 32).getLsbD 0 := by rw [h]
    simpa using this
  · intro h
    apply BitVec.eq_of_getLsbD_eq
    intro i hi
    by_cases e : i = 0
    · subst e; simp [h]
    · have : (1 : BitVec 32).getLsbD i = false := by
        show (1#32).getLsbD i = false
        rw [BitVec.getLsbD_one]; simp [e]
      rw [BitVec.getLsbD_and, this]; simp
theorem wire_steps (b z : BitVec 32) : ∀ k i w, w = refst b i z ^^^ (b >>> i) → rangeF wire_Sum_B2 k i w = some (refst b (i + k) z ^^^ (b >>> (i + k)))
  | 0, i, w, h => by rw [h]; rfl
  | k + 1, i, w, h => by
    unfold rangeF
    have e : wire_Sum_B2 i w = some (refst b (i + 1) z ^^^ (b >>> (i + 1))) := by
      unfold wire_Sum_B2
      rw [and_one]
      have h0 : w.getLsbD 0 = ((refst b i z).getLsbD 0 != b.getLsbD i) := by
        rw [h, BitVec.getLsbD_xor, BitVec.getLsbD_ushiftRight]; simp
      have h1 : w >>> 1 = ((refst b i z) >>> 1) ^^^ (b >>> (i + 1)) := by
        rw [h, BitVec.ushiftRight_xor_distrib, BitVec.shiftRight_add]
      rw [h0, h1]
      have h2 : refst b (i + 1) z = stp (refst b i z) ((refst b i z).getLsbD 0 != b.getLsbD i) := rfl
      rw [h2]
      unfold stp poly32
      cases ((refst b i z).getLsbD 0 != b.getLsbD i) with
      | true =>
        simp only [cond_true]
        congr 1
        rw [BitVec.xor_assoc, BitVec.xor_assoc, BitVec.xor_comm (b >>> (i + 1))]
      | false => rfl
    rw [e]
    have := wire_steps b z k (i + 1) _ rfl
    rw [Option.bind_some, this, show i + 1 + k = i + (k + 1) by omega]
theorem half64 (r : BitVec 32) : (r.setWidth 64) / (2 : BitVec 64) = (r >>> 1).setWidth 64 := by
  apply BitVec.eq_of_toNat_eq
  have h1 : (2 : BitVec 64).toNat = 2 := rfl
  have h2 := r.isLt
  simp only [BitVec.toNat_udiv, BitVec.toNat_setWidth, BitVec.toNat_ushiftRight, Nat.shiftRight_eq_div_pow, h1]
  rw [Nat.mod_eq_of_lt (by omega), Nat.mod_eq_of_lt (by omega)]
theorem poly64 (r : BitVec 32) : (r.setWidth 64) ^^^ (2197175160 : BitVec 64) = (r ^^^ poly32).setWidth 64 := by
  rw [BitVec.setWidth_xor]; rfl
theorem rem_bit (x : BitVec 64) : (x % (2 : BitVec 64)).toNat = (x.getLsbD 0).toNat := by
  have h1 : (2 : BitVec 64).toNat = 2 := rfl
  rw [BitVec.toNat_umod, h1, BitVec.getLsbD, Nat.testBit_zero]
  rcases Nat.mod_two_eq_zero_or_one x.toNat with h | h <;> simp [h]
theorem ref_steps (s : Str) (j : Nat) (c : UInt8) (hc : lat s (j : Int) = some c) (z : BitVec 32) : ∀ k i, i + k ≤ 8 → rangeF (partref_Sum_B2 s j) k i ((refst (BitVec.ofNat 32 c.toBitVec.toNat) i z).setWidth 64) = some ((refst (BitVec.ofNat 32 c.toBitVec.toNat) (i + k) z).setWidth 64)
  | 0, i, _ => rfl
  | k + 1, i, hik => by
    unfold rangeF
    have e : partref_Sum_B2 s j i ((refst (BitVec.ofNat 32 c.toBitVec.toNat) i z).setWidth 64) = some ((refst (BitVec.ofNat 32 c.toBitVec.toNat) (i + 1) z).setWidth 64) := by
      unfold partref_Sum_B2
      have hcnt : cnt (i : Int) = some i := by unfold cnt; rw [if_pos (by omega)]; rfl
      rw [hc, Option.bind_some, hcnt, Option.bind_some, rem_bit, rem_bit, half64, poly64]
      have h0 : ((refst (BitVec.ofNat 32 c.toBitVec.toNat) i z).setWidth 64).getLsbD 0 = (refst (BitVec.ofNat 32 c.toBitVec.toNat) i z).getLsbD 0 := by rw [BitVec.getLsbD_setWidth]; simp
      have h1 : (BitVec.ofInt 64 (c.toBitVec.toNat : Int) >>> i).getLsbD 0 = (BitVec.ofNat 32 c.toBitVec.toNat).getLsbD i := by
        have hlt := c.toBitVec.isLt
        rw [BitVec.getLsbD_ushiftRight, Nat.add_zero, BitVec.ofInt_natCast, BitVec.getLsbD_ofNat, BitVec.getLsbD_ofNat]
        have a1 : i < 64 := by omega
        have a2 : i < 32 := by omega
        simp [a1, a2]
      rw [h0, h1]
      have h2 : refst (BitVec.ofNat 32 c.toBitVec.toNat) (i + 1) z = stp (refst (BitVec.ofNat 32 c.toBitVec.toNat) i z) ((refst (BitVec.ofNat 32 c.toBitVec.toNat) i z).getLsbD 0 != (BitVec.ofNat 32 c.toBitVec.toNat).getLsbD i) := rfl
      rw [h2]
      unfold stp
      cases (refst (BitVec.ofNat 32 c.toBitVec.toNat) i z).getLsbD 0 <;> cases (BitVec.ofNat 32 c.toBitVec.toNat).getLsbD i <;> rfl
    rw [e, Option.bind_some, ref_steps s j c hc z k (i + 1) (by omega), show i + 1 + k = i + (k + 1) by omega]
theorem wire_byte (s : Str) (j : Nat) (c : UInt8) (hc : lat s (j : Int) = some c) (z : BitVec 32) : wire_Sum_B0 s j z = some (byteW c z) := by
  unfold wire_Sum_B0
  rw [hc, Option.bind_some, BitVec.ofInt_natCast, wire_steps (BitVec.ofNat 32 c.toBitVec.toNat) z 8 0 _ (by simp [refst])]
  have : (BitVec.ofNat 32 c.toBitVec.toNat) >>> (0 + 8) = (0 : BitVec 32) := by
    apply BitVec.eq_of_toNat_eq
    have hlt := c.toBitVec.isLt
    rw [BitVec.toNat_ushiftRight, BitVec.toNat_ofNat, Nat.shiftRight_eq_div_pow, Nat.mod_eq_of_lt (by omega)]
    have : (0 : BitVec 32).toNat = 0 := rfl
    rw [this]; omega
  rw [this]
  simp [byteW]
theorem ref_byte (s : Str) (j : Nat) (c : UInt8) (hc : lat s (j : Int) = some c) (z : BitVec 32) : partref_Sum_B0 s j (z.setWidth 64) = some ((byteW c z).setWidth 64) := by
  unfold partref_Sum_B0
  have := ref_steps s j c hc z 8 0 (by omega)
  rw [show refst (BitVec.ofNat 32 c.toBitVec.toNat) 0 z = z from rfl] at this
  rw [this]
  rfl
theorem sum_two (s : Str) : ∀ k i z, i + k ≤ s.length → ∃ z', rangeF (wire_Sum_B0 s) k i z = some z' ∧ rangeF (partref_Sum_B0 s) k i (z.setWidth 64) = some (z'.setWidth 64)
  | 0, i, z, _ => ⟨z, rfl, rfl⟩
  | k + 1, i, z, h => by
    have hc : lat s (i : Int) = some s[i] := by rw [lat_nat]; simp [show i < s.length by omega]
    obtain ⟨z', h1, h2⟩ := sum_two s k (i + 1) (byteW s[i] z) (by omega)
    refine ⟨z', ?_, ?_⟩
    · unfold rangeF; rw [wire_byte s i _ hc, Option.bind_some, h1]
    · unfold rangeF; rw [ref_byte s i _ hc, Option.bind_some, h2]
theorem sum_law (s : Str) (h : s.length ≤ 2 ^ 63 - 1) : ∃ r, wire_Sum s = some r ∧ partref_Sum s = some r := by
  obtain ⟨z, h1, h2⟩ := sum_two s s.length 0 (4294967295 : BitVec 32) (by omega)
  unfold wire_Sum partref_Sum
  rw [upTo_ok (by omega), Option.bind_some, Option.bind_some, Int.toNat_natCast, h1, show (4294967295 : BitVec 64) = (4294967295 : BitVec 32).setWidth 64 from rfl, h2]
  refine ⟨_, rfl, ?_⟩
  refine congrArg some ?_
  rw [BitVec.ofInt_natCast]
  apply BitVec.eq_of_toNat_eq
  have hz := z.isLt
  have e1 : (4294967295 : BitVec 32) ^^^ z = ~~~z := by
    apply BitVec.eq_of_getLsbD_eq
    intro i hi
    have : (4294967295 : BitVec 32) = BitVec.allOnes 32 := rfl
    rw [this, BitVec.getLsbD_xor, BitVec.getLsbD_not, BitVec.getLsbD_allOnes]
    simp [hi]
  have e2 : ((4294967295 : BitVec 32).setWidth 64).toNat = 4294967295 := rfl
  rw [e1, BitVec.toNat_not, BitVec.toNat_ofNat, BitVec.toNat_sub, e2, BitVec.toNat_setWidth]
  generalize z.toNat = n at hz
  rw [Nat.mod_eq_of_lt (a := n) (by omega)]
  have e3 : 2 ^ 64 - n + 4294967295 = 2 ^ 64 + (4294967295 - n) := by omega
  rw [e3, Nat.add_mod_left, Nat.mod_eq_of_lt (a := 4294967295 - n) (by omega), Nat.mod_eq_of_lt (by omega)]
/- ## the text -/
def b3 (n : Nat) : List (BitVec 8) := [BitVec.ofNat 8 n, BitVec.ofNat 8 (n / 256), BitVec.ofNat 8 (n / 65536)]
def b4 (r : BitVec 32) : List (BitVec 8) := b3 r.toNat ++ [BitVec.ofNat 8 (r.toNat / 16777216)]
theorem of8 (n : Nat) : BitVec.ofInt 8 (n : Int) = BitVec.ofNat 8 n := BitVec.ofInt_natCast 8 n
theorem mod8 (n : Nat) : BitVec.ofNat 8 (n % 256) = BitVec.ofNat 8 n := by
  apply BitVec.eq_of_toNat_eq
  rw [BitVec.toNat_ofNat, BitVec.toNat_ofNat]
  omega
theorem three_eq (n : Nat) : wire_three (n : Int) = some (b3 n) := by
  unfold wire_three b3
  have h1 : ((n : Int)).fdiv (2 ^ (min 8 64)) = ((n / 256 : Nat) : Int) := by
    rw [Int.fdiv_eq_ediv_of_nonneg _ (by decide)]; rfl
  have h2 : ((n : Int)).fdiv (2 ^ (min 16 64)) = ((n / 65536 : Nat) : Int) := by
    rw [Int.fdiv_eq_ediv_of_nonneg _ (by decide)]; rfl
  rw [h1, h2, of8, of8, of8]
theorem tdivN (n m : Nat) : ((n : Int)).tdiv (m : Int) = ((n / m : Nat) : Int) := by
  rw [Int.tdiv_eq_ediv_of_nonneg (by omega)]; rfl
theorem tmodN (n m : Nat) : ((n : Int)).tmod (m : Int) = ((n % m : Nat) : Int) := by
  rw [Int.tmod_eq_emod_of_nonneg (by omega)]; rfl
theorem ref_three {n : Nat} (h : n < 16777216) : ([BitVec.ofInt 8 ((n : Int).tmod (256 : Int) : Int), BitVec.ofInt 8 ((w64 ((n : Int).tdiv (256 : Int))).tmod (256 : Int) : Int), BitVec.ofInt 8 (w64 ((n : Int).tdiv (65536 : Int)))] : List (BitVec 8)) = b3 n := by
  have c1 : (256 : Int) = ((256 : Nat) : Int) := rfl
  have c2 : (65536 : Int) = ((65536 : Nat) : Int) := rfl
  rw [c1, c2, tdivN, tdivN, w64_id (by omega) (by omega), w64_id (by omega) (by omega), tmodN, tmodN, of8, of8, of8, mod8, mod8]
  rfl
theorem four_eq (r : BitVec 32) : wire_four r = some (b4 r) := by
  unfold wire_four
  rw [three_eq, Option.bind_some, room_ok (by simp [b3]), Option.bind_some, of8, BitVec.toNat_ushiftRight, Nat.shiftRight_eq_div_pow]
  rfl
theorem ref_four (r : BitVec 32) : ([BitVec.ofInt 8 ((r % (256 : BitVec 32)).toNat : Int), BitVec.ofInt 8 (((r / (256 : BitVec 32)) % (256 : BitVec 32)).toNat : Int), BitVec.ofInt 8 (((r / (65536 : BitVec 32)) % (256 : BitVec 32)).toNat : Int), BitVec.ofInt 8 ((r / (16777216 : BitVec 32)).toNat : Int)] : List (BitVec 8)) = b4 r := by
  have c1 : (256 : BitVec 32).toNat = 256 := rfl
  have c2 : (65536 : BitVec 32).toNat = 65536 := rfl
  have c3 : (16777216 : BitVec 32).toNat = 16777216 := rfl
  rw [of8, of8, of8, of8]
  simp only [BitVec.toNat_umod, BitVec.toNat_udiv, c1, c2, c3, mod8]
  rfl
theorem pack_loop {l : List Int} (hl : ∀ x ∈ l, 0 ≤ x ∧ x ≤ 16777215) (hn : l.length ≤ 100) (z0 : List (BitVec 8)) (hz : z0.length ≤ 10) : ∃ z, rangeF (wire_Pack_B0 l) l.length 0 z0 = some z ∧ rangeF (partref_NoteText_B0 l) l.length 0 z0 = some z ∧ z.length ≤ 1000 := by
  obtain ⟨e, z, h1, h2⟩ := rangeF_two (f := partref_NoteText_B0 l) (g := wire_Pack_B0 l) (fun i z => z.length ≤ 10 + 3 * i) l.length 0 z0 hz (by
    intro i z _ hi hz
    have hi' : i < l.length := by omega
    obtain ⟨h1, h2⟩ := hl _ (List.getElem_mem hi')
    obtain ⟨n, hn'⟩ := int_nat h1
    have hx : lat l (i : Int) = some (n : Int) := by rw [lat_nat, List.getElem?_eq_getElem hi', hn']
    unfold partref_NoteText_B0 wire_Pack_B0
    rw [hx, Option.bind_some, Option.bind_some, three_eq, Option.bind_some, ref_three (by omega)]
    have hb : (b3 n).length = 3 := rfl
    rw [room_ok (by rw [hb]; omega)]
    exact ⟨rfl, _, rfl, by rw [List.length_append, hb]; omega⟩)
  exact ⟨z, h1, e.trans h1, by omega⟩
theorem ofBytes_append (l m : List (BitVec 8)) : Str.ofBytes (l ++ m) = Str.ofBytes l ++ Str.ofBytes m := by simp [Str.ofBytes]
theorem ofBytes_bytes (s : Str) : Str.ofBytes (Str.bytes s) = s := by
  unfold Str.ofBytes Str.bytes
  rw [List.map_map, show (UInt8.ofBitVec ∘ UInt8.toBitVec) = id from rfl, List.map_id]
theorem bytes_len (s : Str) : (Str.bytes s).length = s.length := by simp [Str.bytes]
theorem ofBytes_len (l : List (BitVec 8)) : (Str.ofBytes l).length = l.length := by simp [Str.ofBytes]
theorem pack_law {t : Note} (h : NoteOk t) (hc : wire_Check t = some 0) : ∃ s, wire_Pack t = some (s, 0) ∧ partref_NoteText t = some s := by
  have hat : t.At.toList.length = 6 := by simp
  have hlen : ([t.View, t.Seq] ++ t.At.toList).length = 8 := by simp
  have hr : ∀ x ∈ ([t.View, t.Seq] ++ t.At.toList), 0 ≤ x ∧ x ≤ 16777215 := by
    intro x hx
    rcases List.mem_append.1 hx with hx | hx
    · rcases List.mem_cons.1 hx with rfl | hx
      · exact h.view
      · rw [List.mem_singleton] at hx; subst hx; exact h.seq
    · exact h.at_ x hx
  obtain ⟨z, e1, e2, hz⟩ := pack_loop hr (by omega) [BitVec.ofInt 8 t.Kind, BitVec.ofInt 8 t.From, BitVec.ofInt 8 t.To] (by simp)
  have ht := h.text
  have hbl := bytes_len t.Text
  obtain ⟨r, s1, s2⟩ := sum_law (Str.ofBytes z ++ t.Text) (by rw [List.length_append, ofBytes_len]; omega)
  have hb4 : (b4 r).length = 4 := rfl
  refine ⟨Str.ofBytes z ++ t.Text ++ Str.ofBytes (b4 r), ?_, ?_⟩
  · unfold wire_Pack
    rw [hc, Option.bind_some, show ((0 : Int) != 0) = false from rfl, cond_false, room_ok (by rw [hat]; simp), Option.bind_some, Let_eq, upTo_ok (by omega), Option.bind_some, Int.toNat_natCast, e1, Option.bind_some, room_ok (by omega), Option.bind_some,
      ofBytes_append, ofBytes_bytes, s1, Option.bind_some, four_eq, Option.bind_some, room_ok (by rw [List.length_append, hb4]; omega), Option.bind_some, ofBytes_append, ofBytes_append, ofBytes_bytes]
  · unfold partref_NoteText
    rw [eq_slices_Concat_int_int (by rw [hat]; simp), Option.bind_some, Let_eq, upTo_ok (by omega), Option.bind_some, Int.toNat_natCast, e2, Option.bind_some, room_ok (by rw [ofBytes_len]; omega), Option.bind_some, s2, Option.bind_some, ref_four, room_ok (by rw [List.length_append, ofBytes_len, ofBytes_len, hb4]; omega), Option.bind_some]
/- ## reading -/
def byt (s : Str) (i : Nat) : Nat := (s[i]?.getD 0).toBitVec.toNat
theorem byt_lt (s : Str) (i : Nat) : byt s i < 256 := (s[i]?.getD 0).toBitVec.isLt
theorem lat_byt {s : Str} {i : Nat} (h : i < s.length) : ∃ c : UInt8, lat s (i : Int) = some c ∧ c.toBitVec.toNat = byt s i := ⟨s[i], by rw [lat_nat, List.getElem?_eq_getElem h], by simp [byt, h]⟩
def v3 (s : Str) (b : Nat) : Nat := byt s b + 256 * byt s (b + 1) + 65536 * byt s (b + 2)
theorem v3_lt (s : Str) (b : Nat) : v3 s b < 16777216 := by
  have h1 := byt_lt s b
  have h2 := byt_lt s (b + 1)
  have h3 := byt_lt s (b + 2)
  unfold v3; omega
theorem or_add {p q k : Nat} (hp : p < 2 ^ k) : p ||| (q * 2 ^ k) = p + q * 2 ^ k := by
  have h := Nat.shiftLeft_add_eq_or_of_lt hp q
  rw [Nat.shiftLeft_eq] at h
  rw [Nat.or_comm, ← h, Nat.add_comm]
theorem ofI (n : Nat) (h : n < 2 ^ 63) : (BitVec.ofInt 64 (n : Int)).toNat = n := by
  rw [BitVec.ofInt_natCast, BitVec.toNat_ofNat, Nat.mod_eq_of_lt (by omega)]
theorem rd3 {p q r : Nat} (hp : p < 256) (hq : q < 256) (hr : r < 256) : w64 ((BitVec.ofInt 64 (w64 ((BitVec.ofInt 64 (p : Int) ||| BitVec.ofInt 64 (w64 ((q : Int) * 2 ^ (min 8 64)))).toNat : Int)) ||| BitVec.ofInt 64 (w64 ((r : Int) * 2 ^ (min 16 64)))).toNat : Int) = ((p + 256 * q + 65536 * r : Nat) : Int) := by
  have c1 : ((q : Int) * 2 ^ (min 8 64)) = ((q * 2 ^ 8 : Nat) : Int) := by
    rw [Int.natCast_mul]; rfl
  have c2 : ((r : Int) * 2 ^ (min 16 64)) = ((r * 2 ^ 16 : Nat) : Int) := by
    rw [Int.natCast_mul]; rfl
  rw [c1, c2, w64_id (x := ((q * 2 ^ 8 : Nat) : Int)) (by omega) (by omega), w64_id (x := ((r * 2 ^ 16 : Nat) : Int)) (by omega) (by omega)]
  rw [BitVec.toNat_or, BitVec.toNat_or, ofI p (by omega), ofI (q * 2 ^ 8) (by omega), or_add (k := 8) (by omega), w64_id (x := ((p + q * 2 ^ 8 : Nat) : Int)) (by omega) (by omega), ofI _ (by omega), ofI (r * 2 ^ 16) (by omega), or_add (k := 16) (by omega), w64_id (by omega) (by omega)]
  omega
theorem wire_read1 {s : Str} {k : Nat} (hs : s.length ≤ 1000) (h : 3 * k + 5 < s.length) : wire_Read_1 (k : Int) s = some ((v3 s (3 + 3 * k) : Nat) : Int) := by
  have e1 : w64 ((3 : Int) * (k : Int)) = ((3 * k : Nat) : Int) := by rw [w64_id (by omega) (by omega)]; omega
  have e2 : w64 ((3 : Int) + ((3 * k : Nat) : Int)) = ((3 + 3 * k : Nat) : Int) := by rw [w64_id (by omega) (by omega)]; omega
  have e3 : w64 (((3 + 3 * k : Nat) : Int) + 1) = ((3 + 3 * k + 1 : Nat) : Int) := by rw [w64_id (by omega) (by omega)]; omega
  have e4 : w64 (((3 + 3 * k : Nat) : Int) + 2) = ((3 + 3 * k + 2 : Nat) : Int) := by rw [w64_id (by omega) (by omega)]; omega
  obtain ⟨c1, h1, g1⟩ := lat_byt (s := s) (i := 3 + 3 * k) (by omega)
  obtain ⟨c2, h2, g2⟩ := lat_byt (s := s) (i := 3 + 3 * k + 1) (by omega)
  obtain ⟨c3, h3, g3⟩ := lat_byt (s := s) (i := 3 + 3 * k + 2) (by omega)
  unfold wire_Read_1
  rw [e1, e2, e3, e4, h1, h2, h3]
  simp only [Option.bind_some]
  rw [g1, g2, g3, rd3 (byt_lt _ _) (byt_lt _ _) (byt_lt _ _)]
  rfl
theorem ref_read1 {s : Str} {b : Nat} (hs : s.length ≤ 1000) (h : b + 2 < s.length) : partref_NoteRead_1 (b : Int) s = some ((v3 s b : Nat) : Int) := by
  have e3 : w64 ((b : Int) + 1) = ((b + 1 : Nat) : Int) := by rw [w64_id (by omega) (by omega)]; omega
  have e4 : w64 ((b : Int) + 2) = ((b + 2 : Nat) : Int) := by rw [w64_id (by omega) (by omega)]; omega
  obtain ⟨c1, h1, g1⟩ := lat_byt (s := s) (i := b) (by omega)
  obtain ⟨c2, h2, g2⟩ := lat_byt (s := s) (i := b + 1) (by omega)
  obtain ⟨c3, h3, g3⟩ := lat_byt (s := s) (i := b + 2) (by omega)
  unfold partref_NoteRead_1
  rw [e3, e4, h1, h2, h3]
  simp only [Option.bind_some]
  have b1 := byt_lt s b
  have b2 := byt_lt s (b + 1)
  have b3 := byt_lt s (b + 2)
  rw [g1, g2, g3, w64_id (x := (256 : Int) * _) (by omega) (by omega), w64_id (x := (65536 : Int) * _) (by omega) (by omega), w64_id (x := ((byt s b : Nat) : Int) + _) (by omega) (by omega), w64_id (by omega) (by omega)]
  unfold v3
  congr 1
theorem byt_take {a : Str} {n i : Nat} (h : i < n) : byt (a.take n) i = byt a i := by
  unfold byt; rw [List.getElem?_take_of_lt h]
theorem v3_take {a : Str} {n b : Nat} (h : b + 2 < n) : v3 (a.take n) b = v3 a b := by
  unfold v3; rw [byt_take (by omega), byt_take (by omega), byt_take (by omega)]
theorem at_loop {a m : Str} {L : Nat} (hL : a.length = L) (h1 : 31 ≤ L) (h2 : L ≤ 231) (hm : m = a.take (L - 4)) {z : Note} : ∃ Y, rangeF (wire_Read_B1 m) 6 0 z = some Y ∧ rangeF (partref_NoteRead_B0 a) 6 0 z = some Y ∧ Y.Kind = z.Kind ∧ Y.From = z.From ∧ Y.To = z.To ∧ Y.View = z.View ∧ Y.Seq = z.Seq ∧ Y.Text = z.Text ∧ ∀ x ∈ Y.At.toList, 0 ≤ x ∧ x ≤ 16777215 := by
  have hml : m.length = L - 4 := by rw [hm]; simp; omega
  obtain ⟨e, Y, q1, q2, q3, q4, q5, q6, q7, q8⟩ := rangeF_two (f := wire_Read_B1 m) (g := partref_NoteRead_B0 a) (fun i y => y.Kind = z.Kind ∧ y.From = z.From ∧ y.To = z.To ∧ y.View = z.View ∧ y.Seq = z.Seq ∧ y.Text = z.Text ∧ ∀ (j : Nat) (hj : j < 6), j < i → 0 ≤ y.At[j] ∧ y.At[j] ≤ 16777215) 6 0 z ⟨rfl, rfl, rfl, rfl, rfl, rfl, fun j _ h => by omega⟩ (by
    rintro i y _ hi ⟨q2, q3, q4, q5, q6, q7, q8⟩
    have hi' : i < 6 := by omega
    have e1 : w64 ((2 : Int) + (i : Int)) = ((2 + i : Nat) : Int) := by rw [w64_id (by omega) (by omega)]; omega
    have e2 : w64 ((3 : Int) * (i : Int)) = ((3 * i : Nat) : Int) := by rw [w64_id (by omega) (by omega)]; omega
    have e3 : w64 ((9 : Int) + ((3 * i : Nat) : Int)) = ((9 + 3 * i : Nat) : Int) := by rw [w64_id (by omega) (by omega)]; omega
    unfold wire_Read_B1 partref_NoteRead_B0
    rw [e1, e2, e3, wire_read1 (by omega) (by omega), ref_read1 (by omega) (by omega), Option.bind_some, Option.bind_some, vat_lt _ hi', Option.bind_some, Option.bind_some, Let_eq, Let_eq]
    have e4 : v3 m (3 + 3 * (2 + i)) = v3 a (9 + 3 * i) := by rw [hm, v3_take (by omega), show 3 + 3 * (2 + i) = 9 + 3 * i by omega]
    rw [e4]
    have hv := v3_lt a (9 + 3 * i)
    refine ⟨rfl, _, rfl, q2, q3, q4, q5, q6, q7, fun j hj hji => ?_⟩
    simp only [Int.toNat_natCast]
    by_cases k : j = i
    · subst k
      simp
      omega
    · rw [Vector.getElem_setIfInBounds_ne hj (fun e => k e.symm)]
      exact q8 j hj (by omega))
  refine ⟨Y, e.trans q1, q1, q2, q3, q4, q5, q6, q7, fun x hx => ?_⟩
  obtain ⟨j, hj⟩ := List.getElem?_of_mem hx
  have hjl := (List.getElem?_eq_some_iff.1 hj).1
  have hj6 : j < 6 := by simpa using hjl
  have e2 := (List.getElem?_eq_some_iff.1 hj).2
  rw [← e2]
  simpa using q8 j hj6 (by omega)
theorem sum_bytes {a : Str} {L : Nat} (hL : a.length = L) (h1 : 31 ≤ L) (h2 : L ≤ 231) (r : BitVec 32) : Tot (rangeM (partref_NoteRead_B2 a r) 4 0 ()) fun o => match o with
    | .inl _ => Str.ofBytes (b4 r) = (a.drop (L - 4)).take 4
    | .inr t => t = (Note.zero, 5) ∧ Str.ofBytes (b4 r) ≠ (a.drop (L - 4)).take 4 := by
  have hb : ∀ i, i < 4 → (Str.ofBytes (b4 r))[i]? = some (UInt8.ofBitVec (BitVec.ofNat 8 (r.toNat / 2 ^ (8 * i)))) := by
    intro i hi
    have : i = 0 ∨ i = 1 ∨ i = 2 ∨ i = 3 := by omega
    rcases this with rfl | rfl | rfl | rfl <;> simp [Str.ofBytes, b4, b3]
  have hlen : (Str.ofBytes (b4 r)).length = 4 := rfl
  have hd : ∀ i, i < 4 → ((a.drop (L - 4)).take 4)[i]? = a[L - 4 + i]? := fun i hi => by
    rw [List.getElem?_take_of_lt hi, List.getElem?_drop]
  have hstep : ∀ i, i < 4 → partref_NoteRead_B2 a r i () = some (bif decide ((Str.ofBytes (b4 r))[i]? = ((a.drop (L - 4)).take 4)[i]?) then .go () else .ret (Note.zero, 5)) := by
    intro i hi
    have e0 : w64 ((a.length : Int) - 4) = ((L - 4 : Nat) : Int) := by rw [w64_id (by omega) (by omega)]; omega
    have e1 : w64 (((L - 4 : Nat) : Int) + (i : Int)) = ((L - 4 + i : Nat) : Int) := by rw [w64_id (by omega) (by omega)]; omega
    have e2 : w64 ((8 : Int) * (i : Int)) = ((8 * i : Nat) : Int) := by rw [w64_id (by omega) (by omega)]; omega
    have hcnt : cnt ((8 * i : Nat) : Int) = some (8 * i) := by unfold cnt; rw [if_pos (by omega)]; rfl
    have hlt : L - 4 + i < a.length := by omega
    have hx : lat a ((L - 4 + i : Nat) : Int) = some a[L - 4 + i] := by rw [lat_nat, List.getElem?_eq_getElem hlt]
    unfold partref_NoteRead_B2
    rw [e0, e1, e2, hx, Option.bind_some, hcnt, Option.bind_some, u_bne, hb i hi, hd i hi, List.getElem?_eq_getElem hlt]
    generalize a[L - 4 + i] = c
    have hc := c.toBitVec.isLt
    have key : (BitVec.ofInt 32 (c.toBitVec.toNat : Int) != ((r >>> (8 * i)) &&& (255 : BitVec 32))) = !decide (some (UInt8.ofBitVec (BitVec.ofNat 8 (r.toNat / 2 ^ (8 * i)))) = some c) := by
      rw [Bool.eq_iff_iff, bne_iff_ne, Bool.not_eq_true', decide_eq_false_iff_not, ne_eq, Option.some.injEq]
      refine not_congr ?_
      rw [← BitVec.toNat_inj, BitVec.ofInt_natCast, BitVec.toNat_ofNat, BitVec.toNat_and, BitVec.toNat_ushiftRight, Nat.shiftRight_eq_div_pow, show (255 : BitVec 32).toNat = 2 ^ 8 - 1 from rfl, Nat.and_two_pow_sub_one_eq_mod, Nat.mod_eq_of_lt (a := c.toBitVec.toNat) (by omega)]
      constructor
      · intro h
        apply UInt8.toBitVec_inj.1
        apply BitVec.eq_of_toNat_eq
        show (BitVec.ofNat 8 _).toNat = _
        rw [BitVec.toNat_ofNat, h]
      · intro h
        rw [← h]
        show (BitVec.ofNat 8 _).toNat = _
        rw [BitVec.toNat_ofNat]
    rw [key]
    cases decide (some (UInt8.ofBitVec (BitVec.ofNat 8 (r.toNat / 2 ^ (8 * i)))) = some c) <;> rfl
  refine Tot.rangeM (fun i _ => ∀ j, j < i → (Str.ofBytes (b4 r))[j]? = ((a.drop (L - 4)).take 4)[j]?) (fun j h => by omega) ?_ ?_
  · intro i _ _ hi hI
    rw [hstep i (by omega)]
    by_cases e : (Str.ofBytes (b4 r))[i]? = ((a.drop (L - 4)).take 4)[i]?
    · rw [decide_eq_true e]
      refine Tot.some_iff.2 fun j hj => ?_
      by_cases k : j = i
      · subst k; exact e
      · exact hI j (by omega)
    · rw [decide_eq_false e]
      exact Tot.some_iff.2 ⟨rfl, fun h => e (by rw [h])⟩
  · intro _ hI
    rw [Nat.zero_add] at hI
    show Str.ofBytes (b4 r) = (a.drop (L - 4)).take 4
    apply List.ext_getElem?
    intro j
    by_cases hj : j < 4
    · exact hI j hj
    · rw [List.getElem?_eq_none (by omega), List.getElem?_eq_none (by simp; omega)]
theorem read_law (a : Str) : ∃ q, wire_Read a = some q ∧ partref_NoteRead a = some q := by
  unfold wire_Read partref_NoteRead
  cases hA : decide ((a.length : Int) > 231) with
  | true => exact ⟨_, rfl, rfl⟩
  | false =>
  cases hB : decide ((a.length : Int) < 31) with
  | true => exact ⟨_, rfl, rfl⟩
  | false =>
  have h2 : a.length ≤ 231 := by have := of_decide_eq_false hA; omega
  have h1 : 31 ≤ a.length := by have := of_decide_eq_false hB; omega
  obtain ⟨L, hL⟩ : ∃ L, a.length = L := ⟨_, rfl⟩
  rw [hL] at h1 h2
  have e0 : w64 ((L : Int) - 4) = ((L - 4 : Nat) : Int) := by rw [w64_id (by omega) (by omega)]; omega
  have c1 : cutL a 0 ((L - 4 : Nat) : Int) = some (a.take (L - 4)) := by unfold cutL; rw [if_pos (by omega)]; rfl
  have c2 : cutL a ((L - 4 : Nat) : Int) (L : Int) = some ((a.drop (L - 4)).take 4) := by
    unfold cutL; rw [if_pos (by omega)]
    simp only [Int.toNat_natCast]
    rw [show L - (L - 4) = 4 by omega]
  obtain ⟨m, hm⟩ : ∃ m, m = a.take (L - 4) := ⟨_, rfl⟩
  have hml : m.length = L - 4 := by rw [hm]; simp; omega
  have c3 : cutL a (27 : Int) ((L - 4 : Nat) : Int) = some ((a.take (L - 4)).drop 27) := by
    unfold cutL; rw [if_pos (by omega)]
    rw [List.drop_take]; rfl
  have c4 : cutL m (27 : Int) (m.length : Int) = some ((a.take (L - 4)).drop 27) := by
    unfold cutL; rw [if_pos (by omega)]
    rw [← hm]
    congr 1
    exact List.take_of_length_le (by simp)
  obtain ⟨r, s1, s2⟩ := sum_law m (by omega)
  obtain ⟨x0, f0, g0⟩ := lat_byt (s := m) (i := 0) (by omega)
  obtain ⟨x1, f1, g1⟩ := lat_byt (s := m) (i := 1) (by omega)
  obtain ⟨x2, f2, g2⟩ := lat_byt (s := m) (i := 2) (by omega)
  obtain ⟨y0, k0, l0⟩ := lat_byt (s := a) (i := 0) (by omega)
  obtain ⟨y1, k1, l1⟩ := lat_byt (s := a) (i := 1) (by omega)
  obtain ⟨y2, k2, l2⟩ := lat_byt (s := a) (i := 2) (by omega)
  rw [hm, byt_take (by omega)] at g0 g1 g2
  rw [← hm] at c1
  have r1 := wire_read1 (s := m) (k := 0) (by omega) (by omega)
  have r2 := wire_read1 (s := m) (k := 1) (by omega) (by omega)
  have r3 := ref_read1 (s := a) (b := 3) (by omega) (by omega)
  have r4 := ref_read1 (s := a) (b := 6) (by omega) (by omega)
  have v1 : v3 m (3 + 3 * 0) = v3 a 3 := by rw [hm, v3_take (by omega)]
  have v2 : v3 m (3 + 3 * 1) = v3 a 6 := by rw [hm, v3_take (by omega)]
  rw [v1] at r1
  rw [v2] at r2
  obtain ⟨Y, q1, q2, q3, q4, q5, q6, q7, q8, q9⟩ := at_loop (a := a) hL h1 h2 hm (z := ({ Note.zero with Kind := ((byt a 0 : Nat) : Int), From := ((byt a 1 : Nat) : Int), To := ((byt a 2 : Nat) : Int), View := ((v3 a 3 : Nat) : Int), Seq := ((v3 a 6 : Nat) : Int), Text := (a.take (L - 4)).drop 27 } : Note))
  simp only at q3 q4 q5 q6 q7 q8
  have b0 := byt_lt a 0
  have b1 := byt_lt a 1
  have b2 := byt_lt a 2
  have w1 := v3_lt a 3
  have w2 := v3_lt a 6
  have hany : Y.At.toList.any (fun x => !inR x) = false := by
    rw [List.any_eq_false]
    intro x hx
    have := q9 x hx
    unfold inR
    simp [this]
  have htext : decide ((Y.Text.length : Int) > 200) = false := by
    rw [q8]; apply decide_eq_false; simp; omega
  have hchk : wire_Check Y = some (bif decide (max Y.From Y.To > 5) then 1 else 0) := by
    rw [check_val, hany, htext]
    have : (!(decide (Y.Kind ≥ 0) && decide (Y.Kind ≤ 255)) || !(decide (Y.From ≥ 0) && decide (Y.From ≤ 5)) || !(decide (Y.To ≥ 0) && decide (Y.To ≤ 5)) || !inR Y.View || !inR Y.Seq) = decide (max Y.From Y.To > 5) := by
      unfold inR
      rw [q3, q4, q5, q6, q7, Bool.eq_iff_iff]
      simp only [Bool.or_eq_true, decide_eq_true_eq, Bool.not_eq_true', Bool.and_eq_false_iff, decide_eq_false_iff_not]
      omega
    rw [this]; rfl
  obtain ⟨o, o1, o2⟩ := sum_bytes hL h1 h2 r
  have k0' : lat a (0 : Int) = some y0 := k0
  have k1' : lat a (1 : Int) = some y1 := k1
  have k2' : lat a (2 : Int) = some y2 := k2
  have f0' : lat m (0 : Int) = some x0 := f0
  have f1' : lat m (1 : Int) = some x1 := f1
  have f2' : lat m (2 : Int) = some x2 := f2
  have r1' : wire_Read_1 (0 : Int) m = some ((v3 a 3 : Nat) : Int) := r1
  have r2' : wire_Read_1 (1 : Int) m = some ((v3 a 6 : Nat) : Int) := r2
  have r3' : partref_NoteRead_1 (3 : Int) a = some ((v3 a 3 : Nat) : Int) := r3
  have r4' : partref_NoteRead_1 (6 : Int) a = some ((v3 a 6 : Nat) : Int) := r4
  simp only [cond_false, hL, e0, c1, c2, c3, c4, s1, s2, four_eq, k0', k1', k2', f0', f1', f2', r1', r2', r3', r4', Option.bind_some, g0, g1, g2, l0, l1, l2, Let_eq, q1, q2, o1, hchk]
  cases o with
  | inl u =>
    have ho : Str.ofBytes (b4 r) = (a.drop (L - 4)).take 4 := o2
    rw [decide_eq_true ho]
    cases decide (max Y.From Y.To > 5) <;> exact ⟨_, rfl, rfl⟩
  | inr t =>
    obtain ⟨rfl, ho⟩ := o2
    rw [decide_eq_false ho]
    exact ⟨_, rfl, rfl⟩
theorem wiresays_law (t : Note) (s : Str) (_ : Rng.ok t) (hs : Rng.ok s) : ∃ fu, partlaw_WireSays fu t s = some true := by
  refine ⟨20, ?_⟩
  have hl : s.length ≤ 2 ^ 63 - 1 := hs
  have he := check_eq t (fu := 20) (Nat.le_refl _)
  obtain ⟨c, hc, hgood⟩ := check_law t
  obtain ⟨q, r1, r2⟩ := read_law s
  obtain ⟨r, s1, s2⟩ := sum_law s hl
  unfold partlaw_WireSays
  rw [he, hc, Option.bind_some]
  by_cases h0 : c = 0
  · subst h0
    obtain ⟨o, p1, p2⟩ := pack_law (hgood.1 rfl) hc
    rw [p1, Option.bind_some, p2]
    simp [r1, r2, s1, s2]
  · have h0' : (c != 0) = true := by simpa using h0
    have h0'' : (c == 0) = false := by simpa using h0
    have p1 : wire_Pack t = some (([] : Str), c) := by unfold wire_Pack; rw [hc, Option.bind_some, h0', cond_true]
    rw [p1, Option.bind_some, h0'']
    simp [r1, r2, s1, s2]
end Go.Proofs.Ytobikknjaomalaa
