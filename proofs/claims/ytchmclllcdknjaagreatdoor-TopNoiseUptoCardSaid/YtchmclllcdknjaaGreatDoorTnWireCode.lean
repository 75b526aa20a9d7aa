/-
  The wire, the code alone: what is packed, and that it reads back.
-/
import Derived.Test.YtchmclllcdknjaaGreatDoorTnLib
namespace Go.Proofs.YtchmclllcdknjaaGreatDoor
open Enc

/-! ### the check -/
theorem win_eq (a b c : Int) : wire_in a b c = some (decide (a ≥ b) && decide (a ≤ c)) := by
  unfold wire_in; simp only [cond_some, Option.bind_some, Bool.cond_false_right]
def inR (x : Int) : Bool := decide (x ≥ 0) && decide (x ≤ 16777215)
theorem any_eq (l : List Int) : slices_ContainsFunc_int_int_Check_2 l = some (l.any fun x => !inR x) := by
  unfold slices_ContainsFunc_int_int_Check_2
  have : slices_IndexFunc_int_int_Check_2 l = some (idxI (fun x => !inR x) l) := by
    unfold slices_IndexFunc_int_int_Check_2
    refine index_loop _ fun j x hx => ?_
    unfold slices_IndexFunc_int_int_Check_2_B0 wire_Check_2 wire_Check_1
    rw [lat_nat, hx, Option.bind_some, win_eq]
    simp only [Option.bind_some]
    unfold inR
    cases (!(decide (x ≥ 0) && decide (x ≤ 16777215))) <;> rfl
  rw [this, Option.bind_some]
  congr 1
  rw [Bool.eq_iff_iff, List.any_eq_true, decide_eq_true_eq]
  rcases idxI_cases (fun x : Int => !inR x) l with ⟨h, h1⟩ | ⟨i, y, h, h1, h2, _⟩
  · rw [h]
    exact ⟨fun k => by omega, fun ⟨x, hx, k⟩ => by have := h1 x hx; rw [this] at k; cases k⟩
  · rw [h]
    exact ⟨fun _ => ⟨y, List.mem_of_getElem? h1, h2⟩, fun _ => by omega⟩
structure NoteOk (t : Note) : Prop where
  kind : 0 ≤ t.Kind ∧ t.Kind ≤ 255
  from_ : 0 ≤ t.From ∧ t.From ≤ 5
  to : 0 ≤ t.To ∧ t.To ≤ 5
  view : 0 ≤ t.View ∧ t.View ≤ 16777215
  seq : 0 ≤ t.Seq ∧ t.Seq ≤ 16777215
  at_ : ∀ x ∈ t.At.toList, 0 ≤ x ∧ x ≤ 16777215
  text : t.Text.length ≤ 200
theorem check_val (t : Note) : wire_Check t = some (bif (!(decide (t.Kind ≥ 0) && decide (t.Kind ≤ 255)) || !(decide (t.From ≥ 0) && decide (t.From ≤ 5)) || !(decide (t.To ≥ 0) && decide (t.To ≤ 5)) || !inR t.View || !inR t.Seq) then 1 else bif t.At.toList.any (fun x => !inR x) then 1 else bif decide ((t.Text.length : Int) > 200) then 2 else 0) := by
  unfold wire_Check wire_Check_1
  simp only [win_eq, any_eq, cond_some, Option.bind_some, Bool.cond_true_left]
  rfl
theorem check_law (t : Note) : ∃ c, wire_Check t = some c ∧ (c = 0 ↔ NoteOk t) := by
  rw [check_val]
  refine ⟨_, rfl, ?_⟩
  cases h1 : (!(decide (t.Kind ≥ 0) && decide (t.Kind ≤ 255)) || !(decide (t.From ≥ 0) && decide (t.From ≤ 5)) || !(decide (t.To ≥ 0) && decide (t.To ≤ 5)) || !inR t.View || !inR t.Seq) with
  | true =>
    refine ⟨fun h => (by cases h), fun h => ?_⟩
    obtain ⟨k1, k2, k3, k4, k5, _, _⟩ := h
    unfold inR at h1
    simp [k1, k2, k3, k4, k5] at h1
  | false =>
    cases h2 : t.At.toList.any (fun x => !inR x) with
    | true =>
      refine ⟨fun h => (by cases h), fun h => ?_⟩
      obtain ⟨x, hx, k⟩ := List.any_eq_true.1 h2
      have := h.at_ x hx
      unfold inR at k
      simp [this] at k
    | false =>
      cases h3 : decide ((t.Text.length : Int) > 200) with
      | true =>
        refine ⟨fun h => (by cases h), fun h => ?_⟩
        have := of_decide_eq_true h3
        have := h.text
        omega
      | false =>
        refine ⟨fun _ => ?_, fun _ => rfl⟩
        have h3' := of_decide_eq_false h3
        unfold inR at h1
        simp only [Bool.or_eq_false_iff, Bool.not_eq_false', Bool.and_eq_true, decide_eq_true_eq] at h1
        refine ⟨by omega, by omega, by omega, by omega, by omega, fun x hx => ?_, by omega⟩
        have := List.any_eq_false.1 h2 x hx
        unfold inR at this
        simp at this
        exact this
theorem check_ok {t : Note} (h : NoteOk t) : wire_Check t = some 0 := by
  obtain ⟨c, e, hc⟩ := check_law t
  rw [e, hc.2 h]
theorem check_bad {t : Note} (h : ¬ NoteOk t) : ∃ c, wire_Check t = some c ∧ (c != 0) = true := by
  obtain ⟨c, e, hc⟩ := check_law t
  exact ⟨c, e, bne_iff_ne.2 fun k => h (hc.1 k)⟩
/-! ### the sum -/
theorem rangeF_tot {σ : Type} {f : Nat → σ → Option σ} : ∀ (k i : Nat) (z : σ), (∀ j z, i ≤ j → j < i + k → ∃ z', f j z = some z') → ∃ z', rangeF f k i z = some z'
  | 0, i, z, _ => ⟨z, rfl⟩
  | k + 1, i, z, h => by
    obtain ⟨z1, h1⟩ := h i z (Nat.le_refl _) (by omega)
    obtain ⟨z2, h2⟩ := rangeF_tot k (i + 1) z1 fun j z a b => h j z (by omega) (by omega)
    exact ⟨z2, by unfold rangeF; rw [h1, Option.bind_some, h2]⟩
theorem sum_tot (s : Str) (h : s.length ≤ 2 ^ 63 - 1) : ∃ r, wire_Sum s = some r := by
  unfold wire_Sum
  rw [upTo_ok (by omega), Option.bind_some, Int.toNat_natCast]
  obtain ⟨z, hz⟩ := rangeF_tot (f := wire_Sum_B0 s) s.length 0 (4294967295 : BitVec 32) fun j z _ hj => by
    have hc : lat s (j : Int) = some (s[j]'(by omega)) := by rw [lat_nat]; simp [show j < s.length by omega]
    unfold wire_Sum_B0
    rw [hc, Option.bind_some]
    obtain ⟨z', hz'⟩ := rangeF_tot (f := wire_Sum_B2) 8 0 (z ^^^ (BitVec.ofInt 32 ((s[j]'(by omega)).toBitVec.toNat : Int))) fun j z _ _ => by
      unfold wire_Sum_B2
      cases ((z &&& (1 : BitVec 32)).toNat : Int) == ((1 : BitVec 32).toNat : Int) <;> exact ⟨_, rfl⟩
    exact ⟨z', by rw [hz', Option.bind_some]⟩
  rw [hz]
  exact ⟨_, rfl⟩
def sumV (s : Str) : BitVec 32 := (wire_Sum s).getD 0
theorem sum_eq (s : Str) (h : s.length ≤ 2 ^ 63 - 1) : wire_Sum s = some (sumV s) := by
  obtain ⟨r, e⟩ := sum_tot s h
  unfold sumV; rw [e]; rfl
/-! ### the text -/
def b3 (n : Nat) : List (BitVec 8) := [BitVec.ofNat 8 n, BitVec.ofNat 8 (n / 256), BitVec.ofNat 8 (n / 65536)]
def b4 (r : BitVec 32) : List (BitVec 8) := b3 r.toNat ++ [BitVec.ofNat 8 (r.toNat / 16777216)]
theorem of8 (n : Nat) : BitVec.ofInt 8 (n : Int) = BitVec.ofNat 8 n := BitVec.ofInt_natCast 8 n
theorem three_eq (n : Nat) : wire_three (n : Int) = some (b3 n) := by
  unfold wire_three b3
  have h1 : ((n : Int)).fdiv (2 ^ (min 8 64)) = ((n / 256 : Nat) : Int) := by
    rw [Int.fdiv_eq_ediv_of_nonneg _ (by decide)]; rfl
  have h2 : ((n : Int)).fdiv (2 ^ (min 16 64)) = ((n / 65536 : Nat) : Int) := by
    rw [Int.fdiv_eq_ediv_of_nonneg _ (by decide)]; rfl
  rw [h1, h2, of8, of8, of8]
theorem four_eq (r : BitVec 32) : wire_four r = some (b4 r) := by
  unfold wire_four
  rw [three_eq, Option.bind_some, room_ok (by simp [b3]), Option.bind_some, of8, BitVec.toNat_ushiftRight, Nat.shiftRight_eq_div_pow]
  rfl
theorem pack_from {l : List Int} (hl : ∀ x ∈ l, 0 ≤ x) (hn : l.length ≤ 100) : ∀ (k i : Nat) (z : List (BitVec 8)), i + k = l.length → z.length ≤ 10 + 3 * i → rangeF (wire_Pack_B0 l) k i z = some (z ++ (l.drop i).flatMap fun x => b3 x.toNat)
  | 0, i, z, h, _ => by
    rw [List.drop_of_length_le (by omega)]; simp [rangeF]
  | k + 1, i, z, h, hz => by
    have hi : i < l.length := by omega
    obtain ⟨n, hn'⟩ := int_nat (hl _ (List.getElem_mem hi))
    have hx : lat l (i : Int) = some (n : Int) := by rw [lat_nat, List.getElem?_eq_getElem hi, hn']
    have hb : (b3 n).length = 3 := rfl
    have hs : wire_Pack_B0 l i z = some (z ++ b3 n) := by
      unfold wire_Pack_B0
      rw [hx, Option.bind_some, three_eq, Option.bind_some, room_ok (by rw [hb]; omega), Option.bind_some]
    unfold rangeF
    rw [hs, Option.bind_some, pack_from hl hn k (i + 1) (z ++ b3 n) (by omega) (by rw [List.length_append, hb]; omega), List.drop_eq_getElem_cons hi, List.flatMap_cons, hn', Int.toNat_natCast, List.append_assoc]
theorem ofBytes_append (l m : List (BitVec 8)) : Str.ofBytes (l ++ m) = Str.ofBytes l ++ Str.ofBytes m := by simp [Str.ofBytes]
theorem ofBytes_bytes (s : Str) : Str.ofBytes (Str.bytes s) = s := by
  unfold Str.ofBytes Str.bytes
  rw [List.map_map, show (UInt8.ofBitVec ∘ UInt8.toBitVec) = id from rfl, List.map_id]
theorem bytes_len (s : Str) : (Str.bytes s).length = s.length := by simp [Str.bytes]
theorem ofBytes_len (l : List (BitVec 8)) : (Str.ofBytes l).length = l.length := by simp [Str.ofBytes]
def headB (t : Note) : List (BitVec 8) := [BitVec.ofInt 8 t.Kind, BitVec.ofInt 8 t.From, BitVec.ofInt 8 t.To] ++ ([t.View, t.Seq] ++ t.At.toList).flatMap fun x => b3 x.toNat
theorem headB_len (t : Note) : (headB t).length = 27 := by
  have hf : ∀ l : List Int, (l.flatMap fun x => b3 x.toNat).length = 3 * l.length := fun l => by
    induction l with
    | nil => rfl
    | cons a l ih => rw [List.flatMap_cons, List.length_append, ih, List.length_cons]; have : (b3 a.toNat).length = 3 := rfl; omega
  unfold headB
  rw [List.length_append, hf]
  simp
def bodyS (t : Note) : Str := Str.ofBytes (headB t) ++ t.Text
def packS (t : Note) : Str := bodyS t ++ Str.ofBytes (b4 (sumV (bodyS t)))
theorem bodyS_len (t : Note) : (bodyS t).length = 27 + t.Text.length := by unfold bodyS; rw [List.length_append, ofBytes_len, headB_len]
theorem packS_len (t : Note) : (packS t).length = 31 + t.Text.length := by
  unfold packS; rw [List.length_append, bodyS_len, ofBytes_len]; have : (b4 (sumV (bodyS t))).length = 4 := rfl; omega
theorem pack_law {t : Note} (h : NoteOk t) : wire_Pack t = some (packS t, 0) := by
  have hat : t.At.toList.length = 6 := by simp
  have hlen : ([t.View, t.Seq] ++ t.At.toList).length = 8 := by simp
  have hr : ∀ x ∈ ([t.View, t.Seq] ++ t.At.toList), 0 ≤ x := by
    intro x hx
    rcases List.mem_append.1 hx with hx | hx
    · rcases List.mem_cons.1 hx with rfl | hx
      · exact h.view.1
      · rw [List.mem_singleton] at hx; subst hx; exact h.seq.1
    · exact (h.at_ x hx).1
  have e1 := pack_from hr (by omega) 8 0 [BitVec.ofInt 8 t.Kind, BitVec.ofInt 8 t.From, BitVec.ofInt 8 t.To] (by omega) (by simp)
  rw [List.drop_zero] at e1
  have e2 : rangeF (wire_Pack_B0 ([t.View, t.Seq] ++ t.At.toList)) 8 0 [BitVec.ofInt 8 t.Kind, BitVec.ofInt 8 t.From, BitVec.ofInt 8 t.To] = some (headB t) := e1
  have ht := h.text
  have hbl := bytes_len t.Text
  have hhl := headB_len t
  have hb4 : ∀ r, (b4 r).length = 4 := fun _ => rfl
  have hb := bodyS_len t
  unfold wire_Pack
  rw [check_ok h, Option.bind_some, show ((0 : Int) != 0) = false from rfl, cond_false, room_ok (by rw [hat]; simp), Option.bind_some, Let_eq, upTo_ok (by omega), Option.bind_some, Int.toNat_natCast, hlen, e2, Option.bind_some, room_ok (by omega), Option.bind_some,
    ofBytes_append, ofBytes_bytes, show Str.ofBytes (headB t) ++ t.Text = bodyS t from rfl, sum_eq _ (by omega), Option.bind_some, four_eq, Option.bind_some, room_ok (by rw [List.length_append, hb4]; omega), Option.bind_some, ofBytes_append, ofBytes_append, ofBytes_bytes]
  rfl
theorem pack_bad {t : Note} (h : ¬ NoteOk t) : ∃ c, wire_Pack t = some (([] : Str), c) ∧ (c == 0) = false := by
  obtain ⟨c, e, hc⟩ := check_bad h
  refine ⟨c, ?_, ?_⟩
  · unfold wire_Pack
    rw [e, Option.bind_some, hc, cond_true]
  · simpa using hc
/-! ### reading -/
def byt (s : Str) (i : Nat) : Nat := (s[i]?.getD 0).toBitVec.toNat
theorem byt_lt (s : Str) (i : Nat) : byt s i < 256 := (s[i]?.getD 0).toBitVec.isLt
theorem lat_byt {s : Str} {i : Nat} (h : i < s.length) : ∃ c : UInt8, lat s (i : Int) = some c ∧ c.toBitVec.toNat = byt s i := ⟨s[i], by rw [lat_nat, List.getElem?_eq_getElem h], by simp [byt, h]⟩
def v3 (s : Str) (b : Nat) : Nat := byt s b + 256 * byt s (b + 1) + 65536 * byt s (b + 2)
theorem v3_lt (s : Str) (b : Nat) : v3 s b < 16777216 := by
  have h1 := byt_lt s b
  have h2 := byt_lt s (b + 1)
  have h3 := byt_lt s (b + 2)
  unfold v3; omega
theorem or_add {p q k : Nat} (hp : p < 2 ^ k) : p ||| (q * 2 ^ k) = p + q * 2 ^ k := by
  have h := Nat.shiftLeft_add_eq_or_of_lt hp q
  rw [Nat.shiftLeft_eq] at h
  rw [Nat.or_comm, ← h, Nat.add_comm]
theorem ofI (n : Nat) (h : n < 2 ^ 63) : (BitVec.ofInt 64 (n : Int)).toNat = n := by
  rw [BitVec.ofInt_natCast, BitVec.toNat_ofNat, Nat.mod_eq_of_lt (by omega)]
theorem rd3 {p q r : Nat} (hp : p < 256) (hq : q < 256) (hr : r < 256) : w64 ((BitVec.ofInt 64 (w64 ((BitVec.ofInt 64 (p : Int) ||| BitVec.ofInt 64 (w64 ((q : Int) * 2 ^ (min 8 64)))).toNat : Int)) ||| BitVec.ofInt 64 (w64 ((r : Int) * 2 ^ (min 16 64)))).toNat : Int) = ((p + 256 * q + 65536 * r : Nat) : Int) := by
  have c1 : ((q : Int) * 2 ^ (min 8 64)) = ((q * 2 ^ 8 : Nat) : Int) := by
    rw [Int.natCast_mul]; rfl
  have c2 : ((r : Int) * 2 ^ (min 16 64)) = ((r * 2 ^ 16 : Nat) : Int) := by
    rw [Int.natCast_mul]; rfl
  rw [c1, c2, w64_id (x := ((q * 2 ^ 8 : Nat) : Int)) (by omega) (by omega), w64_id (x := ((r * 2 ^ 16 : Nat) : Int)) (by omega) (by omega)]
  rw [BitVec.toNat_or, BitVec.toNat_or, ofI p (by omega), ofI (q * 2 ^ 8) (by omega), or_add (k := 8) (by omega), w64_id (x := ((p + q * 2 ^ 8 : Nat) : Int)) (by omega) (by omega), ofI _ (by omega), ofI (r * 2 ^ 16) (by omega), or_add (k := 16) (by omega), w64_id (by omega) (by omega)]
  omega
theorem wire_read1 {s : Str} {k : Nat} (hs : s.length ≤ 1000) (h : 3 * k + 5 < s.length) : wire_Read_1 (k : Int) s = some ((v3 s (3 + 3 * k) : Nat) : Int) := by
  have e1 : w64 ((3 : Int) * (k : Int)) = ((3 * k : Nat) : Int) := by rw [w64_id (by omega) (by omega)]; omega
  have e2 : w64 ((3 : Int) + ((3 * k : Nat) : Int)) = ((3 + 3 * k : Nat) : Int) := by rw [w64_id (by omega) (by omega)]; omega
  have e3 : w64 (((3 + 3 * k : Nat) : Int) + 1) = ((3 + 3 * k + 1 : Nat) : Int) := by rw [w64_id (by omega) (by omega)]; omega
  have e4 : w64 (((3 + 3 * k : Nat) : Int) + 2) = ((3 + 3 * k + 2 : Nat) : Int) := by rw [w64_id (by omega) (by omega)]; omega
  obtain ⟨c1, h1, g1⟩ := lat_byt (s := s) (i := 3 + 3 * k) (by omega)
  obtain ⟨c2, h2, g2⟩ := lat_byt (s := s) (i := 3 + 3 * k + 1) (by omega)
  obtain ⟨c3, h3, g3⟩ := lat_byt (s := s) (i := 3 + 3 * k + 2) (by omega)
  unfold wire_Read_1
  rw [e1, e2, e3, e4, h1, h2, h3]
  simp only [Option.bind_some]
  rw [g1, g2, g3, rd3 (byt_lt _ _) (byt_lt _ _) (byt_lt _ _)]
  rfl
theorem byt_ofB (l : List (BitVec 8)) (u : Str) (i : Nat) (h : i < l.length) : byt (Str.ofBytes l ++ u) i = (l[i]).toNat := by
  unfold byt
  rw [List.getElem?_append_left (by rw [ofBytes_len]; exact h)]
  unfold Str.ofBytes
  rw [List.getElem?_map, List.getElem?_eq_getElem h]
  rfl
theorem ofn (n : Nat) (h : n < 16777216) : (BitVec.ofNat 8 n).toNat + 256 * (BitVec.ofNat 8 (n / 256)).toNat + 65536 * (BitVec.ofNat 8 (n / 65536)).toNat = n := by
  simp only [BitVec.toNat_ofNat]; omega
theorem ofi8 {x : Int} (h0 : 0 ≤ x) (h1 : x ≤ 255) : ((BitVec.ofInt 8 x).toNat : Int) = x := by
  obtain ⟨n, rfl⟩ := int_nat h0
  rw [of8, BitVec.toNat_ofNat]; omega
theorem note_ext {t u : Note} (h1 : t.Kind = u.Kind) (h2 : t.From = u.From) (h3 : t.To = u.To) (h4 : t.View = u.View) (h5 : t.Seq = u.Seq) (h6 : t.At = u.At) (h7 : t.Text = u.Text) : t = u := by
  cases t; cases u; simp_all
theorem read_pack {t : Note} (h : NoteOk t) : wire_Read (packS t) = some (t, 0) := by
  have hL := packS_len t
  have hB := bodyS_len t
  have ht := h.text
  have hb4 : (b4 (sumV (bodyS t))).length = 4 := rfl
  obtain ⟨m, hm⟩ : ∃ m, m = bodyS t := ⟨_, rfl⟩
  obtain ⟨L, hL'⟩ : ∃ L, (packS t).length = L := ⟨_, rfl⟩
  rw [hL'] at hL
  have e0 : w64 ((L : Int) - 4) = ((L - 4 : Nat) : Int) := by rw [w64_id (by omega) (by omega)]; omega
  have c1 : cutL (packS t) 0 ((L - 4 : Nat) : Int) = some m := by
    unfold cutL; rw [if_pos (by omega)]
    simp only [Int.toNat_natCast, Int.toNat_zero, List.drop_zero, Nat.sub_zero]
    rw [hm]; unfold packS
    rw [List.take_left' (by omega)]
  have c2 : cutL (packS t) ((L - 4 : Nat) : Int) (L : Int) = some (Str.ofBytes (b4 (sumV (bodyS t)))) := by
    unfold cutL; rw [if_pos (by omega)]
    simp only [Int.toNat_natCast]
    unfold packS
    rw [List.drop_left' (by omega), List.take_of_length_le (by rw [ofBytes_len]; omega)]
  have hml : m.length = 27 + t.Text.length := by rw [hm, hB]
  have hA : decide ((L : Int) > 231) = false := decide_eq_false (by omega)
  have hA2 : decide ((L : Int) < 31) = false := decide_eq_false (by omega)
  -- the bytes
  obtain ⟨kd, fr, to, vw, sq, At, tx⟩ := t
  obtain ⟨x0, x1, x2, x3, x4, x5, hAt⟩ : ∃ x0 x1 x2 x3 x4 x5, At = (#v[x0, x1, x2, x3, x4, x5] : Vector Int 6) := by
    refine ⟨At[0], At[1], At[2], At[3], At[4], At[5], ?_⟩
    apply Vector.ext
    intro i hi
    match i, hi with
    | 0, _ => rfl
    | 1, _ => rfl
    | 2, _ => rfl
    | 3, _ => rfl
    | 4, _ => rfl
    | 5, _ => rfl
  subst hAt
  have hx := h.at_
  have g0 := hx x0 (by simp)
  have g1 := hx x1 (by simp)
  have g2 := hx x2 (by simp)
  have g3 := hx x3 (by simp)
  have g4 := hx x4 (by simp)
  have g5 := hx x5 (by simp)
  have gk := h.kind
  have gf := h.from_
  have gt := h.to
  have gv := h.view
  have gs := h.seq
  simp only at gk gf gt gv gs ht hml
  have hbyt : ∀ (i : Nat) (hi : i < 27), byt m i = ((headB ⟨kd, fr, to, vw, sq, #v[x0, x1, x2, x3, x4, x5], tx⟩)[i]'(by rw [headB_len]; exact hi)).toNat := fun i hi => by
    rw [hm]; exact byt_ofB _ _ i (by rw [headB_len]; exact hi)
  have hv : ∀ (k : Nat) (x : Int) (hk : k < 8), 0 ≤ x → x ≤ 16777215 → ([vw, sq, x0, x1, x2, x3, x4, x5] : List Int)[k]? = some x → v3 m (3 + 3 * k) = x.toNat := fun k x hk h0 h1 he => by
    unfold v3
    rw [hbyt _ (by omega), hbyt _ (by omega), hbyt _ (by omega)]
    match k, hk with
    | 0, _ => cases he; exact ofn vw.toNat (by omega)
    | 1, _ => cases he; exact ofn sq.toNat (by omega)
    | 2, _ => cases he; exact ofn x0.toNat (by omega)
    | 3, _ => cases he; exact ofn x1.toNat (by omega)
    | 4, _ => cases he; exact ofn x2.toNat (by omega)
    | 5, _ => cases he; exact ofn x3.toNat (by omega)
    | 6, _ => cases he; exact ofn x4.toNat (by omega)
    | 7, _ => cases he; exact ofn x5.toNat (by omega)
  have rd : ∀ (k : Nat) (x : Int) (hk : k < 8), 0 ≤ x → x ≤ 16777215 → ([vw, sq, x0, x1, x2, x3, x4, x5] : List Int)[k]? = some x → wire_Read_1 (k : Int) m = some x := fun k x hk h0 h1 he => by
    rw [wire_read1 (by omega) (by omega), hv k x hk h0 h1 he]
    congr 1; omega
  obtain ⟨y0, f0, q0⟩ := lat_byt (s := m) (i := 0) (by omega)
  obtain ⟨y1, f1, q1⟩ := lat_byt (s := m) (i := 1) (by omega)
  obtain ⟨y2, f2, q2⟩ := lat_byt (s := m) (i := 2) (by omega)
  rw [hbyt 0 (by omega)] at q0
  rw [hbyt 1 (by omega)] at q1
  rw [hbyt 2 (by omega)] at q2
  have z0 : ((y0.toBitVec.toNat : Nat) : Int) = kd := by rw [q0]; exact ofi8 gk.1 gk.2
  have z1 : ((y1.toBitVec.toNat : Nat) : Int) = fr := by rw [q1]; exact ofi8 (x := fr) gf.1 (by omega)
  have z2 : ((y2.toBitVec.toNat : Nat) : Int) = to := by rw [q2]; exact ofi8 (x := to) gt.1 (by omega)
  have c4 : cutL m (27 : Int) (m.length : Int) = some tx := by
    unfold cutL; rw [if_pos (by omega)]
    have : m.drop 27 = tx := by rw [hm]; unfold bodyS; exact List.drop_left' (by rw [ofBytes_len, headB_len])
    show some ((m.drop 27).take _) = _
    rw [this, List.take_of_length_le (by simp only [Int.toNat_natCast]; omega)]
  have step : ∀ (i : Nat) (x : Int) (hi : i < 6) (y : Note), 0 ≤ x → x ≤ 16777215 → ([vw, sq, x0, x1, x2, x3, x4, x5] : List Int)[i + 2]? = some x → wire_Read_B1 m i y = some { y with At := y.At.setIfInBounds i x } := fun i x hi y h0 h1 he => by
    have e1 : w64 ((2 : Int) + (i : Int)) = ((i + 2 : Nat) : Int) := by rw [w64_id (by omega) (by omega)]; omega
    unfold wire_Read_B1
    rw [e1, rd (i + 2) x (by omega) h0 h1 he, Option.bind_some, vat_lt _ hi, Option.bind_some, Let_eq, Int.toNat_natCast]
  have loop : ∀ y : Note, y.At = Vector.replicate 6 0 → rangeF (wire_Read_B1 m) 6 0 y = some { y with At := #v[x0, x1, x2, x3, x4, x5] } := fun y hy => by
    unfold rangeF; rw [step 0 x0 (by omega) _ g0.1 g0.2 rfl, Option.bind_some]
    unfold rangeF; rw [step 1 x1 (by omega) _ g1.1 g1.2 rfl, Option.bind_some]
    unfold rangeF; rw [step 2 x2 (by omega) _ g2.1 g2.2 rfl, Option.bind_some]
    unfold rangeF; rw [step 3 x3 (by omega) _ g3.1 g3.2 rfl, Option.bind_some]
    unfold rangeF; rw [step 4 x4 (by omega) _ g4.1 g4.2 rfl, Option.bind_some]
    unfold rangeF; rw [step 5 x5 (by omega) _ g5.1 g5.2 rfl, Option.bind_some]
    unfold rangeF
    rw [hy]
    rfl
  have r0 : wire_Read_1 (0 : Int) m = some vw := rd 0 vw (by omega) gv.1 gv.2 rfl
  have r1 : wire_Read_1 (1 : Int) m = some sq := rd 1 sq (by omega) gs.1 gs.2 rfl
  have f0' : lat m (0 : Int) = some y0 := f0
  have f1' : lat m (1 : Int) = some y1 := f1
  have f2' : lat m (2 : Int) = some y2 := f2
  unfold wire_Read
  rw [hL', hA, hA2, cond_false, cond_false, e0, c1, c2, Option.bind_some, Option.bind_some, sum_eq _ (by omega), Option.bind_some, four_eq, Option.bind_some, ← hm, decide_eq_true rfl]
  simp only [Bool.not_true, cond_false]
  rw [f0', f1', f2', Option.bind_some, Option.bind_some, Option.bind_some, r0, r1, Option.bind_some, Option.bind_some, c4, Option.bind_some, z0, z1, z2, loop _ rfl, Option.bind_some]
  have hok : wire_Check ({ Note.zero with Kind := kd, From := fr, To := to, View := vw, Seq := sq, Text := tx, At := #v[x0, x1, x2, x3, x4, x5] } : Note) = some 0 := check_ok h
  rw [hok]
  rfl
end Go.Proofs.YtchmclllcdknjaaGreatDoor
