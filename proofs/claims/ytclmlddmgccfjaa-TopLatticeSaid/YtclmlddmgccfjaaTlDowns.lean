/-
  Down-sets of a poset, as the program finds them.
-/
import Derived.Test.YtclmlddmgccfjaaTlPosets
namespace Go.Proofs.Ytclmlddmgccfjaa
open Enc

theorem rangeF_and {body : Nat → Bool → Option Bool} {g : Nat → Bool} : ∀ (k i : Nat) (z : Bool), (∀ j z, i ≤ j → j < i + k → body j z = some (z && g j)) → rangeF body k i z = some (z && (List.range' i k).all g)
  | 0, i, z, _ => by simp [rangeF]
  | k + 1, i, z, h => by
    unfold rangeF
    rw [h i z (by omega) (by omega), Option.bind_some, rangeF_and k (i + 1) _ fun j z h1 h2 => h j z (by omega) (by omega)]
    simp [List.range'_succ, Bool.and_assoc]
/-- m, as a set, holds all that comes before what it holds. -/
def Down (l : List Pair) (m : Nat) : Prop := ∀ a b, Reach l a b → m.testBit b = true → m.testBit a = true
theorem shift_bit (m b : Nat) (hb : b ≤ 64) : ((m : Int).fdiv (2 ^ (min b 64))).tmod 2 = if m.testBit b then 1 else 0 := by
  rw [Nat.min_eq_left hb]
  rw [show ((2 : Int) ^ b) = ((2 ^ b : Nat) : Int) by simp]
  rw [show (m : Int).fdiv ((2 ^ b : Nat) : Int) = ((m / 2 ^ b : Nat) : Int) from (Int.ofNat_fdiv _ _).symm]
  rw [show ((m / 2 ^ b : Nat) : Int).tmod 2 = ((m / 2 ^ b % 2 : Nat) : Int) from (Int.ofNat_tmod _ _).symm]
  rw [Nat.testBit_eq_decide_div_mod_eq]
  have : m / 2 ^ b % 2 = 0 ∨ m / 2 ^ b % 2 = 1 := by omega
  rcases this with h | h <;> simp [h]
open Classical in
noncomputable def gb (l : List Pair) (m a b : Nat) : Bool := !(decide (Reach l a b) && m.testBit b && !m.testBit a)
open Classical in
noncomputable def isDown (l : List Pair) (m : Nat) : Bool := decide (Down l m)
theorem isDown_all {l : List Pair} {n m : Nat} (hl : InR n l) : ((List.range' 0 n).all fun a => (List.range' 0 n).all fun b => gb l m a b) = isDown l m := by
  rw [Bool.eq_iff_iff]
  simp only [isDown, decide_eq_true_eq, List.all_eq_true, List.mem_range', gb]
  constructor
  · intro h a b hr hb
    obtain ⟨ha', hb'⟩ := hr.lt hl
    have := h a ⟨a, by omega, by omega⟩ b ⟨b, by omega, by omega⟩
    simp [hr, hb] at this
    exact this
  · rintro h a _ b _
    by_cases hr : Reach l a b
    · by_cases hb : m.testBit b = true
      · simp [hr, hb, h a b hr hb]
      · simp [hb]
    · simp [hr]
theorem cnt_nat (k : Nat) : cnt (k : Int) = some k := by unfold cnt; rw [if_pos (by omega)]; rfl
/-- The down-sets below k, in order. -/
noncomputable def downs (l : List Pair) : Nat → List (BitVec 16)
  | 0 => []
  | m + 1 => bif isDown l m then downs l m ++ [BitVec.ofInt 16 (m : Int)] else downs l m
theorem downs_len (l : List Pair) : ∀ m, (downs l m).length ≤ m
  | 0 => by simp [downs]
  | m + 1 => by
    have := downs_len l m
    unfold downs
    cases isDown l m <;> simp <;> omega
theorem pow_le {n : Nat} (h : n ≤ 12) : 2 ^ n ≤ 4096 := Nat.le_trans (Nat.pow_le_pow_right (by omega) h) (by decide)
/-- The bits of what comes before. -/
def Bits (V : Vector (BitVec 16) 12) (S : Nat → Nat → Prop) : Prop := ∀ (b : Nat) (hb : b < 12) (a : Nat), V[b].getLsbD a = true ↔ a < 16 ∧ S a b
theorem before_law {z : List Pair} {c : Int} (hz : ∀ q ∈ z, ∃ x y : Nat, q = ⟨(x : Int), (y : Int)⟩ ∧ x < 12 ∧ y < 12) :
    ∃ V, rangeF (lat_Downs_B0 (z, c)) z.length 0 (Vector.replicate 12 0) = some V ∧ Bits V fun a b => (⟨(a : Int), (b : Int)⟩ : Pair) ∈ z := by
  refine Exists.elim (rangeF_inv (body := lat_Downs_B0 (z, c)) (fun j V => Bits V fun a b => ∃ i, i < j ∧ z[i]? = some (⟨(a : Int), (b : Int)⟩ : Pair)) z.length 0 (Vector.replicate 12 0) (fun b hb a => by simp) ?_) ?_
  · intro j V _ hj hI
    have hj' : j < z.length := by omega
    obtain ⟨x, y, e, hx, hy⟩ := hz _ (List.getElem_mem hj')
    refine ⟨V.setIfInBounds y (V[y] ||| ((1 : BitVec 16) <<< x)), ?_, fun b hb a => ?_⟩
    · unfold lat_Downs_B0
      simp only [lat_lt hj', Option.bind_some, e, vat_lt _ hy, cnt_nat, Let_eq, Int.toNat_natCast]
    · have hzj : z[j]? = some (⟨(x : Int), (y : Int)⟩ : Pair) := by simp [hj', e]
      have hbit : ((1 : BitVec 16) <<< x).getLsbD a = true ↔ a < 16 ∧ a = x := by
        simp [BitVec.getLsbD_shiftLeft, BitVec.getLsbD_one]
        omega
      by_cases hby : y = b
      · subst hby
        rw [Vector.getElem_setIfInBounds_self, BitVec.getLsbD_or, Bool.or_eq_true, hI y hb a, hbit]
        constructor
        · rintro (⟨h1, i, h2, h3⟩ | ⟨h1, rfl⟩)
          · exact ⟨h1, i, by omega, h3⟩
          · exact ⟨h1, j, by omega, hzj⟩
        · rintro ⟨h1, i, h2, h3⟩
          by_cases eij : i = j
          · subst eij
            rw [hzj] at h3
            simp at h3
            exact .inr ⟨h1, by omega⟩
          · exact .inl ⟨h1, i, by omega, h3⟩
      · rw [Vector.getElem_setIfInBounds_ne hb hby, hI b hb a]
        constructor
        · rintro ⟨h1, i, h2, h3⟩
          exact ⟨h1, i, by omega, h3⟩
        · rintro ⟨h1, i, h2, h3⟩
          refine ⟨h1, i, ?_, h3⟩
          by_cases eij : i = j
          · subst eij
            rw [hzj] at h3
            simp at h3
            omega
          · omega
  · rintro V ⟨e, hI⟩
    rw [Nat.zero_add] at hI
    refine ⟨V, e, fun b hb a => ?_⟩
    rw [hI b hb a]
    constructor
    · rintro ⟨h1, i, _, h3⟩
      exact ⟨h1, List.mem_of_getElem? h3⟩
    · rintro ⟨h1, h2⟩
      obtain ⟨i, hi⟩ := List.getElem?_of_mem h2
      exact ⟨h1, i, (List.getElem?_eq_some_iff.1 hi).1, hi⟩
theorem bv_zero {x : BitVec 16} : ((x.toNat : Int) == ((0 : BitVec 16).toNat : Int)) = true ↔ ∀ a, a < 16 → x.getLsbD a = false := by
  constructor
  · intro h a _
    have h' : x.toNat = 0 := by simpa using h
    have : x = 0 := BitVec.eq_of_toNat_eq (by simpa using h')
    rw [this]; simp
  · intro h
    have : x = 0 := BitVec.eq_of_getLsbD_eq fun i hi => by rw [h i hi]; simp
    rw [this]; simp
theorem bit_one {x : BitVec 16} {k : Nat} : ((((x >>> k) &&& (1 : BitVec 16)).toNat : Int) == ((0 : BitVec 16).toNat : Int)) = !x.getLsbD k := by
  rw [Bool.eq_iff_iff, bv_zero]
  constructor
  · intro h
    have := h 0 (by omega)
    simpa using this
  · intro h a ha
    by_cases e : a = 0
    · subst e; simpa using h
    · have : (1 : BitVec 16).getLsbD a = false := by simp [BitVec.getLsbD_one]; omega
      rw [BitVec.getLsbD_and, this, Bool.and_false]
def okk (V : Vector (BitVec 16) 12) (s : BitVec 16) (k : Nat) : Bool := !s.getLsbD k || (((V[k]?.getD 0 &&& ~~~s).toNat : Int) == ((0 : BitVec 16).toNat : Int))
theorem prog47 {V : Vector (BitVec 16) 12} {s : BitVec 16} {k : Nat} (hk : k < 12) (z : Bool) : lat_Downs_B4 V s k z = some (z && okk V s k) := by
  unfold lat_Downs_B4 okk
  cases z with
  | false => rfl
  | true =>
    rw [cond_true, cnt_nat, Option.bind_some, bit_one, vat_lt _ hk, Option.bind_some, or_some, Option.bind_some, Vector.getElem?_eq_getElem hk]
    rfl
theorem okk_all {V : Vector (BitVec 16) 12} {l : List Pair} {n m : Nat} (hl : InR n l) (hn : n ≤ 12) (hm : m < 2 ^ 16) (hV : Bits V (Reach l)) : ((List.range' 0 n).all fun k => okk V (BitVec.ofNat 16 m) k) = isDown l m := by
  have hs : ∀ a, a < 16 → (BitVec.ofNat 16 m).getLsbD a = m.testBit a := fun a ha => by rw [BitVec.getLsbD_ofNat]; simp [ha]
  rw [Bool.eq_iff_iff]
  simp only [isDown, decide_eq_true_eq, List.all_eq_true, List.mem_range']
  constructor
  · intro h a b hr hb
    obtain ⟨ha', hb'⟩ := hr.lt hl
    have h1 := h b ⟨b, by omega, by omega⟩
    unfold okk at h1
    rw [hs b (by omega), hb, Bool.not_true, Bool.false_or, bv_zero, Vector.getElem?_eq_getElem (by omega), Option.getD_some] at h1
    have h2 := h1 a (by omega)
    have h3 := (hV b (by omega) a).2 ⟨by omega, hr⟩
    rw [BitVec.getLsbD_and, h3, Bool.true_and, BitVec.getLsbD_not, hs a (by omega)] at h2
    simpa [show a < 16 by omega] using h2
  · rintro h k ⟨j, hj, rfl⟩
    have hk : 0 + 1 * j < n := by omega
    generalize 0 + 1 * j = k at hk
    unfold okk
    rw [hs k (by omega)]
    cases hb : m.testBit k with
    | false => rfl
    | true =>
      rw [Bool.not_true, Bool.false_or, bv_zero, Vector.getElem?_eq_getElem (by omega), Option.getD_some]
      intro a ha
      rw [BitVec.getLsbD_and, BitVec.getLsbD_not, hs a ha]
      cases hv : V[k].getLsbD a with
      | false => rfl
      | true =>
        have := (hV k (by omega) a).1 hv
        simp [h a k this.2 hb]
theorem prog40 {p : Poset} {V : Vector (BitVec 16) 12} {n : Nat} (hl : InR n p.Pairs) (hp : p.N = (n : Int)) (hn : n ≤ 12) (hV : Bits V (Reach p.Pairs)) : ∀ (k m fu : Nat), m + k = 2 ^ n → k < fu →
    ∃ s, whileM (lat_Downs_B2 p V n) fu (BitVec.ofNat 16 m, downs p.Pairs m) = some (.inl (s, downs p.Pairs (2 ^ n))) := by
  have hup : upTo p.N = some n := by rw [hp]; unfold upTo; rw [if_pos (by omega)]; rfl
  have hpw := pow_le hn
  have hsh : ((1 : BitVec 16) <<< n).toNat = 2 ^ n := by
    rw [BitVec.toNat_shiftLeft, Nat.shiftLeft_eq]
    simp only [BitVec.ofNat_eq_ofNat, BitVec.toNat_ofNat]
    generalize 2 ^ n = q at hpw
    omega
  have hsucc : ∀ m, downs p.Pairs (m + 1) = bif isDown p.Pairs m then downs p.Pairs m ++ [BitVec.ofInt 16 (m : Int)] else downs p.Pairs m := fun m => rfl
  generalize 2 ^ n = q at hpw hsh ⊢
  intro k
  induction k with
  | zero =>
    intro m fu hm hf
    obtain ⟨fu, rfl⟩ : ∃ f, fu = f + 1 := ⟨fu - 1, by omega⟩
    have hm' : m = q := by omega
    subst hm'
    refine ⟨BitVec.ofNat 16 m, ?_⟩
    have e : (BitVec.ofNat 16 m).toNat = m := by rw [BitVec.toNat_ofNat]; omega
    have step : lat_Downs_B2 p V n (BitVec.ofNat 16 m, downs p.Pairs m) = some (.brk (BitVec.ofNat 16 m, downs p.Pairs m)) := by
      unfold lat_Downs_B2
      rw [show decide (((BitVec.ofNat 16 m, downs p.Pairs m).1.toNat : Int) < (((1 : BitVec 16) <<< n).toNat : Int)) = false from by rw [hsh]; exact decide_eq_false (by show ¬ ((BitVec.ofNat 16 m).toNat : Int) < m; omega)]
      rfl
    unfold whileM
    rw [step]; rfl
  | succ k ih =>
    intro m fu hm hf
    obtain ⟨fu, rfl⟩ : ∃ f, fu = f + 1 := ⟨fu - 1, by omega⟩
    obtain ⟨s, hs⟩ := ih (m + 1) fu (by omega) (by omega)
    refine ⟨s, ?_⟩
    have hdl := downs_len p.Pairs m
    have e : (BitVec.ofNat 16 m).toNat = m := by rw [BitVec.toNat_ofNat]; omega
    have e1 : BitVec.ofNat 16 m + (1 : BitVec 16) = BitVec.ofNat 16 (m + 1) := by simp [BitVec.ofNat_add]
    have e2 : BitVec.ofInt 16 (m : Int) = BitVec.ofNat 16 m := by simp
    have step : lat_Downs_B2 p V n (BitVec.ofNat 16 m, downs p.Pairs m) = some (.go (BitVec.ofNat 16 (m + 1), downs p.Pairs (m + 1))) := by
      unfold lat_Downs_B2
      rw [show decide (((BitVec.ofNat 16 m, downs p.Pairs m).1.toNat : Int) < (((1 : BitVec 16) <<< n).toNat : Int)) = true from by rw [hsh]; exact decide_eq_true (by show ((BitVec.ofNat 16 m).toNat : Int) < q; omega)]
      rw [cond_true, hup, Option.bind_some]
      show (rangeF (lat_Downs_B4 V (BitVec.ofNat 16 m)) n 0 true).bind _ = _
      rw [rangeF_and (g := okk V (BitVec.ofNat 16 m)) n 0 true fun j z _ hj => prog47 (by omega) z, Option.bind_some, Bool.true_and, okk_all hl hn (by omega) hV]
      show (bif isDown p.Pairs m then (room (downs p.Pairs m) [BitVec.ofNat 16 m]).bind _ else _) = _
      rw [hsucc, e1]
      cases hd : isDown p.Pairs m with
      | false => rfl
      | true => rw [cond_true, cond_true, room_ok (by simp; omega), e2]; rfl
    unfold whileM
    rw [step]
    exact hs
theorem downs_law {x : Poset} {n fu : Nat} (hx : posetCode x 0) (hN : x.N = (n : Int)) (h12 : n ≤ 12) (hfu : 5000 ≤ fu) : lat_Downs fu x = some (downs x.Pairs (2 ^ n), 0) := by
  obtain ⟨z, c', e2, h2, h3, h4⟩ := close_law (p := x)
  obtain rfl := posetCode_one hx h2
  rcases hx with ⟨_, h⟩ | ⟨n', hn, hN', ⟨h, _⟩ | ⟨hc, _⟩⟩
  · cases h
  · exact absurd rfl h
  · obtain rfl : n' = n := by omega
    obtain ⟨_, hin⟩ := pairsCode_zero hc
    obtain ⟨h5, h6⟩ := h4 rfl
    obtain ⟨V, eV, hV⟩ := before_law (z := z) (c := 0) fun q hq => by
      obtain ⟨a, b, e, hr⟩ := h5 q hq
      have := hr.lt hin
      exact ⟨a, b, e, by omega, by omega⟩
    have hV' : Bits V (Reach x.Pairs) := fun b hb a => by
      rw [hV b hb a]
      constructor
      · rintro ⟨k1, k2⟩
        obtain ⟨a', b', e, hr⟩ := h5 _ k2
        simp only [Pair.mk.injEq, Int.natCast_inj] at e
        obtain ⟨rfl, rfl⟩ := e
        exact ⟨k1, hr⟩
      · rintro ⟨k1, k2⟩
        exact ⟨k1, h6 a b k2⟩
    have hpw := pow_le h12
    obtain ⟨s, es⟩ := prog40 hin hN h12 hV' (2 ^ n') 0 fu (by omega) (by omega)
    unfold lat_Downs
    rw [e2, Option.bind_some]
    rw [show ((z, (0 : Int)).2 != 0) = false from rfl, cond_false, show decide (x.N > 12) = false from decide_eq_false (by omega), cond_false]
    show (rangeF (lat_Downs_B0 (z, 0)) z.length 0 (Vector.replicate 12 0)).bind _ = _
    rw [eV, Option.bind_some, hN, cnt_nat, Option.bind_some]
    show andThen (whileM (lat_Downs_B2 x V n') fu (BitVec.ofNat 16 0, downs x.Pairs 0)) _ = _
    rw [es]; rfl
end Go.Proofs.Ytclmlddmgccfjaa
