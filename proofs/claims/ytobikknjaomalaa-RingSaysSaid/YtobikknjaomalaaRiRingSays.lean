/-
  RingSays: the plain law.
-/
import Derived.Test.YtobikknjaomalaaRiLib
namespace Go.Proofs.Ytobikknjaomalaa
open Enc

def va (a : List Int) (j : Nat) : Int := a[j]?.getD 0
theorem va_get {a : List Int} {j : Nat} (h : j < a.length) : a[j]? = some (va a j) := by simp [va, h]
theorem lat_va {a : List Int} {j : Nat} (h : j < a.length) : lat a (j : Int) = some (va a j) := by rw [lat_nat, va_get h]
structure RingOk (a : List Int) : Prop where
  n1 : 1 ≤ a.length
  n2 : a.length ≤ 30
  inj : ∀ i j, i < a.length → j < a.length → va a i = va a j → i = j
theorem idx_self {a : List Int} {i : Nat} (hi : i < a.length) : (idxI (va a i == ·) a = (i : Int)) ↔ ∀ j, j < i → va a j ≠ va a i := by
  rw [idxI_some]
  constructor
  · rintro ⟨x, _, _, h3⟩ j hj e
    have := h3 j _ hj (va_get (by omega))
    simp [e] at this
  · intro h
    refine ⟨_, va_get hi, by simp, fun j y hj hy => ?_⟩
    rw [va_get (by omega)] at hy
    obtain rfl := Option.some.inj hy
    have := h j hj
    simp; omega
theorem take_has {a : List Int} {i : Nat} (hi : i < a.length) (x : Int) : x ∈ a.take i ↔ ∃ j, j < i ∧ va a j = x := by
  constructor
  · intro h
    obtain ⟨j, hj⟩ := List.getElem?_of_mem h
    have hl := (List.getElem?_eq_some_iff.1 hj).1
    have hl' : j < i := by simp at hl; omega
    rw [List.getElem?_take_of_lt hl', va_get (by omega)] at hj
    exact ⟨j, hl', Option.some.inj hj⟩
  · rintro ⟨j, hj, rfl⟩
    refine List.mem_of_getElem? (i := j) ?_
    rw [List.getElem?_take_of_lt hj, va_get (by omega)]
theorem ccut {a : List Int} {i : Nat} (hi : i < a.length) : cutL a 0 (i : Int) = some (a.take i) := by
  unfold cutL; rw [if_pos (by omega)]; rfl
theorem body_eq {a : List Int} {i : Nat} (hi : i < a.length) : partref_RingErr_B0 a i () = ring_Check_B0 a i () := by
  unfold partref_RingErr_B0 ring_Check_B0
  rw [lat_va hi, ccut hi]
  simp only [Option.bind_some, eq_slices_Index_int_int, eq_slices_Contains_int_int]
  have : (idxI (va a i == ·) a != (i : Int)) = (a.take i).contains (va a i) := by
    rw [Bool.eq_iff_iff, List.contains_iff_mem, take_has hi]
    have h := idx_self hi
    constructor
    · intro h1
      refine Classical.byContradiction fun h2 => ?_
      have : idxI (va a i == ·) a = (i : Int) := h.2 fun j hj e => h2 ⟨j, hj, e⟩
      simp [this] at h1
    · rintro ⟨j, hj, e⟩
      refine Classical.byContradiction fun h2 => ?_
      have h3 : idxI (va a i == ·) a = (i : Int) := by simpa using h2
      exact h.1 h3 j hj e
  rw [this]
theorem check_eq (a : List Int) : ring_Check a = partref_RingErr a := by
  unfold partref_RingErr ring_Check
  have : decide ((a.length : Int) < 1) = ((a.length : Int) == 0) := by rw [Bool.eq_iff_iff, decide_eq_true_eq, beq_iff_eq]; omega
  rw [this, rangeM_congr a.length 0 () fun j _ _ hj => (body_eq (a := a) (i := j) (by omega)).symm]
theorem check_law (a : List Int) : Tot (partref_RingErr a) fun r => r = 0 → RingOk a := by
  unfold partref_RingErr
  simp only [cond_some, Option.bind_some, Bool.cond_true_left]
  rw [Tot.ite_iff]
  refine ⟨fun _ => Tot.some_iff.2 fun h => (by cases h), fun hn => ?_⟩
  have hn' : 1 ≤ a.length ∧ a.length ≤ 30 := by simp only [Bool.or_eq_false_iff, beq_eq_false_iff_ne, decide_eq_false_iff_not] at hn; omega
  rw [Tot.andThen_iff]
  refine Tot.rangeM (fun i _ => ∀ j, j < i → idxI (va a j == ·) a = (j : Int)) (fun j h => by omega) ?_ ?_
  · intro i _ _ hi hI
    have hi' : i < a.length := by omega
    unfold partref_RingErr_B0
    rw [lat_va hi']
    simp only [Option.bind_some, eq_slices_Index_int_int, cond_some]
    rw [Tot.some_iff]
    cases (bif decide (va a i < 0) then true else decide (va a i > 16777215)) with
    | true => exact fun (h : (1 : Int) = 0) => (by cases h)
    | false =>
    cases h : (idxI (va a i == ·) a != (i : Int)) with
    | true => exact fun (h : (4 : Int) = 0) => (by cases h)
    | false =>
    intro j hj
    by_cases e : j = i
    · subst e; simpa using h
    · exact hI j (by omega)
  · intro _ hI
    rw [Nat.zero_add] at hI
    refine Tot.some_iff.2 fun _ => ⟨hn'.1, hn'.2, fun i j hi hj e => ?_⟩
    rcases Nat.lt_trichotomy i j with h | h | h
    · exact absurd e ((idx_self hj).1 (hI j hj) i h)
    · exact h
    · exact absurd e.symm ((idx_self hi).1 (hI i hi) j h)

/- ## the round -/
def hop (a : List Int) (o : Nat) : Nat → Nat → Nat
  | 0, _ => 0
  | k + 1, d => if va a ((o + d) % a.length) ≥ va a o then 1 else 1 + hop a o k (d + 1)
def rem (a : List Int) (o d : Nat) : Nat := hop a o (a.length + 1 - d) d
theorem rem_hit {a : List Int} {o d : Nat} (hd : d ≤ a.length) (h : va a ((o + d) % a.length) ≥ va a o) : rem a o d = 1 := by
  unfold rem
  rw [show a.length + 1 - d = (a.length - d) + 1 by omega, hop, if_pos h]
theorem rem_go {a : List Int} {o d : Nat} (hd : d ≤ a.length) (h : ¬ va a ((o + d) % a.length) ≥ va a o) : rem a o d = 1 + rem a o (d + 1) := by
  unfold rem
  rw [show a.length + 1 - d = (a.length + 1 - (d + 1)) + 1 by omega, hop, if_neg h]
theorem hop_le (a : List Int) (o : Nat) : ∀ k d, hop a o k d ≤ k
  | 0, _ => Nat.le_refl _
  | k + 1, d => by
    have := hop_le a o k (d + 1)
    unfold hop; split <;> omega
theorem rem_le (a : List Int) (o d : Nat) : rem a o d ≤ a.length + 1 - d := hop_le a o _ d
theorem rem_lt (a : List Int) {o d : Nat} (ho : o < a.length) (hd : d = a.length) : rem a o d = 1 := by
  refine rem_hit (by omega) ?_
  rw [hd, Nat.add_mod_right, Nat.mod_eq_of_lt ho]; exact Int.le_refl _
def totR (a : List Int) : Nat → Nat
  | 0 => 0
  | k + 1 => totR a k + rem a k 1
theorem totR_le {a : List Int} (hn : a.length ≤ 30) : ∀ k, totR a k ≤ 30 * k
  | 0 => Nat.le_refl _
  | k + 1 => by
    have := totR_le hn k
    have := rem_le a k 1
    unfold totR; omega
theorem nz_ok {j : Int} (h : j ≠ 0) : nz j = some () := by unfold nz; rw [if_neg h]
theorem tmodN (x n : Nat) : ((x : Int)).tmod (n : Int) = ((x % n : Nat) : Int) := by
  rw [Int.tmod_eq_emod_of_nonneg (by omega)]; rfl
theorem roundI {a : List Int} (h : RingOk a) {i s fu : Nat} (hi : i < a.length) (hs : s ≤ 1000) (hf : 40 ≤ fu) : ring_Round_B0 fu a i (s : Int) = some (((s + rem a i 1 : Nat)) : Int) := by
  refine Tot.eq ?_
  unfold ring_Round_B0
  have h1 := h.n1
  have h2 := h.n2
  rw [lat_va hi, Option.bind_some, Tot.andThen_iff]
  refine Tot.whileM (fun z => ∃ d t : Nat, z = ((t : Int), (d : Int)) ∧ 1 ≤ d ∧ d ≤ a.length ∧ t + rem a i d = s + rem a i 1) (fun z => a.length + 1 - z.2.toNat) ⟨1, s, rfl, Nat.le_refl _, h1, rfl⟩ (by simp; omega) ?_
  rintro _ ⟨d, t, rfl, hd1, hd2, e⟩
  unfold ring_Round_B2
  have hr := rem_le a i 1
  have e1 : w64 ((i : Int) + (d : Int)) = ((i + d : Nat) : Int) := by rw [w64_id (by omega) (by omega)]; rfl
  have e2 : w64 ((t : Int) + 1) = ((t + 1 : Nat) : Int) := by rw [w64_id (by omega) (by omega)]; rfl
  have e3 : w64 ((d : Int) + 1) = ((d + 1 : Nat) : Int) := by rw [w64_id (by omega) (by omega)]; rfl
  have hlt : (i + d) % a.length < a.length := Nat.mod_lt _ (by omega)
  simp only
  rw [nz_ok (by omega), Option.bind_some, e1, e2, e3, tmodN, lat_va hlt, Option.bind_some, Tot.ite_iff]
  constructor
  · intro hc
    have hc' := of_decide_eq_true hc
    rw [Tot.some_iff]
    refine Tot.some_iff.2 ?_
    rw [rem_hit hd2 hc'] at e
    rw [← e]
  · intro hc
    have hc' := of_decide_eq_false hc
    have hne : d ≠ a.length := fun e' => hc' (by rw [e', Nat.add_mod_right, Nat.mod_eq_of_lt hi]; exact Int.le_refl _)
    rw [Tot.some_iff, Tot.go_iff]
    rw [rem_go hd2 hc'] at e
    refine ⟨⟨d + 1, t + 1, rfl, by omega, by omega, by omega⟩, ?_⟩
    simp only [Int.toNat_natCast]; omega
structure Lead (a : List Int) (m : Nat) : Prop where
  lt : m < a.length
  top : ∀ i, i < a.length → va a i ≤ va a m
theorem leader_eq {a : List Int} (h : RingOk a) {fu : Nat} (hf : 40 ≤ fu) : ∃ m, Lead a m ∧ ring_leader fu a = some (m : Int) := by
  have h1 := h.n1
  have h2 := h.n2
  unfold ring_leader slices_Max_int_int
  rw [show decide ((a.length : Int) < 1) = false from decide_eq_false (by omega), cond_false, show (0 : Int) = ((0 : Nat) : Int) from rfl, lat_va (by omega), Option.bind_some]
  obtain ⟨r, j, e, h3, h4⟩ := max_loop (l := a) (body := slices_Max_int_int_B0 a) (by omega) (fun m i => rfl) fu 1 (va a 0) (by omega) (by omega)
  rw [show (1 : Int) = ((1 : Nat) : Int) from rfl, e]
  have hmem : r ∈ a := by
    rcases h4 with h4 | h4
    · rw [h4]; exact List.mem_of_getElem? (va_get (by omega))
    · exact List.mem_of_mem_drop h4
  obtain ⟨m, hm⟩ := List.getElem?_of_mem hmem
  have hml := (List.getElem?_eq_some_iff.1 hm).1
  rw [va_get hml] at hm
  have hr := Option.some.inj hm
  have htop := (h3 r).1 (Int.le_refl _)
  refine ⟨m, ⟨hml, fun i hi => ?_⟩, ?_⟩
  · rw [hr]
    by_cases e0 : i = 0
    · subst e0; exact htop.1
    · refine htop.2 _ (List.mem_of_getElem? (i := i - 1) ?_)
      rw [List.getElem?_drop, show 1 + (i - 1) = i by omega, va_get hi]
  · simp only [andThen, Option.bind_some, eq_slices_Index_int_int]
    show some (idxI (r == ·) a) = some (m : Int)
    rw [← hr, (idx_self hml).2 fun j hj e' => ?_]
    have := h.inj j m (by omega) hml e'
    omega
theorem round_law {a : List Int} (h : RingOk a) (hc : ring_Check a = some 0) {fu : Nat} (hf : 40 ≤ fu) {m : Nat} (hm : ring_leader fu a = some (m : Int)) : ring_Round fu a = some ((m : Int), ((totR a a.length : Nat) : Int), 0) := by
  refine Tot.eq ?_
  have h1 := h.n1
  have h2 := h.n2
  unfold ring_Round
  rw [hc, Option.bind_some, show ((0 : Int) != 0) = false from rfl, cond_false, Tot.bind_iff]
  refine Tot.rangeF (fun i z => z = ((totR a i : Nat) : Int)) rfl ?_ ?_
  · rintro i _ _ hi rfl
    have hb := totR_le h2 i
    rw [roundI h (by omega) (by omega) hf]
    exact Tot.some_iff.2 rfl
  · rintro _ rfl
    rw [Nat.zero_add, hm]
    exact Tot.some_iff.2 rfl

/- ## the reference's round -/
structure TokOk (a : List Int) (r : Nat) (t : Token) (o : Nat) : Prop where
  lt : o < a.length
  of : t.of = (o : Int)
  at_ : t.at_ = (((o + r) % a.length : Nat) : Int)
  low : ∀ d, 1 ≤ d → d ≤ r → va a ((o + d) % a.length) < va a o
def sumR (a : List Int) (d : Nat) : List Token → Nat
  | [] => 0
  | t :: l => rem a t.of.toNat d + sumR a d l
theorem sumR_append (a : List Int) (d : Nat) : ∀ l m, sumR a d (l ++ m) = sumR a d l + sumR a d m
  | [], m => by simp [sumR]
  | t :: l, m => by simp only [List.cons_append, sumR, sumR_append a d l m]; omega
theorem wrap_to {n o m : Nat} (ho : o < n) (hm : m < n) (h : o ≠ m) : ∃ d, 1 ≤ d ∧ d < n ∧ (o + d) % n = m := by
  by_cases k : o < m
  · exact ⟨m - o, by omega, by omega, by rw [show o + (m - o) = m by omega, Nat.mod_eq_of_lt hm]⟩
  · refine ⟨m + n - o, by omega, by omega, ?_⟩
    rw [show o + (m + n - o) = m + n by omega, Nat.add_mod_right, Nat.mod_eq_of_lt hm]
theorem wrap_self {n o d : Nat} (ho : o < n) (h1 : 1 ≤ d) (h2 : d < n) : (o + d) % n ≠ o := by
  by_cases k : o + d < n
  · rw [Nat.mod_eq_of_lt k]; omega
  · rw [Nat.mod_eq_sub_mod (by omega), Nat.mod_eq_of_lt (by omega)]; omega
theorem TokOk.short {a : List Int} {r : Nat} {t : Token} {o : Nat} (h : TokOk a r t o) : r < a.length := by
  refine Classical.byContradiction fun k => ?_
  have h1 := h.low a.length (by have := h.lt; omega) (by omega)
  rw [Nat.add_mod_right, Nat.mod_eq_of_lt h.lt] at h1
  omega
structure StepR (a : List Int) (m r S : Nat) (rest : List Token) (z : Int × Int × List Token) (s : Nat) : Prop where
  cnt : z.1 = (s : Int)
  sum : s + sumR a (r + 1) rest + sumR a (r + 2) z.2.2 = S
  ok : ∀ t ∈ z.2.2, ∃ o, TokOk a (r + 1) t o
  lead : z.2.1 = (m : Int) ∨ (∃ t ∈ rest, t.of = (m : Int)) ∨ ∃ t ∈ z.2.2, t.of = (m : Int)
theorem stepR {a : List Int} (h : RingOk a) {m : Nat} (hm : Lead a m) {r S : Nat} {l : List Token} (hl : ∀ t ∈ l, ∃ o, TokOk a r t o) (hS : S ≤ 1000) {i : Nat} (hi : i < l.length) {z : Int × Int × List Token} {s : Nat} (hz : StepR a m r S (l.drop i) z s) (hlen : z.2.2.length ≤ 1000) :
    Tot (partref_Round_B4 a l i z) fun z' => StepR a m r S (l.drop (i + 1)) z' (s + 1) ∧ z'.2.2.length ≤ z.2.2.length + 1 := by
  obtain ⟨s0, lead, nx⟩ := z
  obtain ⟨e1, e2, e3, e4⟩ := hz
  simp only at e1 e2 e3 e4 hlen
  subst e1
  have hx : lat l (i : Int) = some l[i] := by rw [lat_nat]; simp [hi]
  have hdrop : l.drop i = l[i] :: l.drop (i + 1) := List.drop_eq_getElem_cons hi
  obtain ⟨o, ho⟩ := hl l[i] (List.getElem_mem _)
  have h1 := h.n1
  have h2 := h.n2
  have hlt := ho.lt
  have hr := ho.short
  rw [hdrop] at e2 e4
  have hto : l[i].of.toNat = o := by rw [ho.of]; rfl
  simp only [sumR, hto] at e2
  have hsm : s ≤ 1000 := by omega
  have eat : (w64 (l[i].at_ + 1)).tmod (a.length : Int) = (((o + (r + 1)) % a.length : Nat) : Int) := by
    have : (o + r) % a.length < a.length := Nat.mod_lt _ (by omega)
    rw [ho.at_, w64_id (by omega) (by omega), show ((((o + r) % a.length : Nat) : Int) + 1) = (((o + r) % a.length + 1 : Nat) : Int) from rfl, tmodN, Nat.mod_add_mod]; rfl
  have es : w64 ((s : Int) + 1) = ((s + 1 : Nat) : Int) := by rw [w64_id (by omega) (by omega)]; rfl
  have hp : (o + (r + 1)) % a.length < a.length := Nat.mod_lt _ (by omega)
  unfold partref_Round_B4
  rw [hx, Option.bind_some, nz_ok (by omega), Option.bind_some, Let_eq, eat, es, Tot.ite_iff, ho.of]
  have hwrap : (o + (r + 1)) % a.length = o → r + 1 = a.length := fun k => by
    refine Classical.byContradiction fun k2 => ?_
    exact wrap_self hlt (by omega) (by omega) k
  constructor
  · intro hc
    have hc' : (o + (r + 1)) % a.length = o := Int.natCast_inj.1 (by simpa using hc)
    have hrn := hwrap hc'
    have hom : o = m := by
      refine Classical.byContradiction fun k => ?_
      obtain ⟨d, d1, d2, d3⟩ := wrap_to hlt hm.lt k
      have := ho.low d d1 (by omega)
      rw [d3] at this
      have := hm.top o hlt
      omega
    rw [rem_hit (by omega) (by rw [hc']; exact Int.le_refl _)] at e2
    exact Tot.some_iff.2 ⟨⟨rfl, by simp only; omega, e3, .inl (by simp only [hom])⟩, by simp⟩
  · intro hc
    have hc' : (o + (r + 1)) % a.length ≠ o := fun k => by rw [k] at hc; simp at hc
    simp only
    rw [lat_va hlt, Option.bind_some, lat_va hp, Option.bind_some, Tot.ite_iff]
    constructor
    · intro hg
      have hg' : va a ((o + (r + 1)) % a.length) < va a o := of_decide_eq_true hg
      rw [rem_go (by omega) (by omega), show r + 1 + 1 = r + 2 from rfl] at e2
      rw [room_ok (by simp; omega), Option.bind_some]
      refine Tot.some_iff.2 ⟨⟨rfl, ?_, ?_, ?_⟩, by simp⟩
      · simp only [sumR_append, sumR]
        rw [show ((o : Int)).toNat = o from rfl]; omega
      · intro t ht
        rcases List.mem_append.1 ht with ht | ht
        · exact e3 t ht
        · rw [List.mem_singleton] at ht
          subst ht
          refine ⟨o, hlt, rfl, rfl, fun d d1 d2 => ?_⟩
          by_cases k : d = r + 1
          · rw [k]; exact hg'
          · exact ho.low d d1 (by omega)
      · rcases e4 with e4 | ⟨t, ht, e4⟩ | ⟨t, ht, e4⟩
        · exact .inl e4
        · rcases List.mem_cons.1 ht with rfl | ht
          · refine .inr (.inr ⟨_, List.mem_append.2 (.inr (List.mem_singleton.2 rfl)), ?_⟩)
            simp only; rw [← ho.of]; exact e4
          · exact .inr (.inl ⟨t, ht, e4⟩)
        · exact .inr (.inr ⟨t, List.mem_append.2 (.inl ht), e4⟩)
    · intro hg
      have hg' : ¬ va a ((o + (r + 1)) % a.length) < va a o := of_decide_eq_false hg
      rw [rem_hit (by omega) (by omega)] at e2
      refine Tot.some_iff.2 ⟨⟨rfl, by simp only; omega, e3, ?_⟩, by simp⟩
      rcases e4 with e4 | ⟨t, ht, e4⟩ | e4
      · exact .inl e4
      · rcases List.mem_cons.1 ht with rfl | ht
        · have hom : o = m := Int.natCast_inj.1 (ho.of.symm.trans e4)
          have h3 := hm.top _ hp
          rw [← hom] at h3
          exact absurd (h.inj _ _ hp hlt (by omega)) hc'
        · exact .inr (.inl ⟨t, ht, e4⟩)
      · exact .inr (.inr e4)
theorem sumR_ge {a : List Int} {r : Nat} : ∀ {l : List Token}, (∀ t ∈ l, ∃ o, TokOk a r t o) → l.length ≤ sumR a (r + 1) l
  | [], _ => Nat.le_refl _
  | t :: l, h => by
    have ih := sumR_ge (l := l) fun t ht => h t (List.mem_cons_of_mem _ ht)
    obtain ⟨o, ho⟩ := h t List.mem_cons_self
    have hr := ho.short
    have : 1 ≤ rem a t.of.toNat (r + 1) := by
      unfold rem
      rw [show a.length + 1 - (r + 1) = (a.length - (r + 1)) + 1 by omega, hop]
      split <;> omega
    simp only [List.length_cons, sumR]
    omega
theorem ref_round {a : List Int} (h : RingOk a) {m : Nat} (hm : Lead a m) {fu : Nat} (hf : 2000 ≤ fu) : partref_Round fu a = some ((m : Int), ((totR a a.length : Nat) : Int)) := by
  refine Tot.eq ?_
  have h1 := h.n1
  have h2 := h.n2
  have hS : totR a a.length ≤ 1000 := by have := totR_le h2 a.length; omega
  unfold partref_Round
  rw [Tot.bind_iff]
  refine Tot.rangeF (fun i l => l.length = i ∧ sumR a 1 l = totR a i ∧ (∀ t ∈ l, ∃ o, TokOk a 0 t o) ∧ (m < i → ∃ t ∈ l, t.of = (m : Int))) ⟨rfl, rfl, fun t ht => (by cases ht), fun k => by omega⟩ ?_ ?_
  · rintro i l _ hi ⟨e1, e2, e3, e4⟩
    unfold partref_Round_B0
    rw [room_ok (by simp; omega), Option.bind_some]
    refine Tot.some_iff.2 ⟨by simp [e1], ?_, ?_, ?_⟩
    · rw [sumR_append, e2]; simp [sumR, totR]
    · intro t ht
      rcases List.mem_append.1 ht with ht | ht
      · exact e3 t ht
      · rw [List.mem_singleton] at ht
        subst ht
        exact ⟨i, by omega, rfl, by simp only; rw [Nat.add_zero, Nat.mod_eq_of_lt (by omega)], fun d _ _ => by omega⟩
    · intro k
      by_cases k2 : m = i
      · exact ⟨_, List.mem_append.2 (.inr (List.mem_singleton.2 rfl)), by simp [k2]⟩
      · obtain ⟨t, ht, e⟩ := e4 (by omega)
        exact ⟨t, List.mem_append.2 (.inl ht), e⟩
  · rintro l0 ⟨l1, l2, l3, l4⟩
    rw [Nat.zero_add] at l1 l2 l4
    rw [Tot.andThen_iff]
    refine Tot.whileM (fun z => ∃ r s : Nat, z.1 = (s : Int) ∧ s + sumR a (r + 1) z.2.2 = totR a a.length ∧ (∀ t ∈ z.2.2, ∃ o, TokOk a r t o) ∧ (z.2.1 = (m : Int) ∨ ∃ t ∈ z.2.2, t.of = (m : Int))) (fun z => totR a a.length - z.1.toNat)
      ⟨0, 0, rfl, by simpa using l2, l3, .inr (l4 hm.lt)⟩ (by simp only; omega) ?_
    rintro ⟨s0, lead, l⟩ ⟨r, s, e1, e2, e3, e4⟩
    simp only at e1 e2 e3 e4
    subst e1
    have hge := sumR_ge e3
    unfold partref_Round_B2
    rw [Tot.ite_iff]
    constructor
    · intro hc
      have hc' : 0 < l.length := by have := of_decide_eq_true hc; simp only at this; omega
      simp only
      rw [Tot.bind_iff]
      refine Tot.rangeF (fun i z => StepR a m r (totR a a.length) (l.drop i) z (s + i) ∧ z.2.2.length ≤ i) ?_ ?_ ?_
      · refine ⟨⟨rfl, ?_, fun t ht => (by cases ht), ?_⟩, Nat.le_refl _⟩
        · simpa [sumR] using e2
        · rcases e4 with e4 | e4
          · exact .inl e4
          · exact .inr (.inl (by simpa using e4))
      · rintro i z _ hi ⟨hz, hzl⟩
        refine Tot.mono (stepR h hm e3 hS (by omega) hz (by omega)) fun z' ⟨q1, q2⟩ => ⟨q1, by omega⟩
      · rintro ⟨s1, lead1, nx⟩ ⟨⟨q1, q2, q3, q4⟩, q5⟩
        rw [Nat.zero_add, List.drop_length] at q2 q4
        rw [Nat.zero_add] at q1
        simp only [sumR] at q1 q2 q3 q4 q5
        refine Tot.some_iff.2 (Tot.go_iff.2 ⟨⟨r + 1, s + l.length, q1, by simpa using q2, q3, ?_⟩, ?_⟩)
        · rcases q4 with q4 | ⟨t, ht, _⟩ | q4
          · exact .inl q4
          · cases ht
          · exact .inr q4
        · simp only [q1, Int.toNat_natCast]; omega
    · intro hc
      have hc' : l = [] := by have := of_decide_eq_false hc; simp only at this; exact List.length_eq_zero_iff.1 (by omega)
      subst hc'
      refine Tot.some_iff.2 (Tot.brk_iff.2 (Tot.inl_iff.2 (Tot.some_iff.2 ?_)))
      rcases e4 with e4 | ⟨t, ht, _⟩
      · simp only [sumR] at e2
        simp only [e4]
        rw [← e2]; simp
      · cases ht

/- ## halves: what one token costs -/
def cst (a : List Int) (o c y : Nat) : Nat → Nat → Nat × Bool
  | 0, _ => (y, true)
  | k + 1, p => if (p + c) % a.length = o then (1, true) else if va a ((p + c) % a.length) > va a o then (1, false) else (1 + (cst a o c y k ((p + c) % a.length)).1, (cst a o c y k ((p + c) % a.length)).2)
theorem cst_le (a : List Int) (o c y : Nat) : ∀ k p, (cst a o c y k p).1 ≤ k + y
  | 0, _ => by simp [cst]
  | k + 1, p => by
    have := cst_le a o c y k ((p + c) % a.length)
    unfold cst
    split
    · simp only; omega
    · split <;> simp only <;> omega
theorem cst_top {a : List Int} {m : Nat} (hm : Lead a m) (c y : Nat) : ∀ k p, (cst a m c y k p).2 = true
  | 0, _ => rfl
  | k + 1, p => by
    have hlt : (p + c) % a.length < a.length := Nat.mod_lt _ (by have := hm.lt; omega)
    have h1 := hm.top _ hlt
    unfold cst
    split
    · rfl
    · rw [if_neg (by omega)]; exact cst_top hm c y k _
def DirOk (a : List Int) (w : Int) (c : Nat) : Prop := (w = 1 ∧ c = 1) ∨ (w = -1 ∧ c + 1 = a.length)
theorem send_pos {a : List Int} (h : RingOk a) {w : Int} {c i d : Nat} (hi : i < a.length) (hd : d ≤ 100) (hw : DirOk a w c) :
    (w64 ((w64 ((i : Int) + w64 (w * (d : Int)))).tmod (a.length : Int) + (a.length : Int))).tmod (a.length : Int) = (((i + c * d) % a.length : Nat) : Int) := by
  have h1 := h.n1
  have h2 := h.n2
  have hx : ∃ x : Int, x = (i : Int) + w * (d : Int) ∧ -100 ≤ x ∧ x ≤ 200 := by
    refine ⟨_, rfl, ?_⟩
    rcases hw with ⟨rfl, _⟩ | ⟨rfl, _⟩ <;> omega
  obtain ⟨x, ex, x1, x2⟩ := hx
  have e1 : w64 (w * (d : Int)) = w * (d : Int) := by
    rcases hw with ⟨rfl, _⟩ | ⟨rfl, _⟩ <;> exact w64_id (by omega) (by omega)
  rw [e1, ← ex, w64_id (x := x) (by omega) (by omega)]
  have hn : (0 : Int) < (a.length : Int) := by omega
  have b1 := Int.tmod_lt_of_pos x hn
  have b2 := Int.lt_tmod_of_pos x hn
  rw [w64_id (by omega) (by omega), Int.tmod_eq_emod_of_nonneg (by omega), Int.tmod_def, Int.add_emod_right, Int.sub_mul_emod_self_left, ex, Int.natCast_emod]
  rcases hw with ⟨rfl, rfl⟩ | ⟨rfl, hc⟩
  · rw [Int.one_mul, Nat.one_mul]; rfl
  · have : (((i + c * d : Nat)) : Int) = ((i : Int) + -1 * (d : Int)) + (a.length : Int) * (d : Int) := by
      rw [← hc]
      simp only [Int.natCast_add, Int.natCast_mul, Int.add_mul]
      omega
    rw [this, Int.add_mul_emod_self_left]
theorem send_law {a : List Int} (h : RingOk a) {w : Int} {c i y fu : Nat} (hi : i < a.length) (hy : y ≤ 60) (hw : DirOk a w c) (hf : 100 ≤ fu) :
    ring_send fu a (i : Int) w (y : Int) = some ((((cst a i c y y i).1 : Nat) : Int), (cst a i c y y i).2) := by
  refine Tot.eq ?_
  have h1 := h.n1
  have h2 := h.n2
  obtain ⟨T, hT⟩ : ∃ T, T = cst a i c y y i := ⟨_, rfl⟩
  rw [← hT]
  unfold ring_send
  rw [Tot.andThen_iff]
  refine Tot.whileM (fun z => ∃ d : Nat, z = ((d + 1 : Nat) : Int) ∧ d ≤ y ∧ d + (cst a i c y (y - d) ((i + c * d) % a.length)).1 = T.1 ∧ (cst a i c y (y - d) ((i + c * d) % a.length)).2 = T.2) (fun z => y + 2 - z.toNat)
    ⟨0, rfl, Nat.zero_le _, ?_, ?_⟩ (by simp; omega) ?_
  · rw [Nat.mul_zero, Nat.add_zero, Nat.mod_eq_of_lt hi, Nat.zero_add, Nat.sub_zero, hT]
  · rw [Nat.mul_zero, Nat.add_zero, Nat.mod_eq_of_lt hi, Nat.sub_zero, hT]
  · rintro _ ⟨d, rfl, hd, q1, q2⟩
    unfold ring_send_B0
    have hp : (i + c * (d + 1)) % a.length < a.length := Nat.mod_lt _ (by omega)
    have hpp : ((i + c * d) % a.length + c) % a.length = (i + c * (d + 1)) % a.length := by
      rw [Nat.mod_add_mod, Nat.mul_add, Nat.mul_one, Nat.add_assoc]
    rw [Tot.ite_iff]
    constructor
    · intro hc
      have hc' : d + 1 ≤ y := by have := of_decide_eq_true hc; omega
      rw [nz_ok (by omega), Option.bind_some, Option.bind_some, send_pos h hi (by omega) hw]
      rw [show y - d = (y - (d + 1)) + 1 by omega] at q1 q2
      unfold cst at q1 q2
      rw [hpp] at q1 q2
      rw [Tot.ite_iff]
      constructor
      · intro he
        have he' : (i + c * (d + 1)) % a.length = i := Int.natCast_inj.1 (by simpa using he)
        rw [if_pos he'] at q1 q2
        refine Tot.some_iff.2 (Tot.ret_iff.2 (Tot.inr_iff.2 ?_))
        rw [← q1, ← q2]
      · intro he
        have he' : (i + c * (d + 1)) % a.length ≠ i := fun k => by rw [k] at he; simp at he
        rw [if_neg he'] at q1 q2
        rw [lat_va hp, Option.bind_some, lat_va hi, Option.bind_some, Tot.ite_iff]
        constructor
        · intro hg
          rw [if_pos (of_decide_eq_true hg)] at q1 q2
          refine Tot.some_iff.2 (Tot.ret_iff.2 (Tot.inr_iff.2 ?_))
          rw [← q1, ← q2]
        · intro hg
          rw [if_neg (of_decide_eq_false hg)] at q1 q2
          rw [w64_id (by omega) (by omega)]
          refine Tot.some_iff.2 (Tot.go_iff.2 ⟨⟨d + 1, rfl, hc', ?_, q2⟩, ?_⟩)
          · simp only at q1; omega
          · omega
    · intro hc
      have hc' : d = y := by have := of_decide_eq_false hc; omega
      subst hc'
      refine Tot.some_iff.2 (Tot.brk_iff.2 (Tot.inl_iff.2 (Tot.some_iff.2 ?_)))
      rw [Nat.sub_self] at q1 q2
      simp only [cst] at q1 q2
      rw [← q1, ← q2, w64_id (by omega) (by omega)]
      congr 1
      omega

/- ## halves: one phase -/
def c1 (a : List Int) (y o : Nat) : Nat × Bool := cst a o 1 y y o
def c2 (a : List Int) (y o : Nat) : Nat × Bool := cst a o (a.length - 1) y y o
def good (a : List Int) (y o : Nat) : Bool := (c1 a y o).2 && (c2 a y o).2
def ph (a : List Int) (y : Nat) (f : Nat → Bool) (o : Nat) : Nat := if f o = true then (c1 a y o).1 + (c2 a y o).1 else 0
def totP (a : List Int) (y : Nat) (f : Nat → Bool) : Nat → Nat
  | 0 => 0
  | k + 1 => totP a y f k + ph a y f k
theorem ph_le (a : List Int) (y : Nat) (f : Nat → Bool) (o : Nat) : ph a y f o ≤ 4 * y := by
  have h1 := cst_le a o 1 y y o
  have h2 := cst_le a o (a.length - 1) y y o
  unfold ph c1 c2
  split <;> omega
theorem totP_le (a : List Int) (y : Nat) (f : Nat → Bool) : ∀ k, totP a y f k ≤ k * (4 * y)
  | 0 => Nat.zero_le _
  | k + 1 => by
    have := totP_le a y f k
    have := ph_le a y f k
    rw [Nat.succ_mul]; unfold totP; omega
theorem totP_le' {a : List Int} (h : RingOk a) (y : Nat) (f : Nat → Bool) {k : Nat} (hk : k ≤ a.length) : totP a y f k ≤ 120 * y := by
  have h1 := totP_le a y f k
  have h2 : k * (4 * y) ≤ 30 * (4 * y) := Nat.mul_le_mul_right _ (by have := h.n2; omega)
  omega
theorem ring_phase {a : List Int} (h : RingOk a) {s y fu : Nat} {l : List Bool} {f : Nat → Bool} (hl : LIs l a.length f) (hy : y ≤ 60) (hs : s ≤ 10000) (hf : 100 ≤ fu) :
    ∃ l', rangeF (ring_Halves_B2 fu a (y : Int)) l.length 0 ((s : Int), l) = some (((s + totP a y f a.length : Nat) : Int), l') ∧ LIs l' a.length (fun j => f j && good a y j) := by
  have h1 := h.n1
  have : Tot (rangeF (ring_Halves_B2 fu a (y : Int)) l.length 0 ((s : Int), l)) fun z => z.1 = ((s + totP a y f a.length : Nat) : Int) ∧ LIs z.2 a.length (fun j => f j && good a y j) := by
    rw [hl.1]
    refine Tot.rangeF (fun i z => z.1 = ((s + totP a y f i : Nat) : Int) ∧ LIs z.2 a.length (fun j => if j < i then f j && good a y j else f j)) ⟨rfl, ?_⟩ ?_ ?_
    · exact hl.to fun j _ => by rw [if_neg (by omega)]
    · rintro i ⟨t, l1⟩ _ hi ⟨e1, e2⟩
      have hi' : i < a.length := by omega
      simp only at e1 e2
      subst e1
      have hb := totP_le' h y f (k := i) (by omega)
      have hpb := ph_le a y f i
      unfold ring_Halves_B2
      simp only
      have hx : lat l1 (i : Int) = some (f i) := by rw [e2.lat hi', if_neg (by omega)]
      rw [hx, Option.bind_some, Tot.ite_iff]
      constructor
      · intro hc
        have hc' : f i = false := by simpa using hc
        refine Tot.some_iff.2 ⟨?_, e2.to fun j hj => ?_⟩
        · simp [totP, ph, hc']
        · by_cases k : j = i
          · subst k; rw [if_neg (by omega), if_pos (by omega), hc']; rfl
          · by_cases k2 : j < i
            · rw [if_pos k2, if_pos (by omega)]
            · rw [if_neg k2, if_neg (by omega)]
      · intro hc
        have hc' : f i = true := by simpa using hc
        have d1 : DirOk a 1 1 := .inl ⟨rfl, rfl⟩
        have d2 : DirOk a (-1) (a.length - 1) := .inr ⟨rfl, by omega⟩
        have hpe : ph a y f i = (c1 a y i).1 + (c2 a y i).1 := by unfold ph; rw [if_pos hc']
        rw [send_law h hi' hy d1 hf, Option.bind_some, send_law h hi' hy d2 hf, Option.bind_some]
        simp only [cond_some, Option.bind_some, Bool.cond_false_right]
        rw [Let_eq]
        rw [hpe] at hpb
        refine Tot.some_iff.2 ⟨?_, (e2.set i (good a y i)).to fun j hj => ?_⟩
        · show w64 ((((s + totP a y f i : Nat)) : Int) + w64 ((((c1 a y i).1 : Nat) : Int) + (((c2 a y i).1 : Nat) : Int))) = _
          rw [w64_id (x := (((c1 a y i).1 : Nat) : Int) + _) (by omega) (by omega), w64_id (by omega) (by omega), totP, hpe]
          omega
        · by_cases k : j = i
          · subst k; rw [upd_self, if_pos (by omega), hc']; rfl
          · rw [upd_ne k]
            by_cases k2 : j < i
            · rw [if_pos k2, if_pos (by omega)]
            · rw [if_neg k2, if_neg (by omega)]
    · rintro z ⟨e1, e2⟩
      rw [Nat.zero_add] at e1 e2
      exact ⟨e1, e2.to fun j hj => by rw [if_pos hj]⟩
  obtain ⟨⟨s', l'⟩, e, e1, e2⟩ := this
  simp only at e1 e2
  exact ⟨l', by rw [e, e1], e2⟩

/- ## halves: the reference's phase -/
def sm {α : Type} (g : α → Nat) : List α → Nat
  | [] => 0
  | x :: l => g x + sm g l
theorem sm_append {α : Type} (g : α → Nat) : ∀ l m, sm g (l ++ m) = sm g l + sm g m
  | [], m => by simp [sm]
  | x :: l, m => by simp only [List.cons_append, sm, sm_append g l m]; omega
def cl (f : Nat → Bool) : Nat → List Int
  | 0 => []
  | k + 1 => cl f k ++ (if f k = true then [(k : Int)] else [])
theorem cl_len (f : Nat → Bool) : ∀ k, (cl f k).length ≤ k
  | 0 => Nat.le_refl _
  | k + 1 => by
    have := cl_len f k
    unfold cl
    split <;> simp <;> omega
theorem cl_lt (f : Nat → Bool) : ∀ k x, x ∈ cl f k → ∃ o : Nat, x = (o : Int) ∧ o < k
  | 0, x, h => by cases h
  | k + 1, x, h => by
    unfold cl at h
    rcases List.mem_append.1 h with h | h
    · obtain ⟨o, e, ho⟩ := cl_lt f k x h; exact ⟨o, e, by omega⟩
    · split at h
      · exact ⟨k, by simpa using h, by omega⟩
      · cases h
theorem cl_congr {f g : Nat → Bool} : ∀ k, (∀ j, j < k → f j = g j) → cl f k = cl g k
  | 0, _ => rfl
  | k + 1, h => by unfold cl; rw [cl_congr k fun j hj => h j (by omega), h k (by omega)]
theorem cl_sm (g : Int → Nat) (f : Nat → Bool) : ∀ k, sm g (cl f (k + 1)) = sm g (cl f k) + if f k = true then g (k : Int) else 0 := fun k => by
  rw [cl, sm_append]
  split <;> simp [sm]
theorem cl_first {f : Nat → Bool} : ∀ k, (∃ j, j < k ∧ f j = true) → ∃ i, i < k ∧ f i = true ∧ (∀ j, j < i → f j = false) ∧ (cl f k)[0]? = some (i : Int)
  | 0, ⟨j, h, _⟩ => by omega
  | k + 1, ⟨j, hj, hf⟩ => by
    by_cases h : ∃ j, j < k ∧ f j = true
    · obtain ⟨i, h1, h2, h3, h4⟩ := cl_first k h
      have hl := (List.getElem?_eq_some_iff.1 h4).1
      exact ⟨i, by omega, h2, h3, by unfold cl; rw [List.getElem?_append_left hl]; exact h4⟩
    · have e : j = k := by
        refine Classical.byContradiction fun k2 => h ⟨j, by omega, hf⟩
      subst e
      have hno : ∀ i, i < j → f i = false := fun i hi => by
        cases hfi : f i with
        | true => exact absurd ⟨i, hi, hfi⟩ h
        | false => rfl
      have hnil : ∀ k, k ≤ j → cl f k = [] := by
        intro k
        induction k with
        | zero => intro _; rfl
        | succ k ih => intro hk; unfold cl; rw [ih (by omega), hno k (by omega)]; rfl
      exact ⟨j, by omega, hf, hno, by unfold cl; rw [hnil j (Nat.le_refl _), if_pos hf]; rfl⟩
def cOf (a : List Int) (w : Int) : Nat := if w = 1 then 1 else a.length - 1
def gT (a : List Int) (y : Nat) (t : Token) : Nat × Bool := cst a t.of.toNat (cOf a t.way) y t.left.toNat t.at_.toNat
structure TokH (a : List Int) (y : Nat) (t : Token) (o c k p : Nat) : Prop where
  lt : o < a.length
  of : t.of = (o : Int)
  at_ : t.at_ = (p : Int)
  pl : p < a.length
  way : DirOk a t.way c
  left : t.left = ((k + 1 : Nat) : Int)
  ky : k + 1 ≤ y
theorem DirOk.cOf {a : List Int} {w : Int} {c : Nat} (h : DirOk a w c) : cOf a w = c := by
  unfold Go.Proofs.Ytobikknjaomalaa.cOf
  rcases h with ⟨rfl, rfl⟩ | ⟨rfl, hc⟩
  · rfl
  · rw [if_neg (by decide)]; omega
theorem TokH.gT {a : List Int} {y : Nat} {t : Token} {o c k p : Nat} (h : TokH a y t o c k p) : gT a y t = cst a o c y (k + 1) p := by
  unfold Go.Proofs.Ytobikknjaomalaa.gT
  rw [h.of, h.at_, h.left, h.way.cOf]; rfl
def ofT (j : Nat) (b : Nat × Bool) (t : Token) : Nat := if t.of = (j : Int) ∧ b.2 = true then 1 else 0
def hits (a : List Int) (y j : Nat) (l : List Token) : Nat := sm (fun t => ofT j (gT a y t) t) l
theorem step_pos {a : List Int} (h : RingOk a) {w : Int} {c p : Nat} (hp : p < a.length) (hw : DirOk a w c) :
    (w64 (w64 ((p : Int) + w) + (a.length : Int))).tmod (a.length : Int) = (((p + c) % a.length : Nat) : Int) := by
  have h1 := h.n1
  have h2 := h.n2
  rcases hw with ⟨rfl, rfl⟩ | ⟨rfl, hc⟩
  · rw [w64_id (x := (p : Int) + 1) (by omega) (by omega), w64_id (by omega) (by omega)]
    rw [show (p : Int) + 1 + (a.length : Int) = ((p + 1 + a.length : Nat) : Int) from rfl, tmodN, Nat.add_mod_right]
  · rw [w64_id (x := (p : Int) + -1) (by omega) (by omega), w64_id (by omega) (by omega)]
    rw [show (p : Int) + -1 + (a.length : Int) = ((p + c : Nat) : Int) by omega, tmodN]
structure QH (a : List Int) (y T : Nat) (H : Nat → Nat) (z : Int × List Token × List Int) (s : Nat) (h : Nat → Nat) : Prop where
  cnt : z.1 = (s : Int)
  sum : s + sm (fun t => (gT a y t).1) z.2.1 = T
  home : LIs z.2.2 a.length (fun j => (h j : Int))
  all : ∀ j, j < a.length → h j + hits a y j z.2.1 = H j
  ok : ∀ t ∈ z.2.1, ∃ o c k p, TokH a y t o c k p
  len : z.2.1.length ≤ 100
theorem home_step {a : List Int} {H h : Nat → Nat} {o : Nat} {R : Nat → Nat} {t : Token} {b : Nat × Bool} (ht : t.of = (o : Int)) (hb : b.2 = true) (hall : ∀ j, j < a.length → h j + (ofT j b t + R j) = H j) :
    ∀ j, j < a.length → upd h o (h o + 1) j + R j = H j := by
  intro j hj
  have := hall j hj
  unfold ofT at this
  by_cases k : j = o
  · subst k; rw [upd_self]; rw [if_pos ⟨ht, hb⟩] at this; omega
  · rw [upd_ne k]
    rw [if_neg fun e => k (Int.natCast_inj.1 (e.1.symm.trans ht))] at this; omega
theorem home_stay {a : List Int} {H h : Nat → Nat} {R : Nat → Nat} {t : Token} {b : Nat × Bool} (hb : b.2 = false) (hall : ∀ j, j < a.length → h j + (ofT j b t + R j) = H j) :
    ∀ j, j < a.length → h j + R j = H j := by
  intro j hj
  have := hall j hj
  unfold ofT at this
  rw [if_neg (by rw [hb]; simp)] at this; omega
theorem queue_step {a : List Int} (h : RingOk a) {y T : Nat} {H : Nat → Nat} (hy : y ≤ 60) (hT : T ≤ 100000) (hH : ∀ j, j < a.length → H j ≤ 2) {z : Int × List Token × List Int} {s : Nat} {f : Nat → Nat} (hz : QH a y T H z s f) :
    Tot (partref_Halves_B6 a (y : Int) z) (Tot.CtlOk (fun z' => (∃ s' f', QH a y T H z' s' f') ∧ sm (fun t => t.left.toNat) z'.2.1 < sm (fun t => t.left.toNat) z.2.1) (fun z' => z' = z ∧ z.2.1 = []) fun _ => False) := by
  obtain ⟨s0, l, hm⟩ := z
  obtain ⟨e1, e2, e3, e4, e5, e6⟩ := hz
  simp only at e1 e2 e3 e4 e5 e6
  subst e1
  unfold partref_Halves_B6
  simp only
  rw [Tot.ite_iff]
  constructor
  · intro hc
    have h1 := h.n1
    have h2 := h.n2
    cases l with
    | nil => simp at hc
    | cons t l =>
    have hcut : cutL (t :: l) (1 : Int) (((t :: l).length : Nat) : Int) = some l := by
      unfold cutL
      rw [if_pos (by simp; omega)]
      simp
    have hx : lat (t :: l) (0 : Int) = some t := rfl
    rw [hx, Option.bind_some, hcut, Option.bind_some, nz_ok (by omega), Option.bind_some, Let_eq, Let_eq]
    obtain ⟨o, c, k, p, ht⟩ := e5 t List.mem_cons_self
    have hlt := ht.lt
    have hp : (p + c) % a.length < a.length := Nat.mod_lt _ (by omega)
    have eat : (w64 ((w64 (t.at_ + t.way)) + (a.length : Int))).tmod (a.length : Int) = (((p + c) % a.length : Nat) : Int) := by
      rw [ht.at_]; exact step_pos h ht.pl ht.way
    have hky := ht.ky
    have elf : w64 (t.left - 1) = (k : Int) := by rw [ht.left, w64_id (by omega) (by omega)]; omega
    simp only [sm] at e2
    have ghd := ht.gT
    rw [ghd] at e2
    have e4' : ∀ j, j < a.length → f j + (ofT j (cst a o c y (k + 1) p) t + hits a y j l) = H j := fun j hj => by
      have := e4 j hj
      unfold hits at this
      simp only [sm] at this
      rw [ghd] at this
      exact this
    have hto : t.of.toNat = o := by rw [ht.of]; rfl
    have hlen : l.length ≤ 99 := by simp at e6; omega
    have hfo : f o ≤ 2 := by have := e4' o hlt; have := hH o hlt; omega
    have es : w64 ((s : Int) + 1) = ((s + 1 : Nat) : Int) := by rw [w64_id (by omega) (by omega)]; rfl
    have ho1 : lat hm (o : Int) = some ((f o : Nat) : Int) := e3.lat hlt
    have hhome : LIs (hm.set o (w64 (((f o : Nat) : Int) + 1))) a.length (fun j => ((upd f o (f o + 1) j : Nat) : Int)) := (e3.set o _).to fun j hj => by
      by_cases kk : j = o
      · subst kk; rw [upd_self, upd_self, w64_id (by omega) (by omega)]; rfl
      · rw [upd_ne kk, upd_ne kk]
    have hleft : sm (fun t => t.left.toNat) l < sm (fun t => t.left.toNat) (t :: l) := by
      simp only [sm]; rw [ht.left]; omega
    have e5' : ∀ t ∈ l, ∃ o c k p, TokH a y t o c k p := fun t ht => e5 t (List.mem_cons_of_mem _ ht)
    simp only [eat, elf, es, ht.of, Int.toNat_natCast]
    rw [cst] at e2 e4'
    rw [Tot.ite_iff]
    constructor
    · intro he
      have he' : (p + c) % a.length = o := Int.natCast_inj.1 (by simpa using he)
      rw [if_pos he'] at e2 e4'
      rw [ho1, Option.bind_some, Option.bind_some, Let_eq]
      refine Tot.some_iff.2 (Tot.go_iff.2 ⟨⟨s + 1, _, rfl, ?_, hhome, home_step ht.of rfl e4', e5', ?_⟩, hleft⟩)
      · simp only at e2 ⊢; omega
      · simp only; omega
    · intro he
      have he' : (p + c) % a.length ≠ o := fun k => by rw [k] at he; simp at he
      rw [if_neg he'] at e2 e4'
      rw [lat_va hp, Option.bind_some, lat_va hlt, Option.bind_some, Tot.ite_iff]
      constructor
      · intro hg
        rw [if_pos (of_decide_eq_true hg)] at e2 e4'
        refine Tot.some_iff.2 (Tot.go_iff.2 ⟨⟨s + 1, f, rfl, ?_, e3, home_stay rfl e4', e5', ?_⟩, hleft⟩)
        · simp only at e2 ⊢; omega
        · simp only; omega
      · intro hg
        rw [if_neg (of_decide_eq_false hg)] at e2 e4'
        rw [Tot.ite_iff]
        constructor
        · intro hk
          have hk' : k = 0 := by simpa using hk
          subst hk'
          rw [ho1, Option.bind_some, Option.bind_some, Let_eq]
          simp only [cst] at e2 e4'
          have ey : w64 (((s + 1 : Nat) : Int) + (y : Int)) = ((s + (1 + y) : Nat) : Int) := by rw [w64_id (by omega) (by omega)]; omega
          rw [ey]
          refine Tot.some_iff.2 (Tot.go_iff.2 ⟨⟨s + (1 + y), _, rfl, ?_, hhome, home_step ht.of rfl e4', e5', ?_⟩, hleft⟩)
          · simp only; omega
          · simp only; omega
        · intro hk
          have hk' : k ≠ 0 := fun e => by rw [e] at hk; simp at hk
          obtain ⟨k, rfl⟩ : ∃ k', k = k' + 1 := ⟨k - 1, by omega⟩
          rw [room_ok (by simp; omega), Option.bind_some]
          have hnew : TokH a y ({ of := (o : Int), at_ := (((p + c) % a.length : Nat) : Int), way := t.way, left := ((k + 1 : Nat) : Int) } : Token) o c k ((p + c) % a.length) := ⟨hlt, rfl, rfl, hp, ht.way, rfl, by omega⟩
          have hg2 := hnew.gT
          refine Tot.some_iff.2 (Tot.go_iff.2 ⟨⟨s + 1, f, rfl, ?_, e3, fun j hj => ?_, ?_, ?_⟩, ?_⟩)
          · simp only [sm_append, sm, hg2]
            simp only at e2; omega
          · have := e4' j hj
            unfold hits
            simp only [sm_append, sm, hg2]
            unfold hits at this
            have e : ofT j (1 + (cst a o c y (k + 1) ((p + c) % a.length)).1, (cst a o c y (k + 1) ((p + c) % a.length)).2) t = ofT j (cst a o c y (k + 1) ((p + c) % a.length)) ({ of := (o : Int), at_ := (((p + c) % a.length : Nat) : Int), way := t.way, left := ((k + 1 : Nat) : Int) } : Token) := by
              unfold ofT
              rw [ht.of]
            rw [e] at this
            omega
          · intro t' ht'
            rcases List.mem_append.1 ht' with ht' | ht'
            · exact e5' t' ht'
            · rw [List.mem_singleton] at ht'
              subst ht'
              exact ⟨o, c, k, _, hnew⟩
          · simp; omega
          · simp only [sm_append, sm]
            rw [ht.left]
            simp only [Int.toNat_natCast]
            omega
  · intro hc
    have hc' : l = [] := by have := of_decide_eq_false hc; exact List.length_eq_zero_iff.1 (by omega)
    exact Tot.some_iff.2 (Tot.brk_iff.2 ⟨rfl, hc'⟩)

def Hof (a : List Int) (y : Nat) (f : Nat → Bool) (j : Nat) : Nat := if f j = true then (if (c1 a y j).2 = true then 1 else 0) + (if (c2 a y j).2 = true then 1 else 0) else 0
theorem Hof_two {a : List Int} {y : Nat} {f : Nat → Bool} {j : Nat} : Hof a y f j ≤ 2 ∧ ((((Hof a y f j : Nat) : Int) == 2) = (f j && good a y j)) := by
  unfold Hof good
  cases f j <;> cases (c1 a y j).2 <;> cases (c2 a y j).2 <;> simp
def gC (a : List Int) (y : Nat) (x : Int) : Nat := (c1 a y x.toNat).1 + (c2 a y x.toNat).1
def gH (a : List Int) (y j : Nat) (x : Int) : Nat := if x = (j : Int) then (if (c1 a y j).2 = true then 1 else 0) + (if (c2 a y j).2 = true then 1 else 0) else 0
theorem cl_cost (a : List Int) (y : Nat) (f : Nat → Bool) : ∀ k, sm (gC a y) (cl f k) = totP a y f k
  | 0 => rfl
  | k + 1 => by
    rw [cl_sm, cl_cost a y f k]; rfl
theorem cl_hits (a : List Int) (y : Nat) (f : Nat → Bool) (j : Nat) : ∀ k, sm (gH a y j) (cl f k) = if j < k then Hof a y f j else 0
  | 0 => rfl
  | k + 1 => by
    rw [cl_sm, cl_hits a y f j k]
    by_cases e : j = k
    · subst e
      rw [if_neg (Nat.lt_irrefl j), if_pos (Nat.lt_succ_self j), Nat.zero_add]
      unfold gH Hof
      rw [if_pos rfl]
    · have : gH a y j (k : Int) = 0 := by unfold gH; rw [if_neg fun e' => e (Int.natCast_inj.1 e').symm]
      rw [this]
      have : (if f k = true then 0 else 0) = 0 := by split <;> rfl
      rw [this, Nat.add_zero]
      by_cases e2 : j < k
      · rw [if_pos e2, if_pos (by omega)]
      · rw [if_neg e2, if_neg (by omega)]
theorem sm_left {a : List Int} {y : Nat} (hy : y ≤ 60) : ∀ {l : List Token}, (∀ t ∈ l, ∃ o c k p, TokH a y t o c k p) → sm (fun t => t.left.toNat) l ≤ 60 * l.length
  | [], _ => Nat.le_refl _
  | t :: l, h => by
    have ih := sm_left hy (l := l) fun t ht => h t (List.mem_cons_of_mem _ ht)
    obtain ⟨o, c, k, p, ht⟩ := h t List.mem_cons_self
    have := ht.ky
    simp only [sm, List.length_cons]
    rw [ht.left]
    simp only [Int.toNat_natCast]
    omega
def tokA (x : Int) (w : Int) (y : Int) : Token := { Token.zero with of := x, at_ := x, way := w, left := y }
theorem start_queue {a : List Int} (h : RingOk a) {y : Nat} {f : Nat → Bool} (hy : y ≤ 60) (hy1 : 1 ≤ y) :
    Tot (rangeF (partref_Halves_B4 (cl f a.length) (y : Int)) (cl f a.length).length 0 ([] : List Token)) fun l =>
      sm (fun t => (gT a y t).1) l = totP a y f a.length ∧ (∀ j, j < a.length → hits a y j l = Hof a y f j) ∧ (∀ t ∈ l, ∃ o c k p, TokH a y t o c k p) ∧ l.length ≤ 60 := by
  have h1 := h.n1
  have h2 := h.n2
  have hcl := cl_len f a.length
  refine Tot.rangeF (fun i l => sm (fun t => (gT a y t).1) l = sm (gC a y) ((cl f a.length).take i) ∧ (∀ j, j < a.length → hits a y j l = sm (gH a y j) ((cl f a.length).take i)) ∧ (∀ t ∈ l, ∃ o c k p, TokH a y t o c k p) ∧ l.length = 2 * i) ?_ ?_ ?_
  · exact ⟨rfl, fun _ _ => rfl, fun t ht => (by cases ht), rfl⟩
  · rintro i l _ hi ⟨e1, e2, e3, e4⟩
    have hi' : i < (cl f a.length).length := by omega
    obtain ⟨o, ho, hlt⟩ := cl_lt f a.length _ (List.getElem_mem hi')
    have hx : lat (cl f a.length) (i : Int) = some (o : Int) := by rw [lat_nat, List.getElem?_eq_getElem hi', ho]
    have htake : (cl f a.length).take (i + 1) = (cl f a.length).take i ++ [(o : Int)] := by rw [List.take_succ_eq_append_getElem hi', ho]
    have t1 : TokH a y (tokA (o : Int) 1 (y : Int)) o 1 (y - 1) o := ⟨hlt, rfl, rfl, hlt, .inl ⟨rfl, rfl⟩, by simp only [tokA]; omega, by omega⟩
    have t2 : TokH a y (tokA (o : Int) (-1) (y : Int)) o (a.length - 1) (y - 1) o := ⟨hlt, rfl, rfl, hlt, .inr ⟨rfl, by omega⟩, by simp only [tokA]; omega, by omega⟩
    have g1 := t1.gT
    have g2 := t2.gT
    rw [show y - 1 + 1 = y by omega] at g1 g2
    unfold partref_Halves_B4
    rw [hx, Option.bind_some, room_ok (by simp; omega), Option.bind_some]
    refine Tot.some_iff.2 ?_
    show sm (fun t => (gT a y t).1) (l ++ [tokA (o : Int) 1 (y : Int), tokA (o : Int) (-1) (y : Int)]) = _ ∧ (∀ j, j < a.length → hits a y j (l ++ [tokA (o : Int) 1 (y : Int), tokA (o : Int) (-1) (y : Int)]) = _) ∧ (∀ t ∈ l ++ [tokA (o : Int) 1 (y : Int), tokA (o : Int) (-1) (y : Int)], _) ∧ (l ++ [tokA (o : Int) 1 (y : Int), tokA (o : Int) (-1) (y : Int)]).length = _
    rw [htake]
    refine ⟨?_, fun j hj => ?_, ?_, ?_⟩
    · rw [sm_append, sm_append, e1]
      simp only [sm, g1, g2, gC, Int.toNat_natCast]
      unfold c1 c2; omega
    · have := e2 j hj
      unfold hits at this ⊢
      rw [sm_append, sm_append, this]
      simp only [sm, g1, g2]
      unfold ofT gH c1 c2
      simp only [tokA]
      by_cases e : o = j
      · subst e; simp
      · have e' : ¬ ((o : Int) = (j : Int)) := by omega
        simp [e']
    · intro t ht
      rcases List.mem_append.1 ht with ht | ht
      · exact e3 t ht
      · rcases List.mem_cons.1 ht with rfl | ht
        · exact ⟨_, _, _, _, t1⟩
        · rw [List.mem_singleton] at ht; subst ht; exact ⟨_, _, _, _, t2⟩
    · simp; omega
  · rintro l ⟨e1, e2, e3, e4⟩
    rw [Nat.zero_add, List.take_length] at e1 e2
    refine ⟨by rw [e1, cl_cost], fun j hj => by rw [e2 j hj, cl_hits, if_pos hj], e3, by omega⟩
theorem ref_phase {a : List Int} (h : RingOk a) {s y fu : Nat} {f : Nat → Bool} (hy : y ≤ 60) (hy1 : 1 ≤ y) (hs : s ≤ 10000) (hf : 7000 ≤ fu) :
    partref_Halves_B2 fu a ((s : Int), cl f a.length, (y : Int)) = bif decide ((y : Int) ≥ (a.length : Int)) then ((lat (cl (fun j => f j && good a y j) a.length) (0 : Int)).bind fun x68 => some (.ret (x68, ((s + totP a y f a.length : Nat) : Int)))) else some (.go (((s + totP a y f a.length : Nat) : Int), cl (fun j => f j && good a y j) a.length, w64 ((y : Int) * 2))) := by
  have h1 := h.n1
  have h2 := h.n2
  have hb := totP_le' h y f (k := a.length) (Nat.le_refl _)
  unfold partref_Halves_B2
  simp only
  have hmk : mkLen (a.length : Int) = some a.length := by unfold mkLen; rw [if_pos (by omega)]; rfl
  rw [hmk, Option.bind_some]
  obtain ⟨l0, q0, q1, q2, q3, q4⟩ := start_queue h (f := f) hy hy1
  rw [q0, Option.bind_some]
  have hq : Tot (whileM (partref_Halves_B6 a (y : Int)) fu ((s : Int), l0, List.replicate a.length (0 : Int))) fun o => ∃ hm, o = .inl (((s + totP a y f a.length : Nat) : Int), [], hm) ∧ LIs hm a.length (fun j => ((Hof a y f j : Nat) : Int)) := by
    refine Tot.whileM (fun z => ∃ s' f', QH a y (s + totP a y f a.length) (Hof a y f) z s' f') (fun z => sm (fun t => t.left.toNat) z.2.1) ?_ ?_ ?_
    · exact ⟨s, fun _ => 0, rfl, by rw [q1], LIs.rep, fun j hj => by rw [Nat.zero_add]; exact q2 j hj, q3, by simp only; omega⟩
    · have := sm_left hy q3
      simp only; omega
    · rintro z ⟨s', f', hz⟩
      refine Tot.mono (queue_step h hy (by omega) (fun j _ => Hof_two.1) hz) fun o ho => ?_
      cases o with
      | go z' => exact ho
      | brk z' =>
        obtain ⟨rfl, e⟩ := ho
        obtain ⟨s0, l, hm⟩ := z'
        obtain ⟨e1, e2, e3, e4, _, _⟩ := hz
        simp only at e e1 e2 e3 e4
        subst e
        simp only [sm, Nat.add_zero] at e2
        refine ⟨hm, by rw [e1, e2], e3.to fun j hj => ?_⟩
        have := e4 j hj
        simp only [hits, sm, Nat.add_zero] at this
        rw [this]
      | ret t => exact ho.elim
  obtain ⟨_, e, hm, rfl, hh⟩ := hq
  rw [e]
  have hcand : rangeF (partref_Halves_B9 hm) hm.length 0 ([] : List Int) = some (cl (fun j => f j && good a y j) a.length) := by
    refine Tot.eq ?_
    rw [hh.1]
    refine Tot.rangeF (fun i l => l = cl (fun j => f j && good a y j) i) rfl ?_ fun l hl => by rw [hl, Nat.zero_add]
    rintro i _ _ hi rfl
    have hcl := cl_len (fun j => f j && good a y j) i
    unfold partref_Halves_B9
    rw [hh.lat (by omega), Option.bind_some, Hof_two.2, cl, Tot.ite_iff]
    constructor
    · intro hc
      rw [room_ok (by simp; omega), Option.bind_some, if_pos hc]
      exact Tot.some_iff.2 rfl
    · intro hc
      rw [if_neg (by rw [hc]; decide), List.append_nil]
      exact Tot.some_iff.2 rfl
  simp only [andThen, Option.bind_some, Sum.elim_inl]
  rw [hcand]
  rfl
theorem idx_first {l : List Bool} {n : Nat} {f : Nat → Bool} (hl : LIs l n f) {i : Nat} (hi : i < n) (h1 : f i = true) (h2 : ∀ j, j < i → f j = false) : idxI (true == ·) l = (i : Int) := by
  rw [idxI_some]
  refine ⟨true, by rw [hl.2 i hi, h1], rfl, fun j y hj hy => ?_⟩
  rw [hl.2 j (by omega), h2 j hj] at hy
  cases hy; rfl
theorem halves_loop {a : List Int} (h : RingOk a) {m : Nat} (hm : Lead a m) {fu : Nat} (hf : 7000 ≤ fu) : ∀ (k s y : Nat) (f : Nat → Bool) (l : List Bool), LIs l a.length f → f m = true → 1 ≤ y → y ≤ 60 → s ≤ 120 * y → a.length - y < k →
    ∃ r T : Int, whileM (ring_Halves_B0 fu a) k ((s : Int), (y : Int), l) = some (.inr (r, T, 0)) ∧ whileM (partref_Halves_B2 fu a) k ((s : Int), cl f a.length, (y : Int)) = some (.inr (r, T))
  | 0, s, y, f, l, _, _, _, _, _, hk => by omega
  | k + 1, s, y, f, l, hl, hfm, hy1, hy, hs, hk => by
    have h1 := h.n1
    have h2 := h.n2
    have hb := totP_le' h y f (k := a.length) (Nat.le_refl _)
    obtain ⟨l', p1, p2⟩ := ring_phase h hl hy (s := s) (by omega) (fu := fu) (by omega)
    have hgm : (f m && good a y m) = true := by rw [hfm]; unfold good c1 c2; rw [cst_top hm, cst_top hm]; rfl
    have hB : ring_Halves_B0 fu a ((s : Int), (y : Int), l) = bif decide ((y : Int) ≥ (a.length : Int)) then ((slices_Index_bool_bool l' true).bind fun r50 => some (.ret (r50, ((s + totP a y f a.length : Nat) : Int), 0))) else some (.go (((s + totP a y f a.length : Nat) : Int), w64 ((y : Int) * 2), l')) := by
      unfold ring_Halves_B0
      simp only
      rw [p1, Option.bind_some]
    unfold whileM
    rw [ref_phase h hy hy1 (s := s) (by omega) hf, hB]
    by_cases hc : y ≥ a.length
    · have hc' : decide ((y : Int) ≥ (a.length : Int)) = true := decide_eq_true (by omega)
      obtain ⟨i, i1, i2, i3, i4⟩ := cl_first (f := fun j => f j && good a y j) a.length ⟨m, hm.lt, hgm⟩
      refine ⟨(i : Int), ((s + totP a y f a.length : Nat) : Int), ?_, ?_⟩
      · rw [hc', cond_true, eq_slices_Index_bool_bool, idx_first p2 i1 i2 i3]; rfl
      · rw [hc', cond_true, show (0 : Int) = ((0 : Nat) : Int) from rfl, lat_nat, i4]; rfl
    · have hc' : decide ((y : Int) ≥ (a.length : Int)) = false := decide_eq_false (by omega)
      have ey : w64 ((y : Int) * 2) = ((y * 2 : Nat) : Int) := by rw [w64_id (by omega) (by omega)]; rfl
      rw [hc', cond_false, cond_false, ey]
      exact halves_loop h hm hf k _ (y * 2) _ l' p2 hgm (by omega) (by omega) (by omega) (by omega)
theorem halves_law {a : List Int} (h : RingOk a) {m : Nat} (hm : Lead a m) (hc : ring_Check a = some 0) {fu : Nat} (hf : 7000 ≤ fu) :
    ∃ r T : Int, ring_Halves fu a = some (r, T, 0) ∧ partref_Halves fu a = some (r, T) := by
  have h1 := h.n1
  have h2 := h.n2
  obtain ⟨r, T, q1, q2⟩ := halves_loop h hm hf fu 0 1 (fun _ => true) (List.replicate a.length true) LIs.rep rfl (Nat.le_refl _) (by omega) (by omega) (by omega)
  refine ⟨r, T, ?_, ?_⟩
  · unfold ring_Halves
    rw [hc, Option.bind_some, show ((0 : Int) != 0) = false from rfl, cond_false, eq_slices_Repeat_bool_bool h1 (by omega) (by omega), Option.bind_some]
    rw [show (0 : Int) = ((0 : Nat) : Int) from rfl, show (1 : Int) = ((1 : Nat) : Int) from rfl, q1]
    rfl
  · unfold partref_Halves
    have hmk : mkLen (a.length : Int) = some a.length := by unfold mkLen; rw [if_pos (by omega)]; rfl
    rw [hmk, Option.bind_some]
    have hstart : rangeF (partref_Halves_B0) ((List.replicate a.length (0 : Int)).length) 0 (List.replicate a.length (0 : Int)) = some (cl (fun _ => true) a.length) := by
      refine Tot.eq ?_
      rw [List.length_replicate]
      refine Tot.rangeF (fun i l => LIs l a.length (fun j => if j < i then (j : Int) else 0)) ?_ ?_ ?_
      · exact LIs.rep.to fun j _ => by rw [if_neg (by omega)]
      · intro i l _ hi hI
        unfold partref_Halves_B0
        rw [hI.lat (by omega), Option.bind_some, Let_eq, Int.toNat_natCast]
        refine Tot.some_iff.2 ((hI.set i (i : Int)).to fun j hj => ?_)
        by_cases k : j = i
        · subst k; rw [upd_self, if_pos (by omega)]
        · rw [upd_ne k]
          by_cases k2 : j < i
          · rw [if_pos k2, if_pos (by omega)]
          · rw [if_neg k2, if_neg (by omega)]
      · intro l hI
        rw [Nat.zero_add] at hI
        have hcl : ∀ k, LIs (cl (fun _ => true) k) k (fun j => (j : Int)) := by
          intro k
          induction k with
          | zero => exact LIs.nil
          | succ k ih => unfold cl; rw [if_pos rfl]; exact ih.snoc rfl
        exact (hI.to fun j hj => by rw [if_pos hj]).ext (hcl _)
    rw [hstart, Option.bind_some]
    rw [show (0 : Int) = ((0 : Nat) : Int) from rfl, show (1 : Int) = ((1 : Nat) : Int) from rfl, q2]
    rfl
theorem ringsays_law (a : List Int) (_ : Rng.ok a) : ∃ fu, partlaw_RingSays fu a = some true := by
  refine ⟨7000, ?_⟩
  obtain ⟨e, he, hok⟩ := check_law a
  have hc := check_eq a
  rw [he] at hc
  unfold partlaw_RingSays
  rw [he, Option.bind_some]
  by_cases h0 : e = 0
  · subst h0
    have h := hok rfl
    obtain ⟨m, hm, hl⟩ := leader_eq h (fu := 7000) (by omega)
    obtain ⟨r, T, q1, q2⟩ := halves_law h hm hc (Nat.le_refl 7000)
    rw [round_law h hc (by omega) hl, Option.bind_some, q1, Option.bind_some, hc, Option.bind_some, ref_round h hm (by omega), Option.bind_some, q2]
    simp
  · have h0' : (e != 0) = true := by simpa using h0
    have r1 : ring_Round 7000 a = some ((0 : Int), (0 : Int), e) := by unfold ring_Round; rw [hc, Option.bind_some, h0', cond_true]
    have r2 : ring_Halves 7000 a = some ((0 : Int), (0 : Int), e) := by unfold ring_Halves; rw [hc, Option.bind_some, h0', cond_true]
    rw [r1, r2, hc]
    simp [h0']
end Go.Proofs.Ytobikknjaomalaa
