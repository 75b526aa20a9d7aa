/-
  Numbers in six digits, each with a base of its own.
-/
import Derived.Test.YtclmlddmgccfjaaGoW
namespace Go.Proofs.Ytclmlddmgccfjaa
open Enc

def mm (N : Nat → Nat) : Nat → Nat
  | 0 => 1
  | d + 1 => N (5 - d) * mm N d
/-- So many numbers have the digits from p on. -/
def many (N : Nat → Nat) (p : Nat) : Nat := mm N (6 - p)
def dig (N : Nat → Nat) (t q : Nat) : Nat := t / many N (q + 1) % N q
def vecOf (N : Nat → Nat) (t : Nat) : Vector Int 6 := Vector.ofFn fun q => (dig N t q : Int)
def setFrom (N : Nat → Nat) (p : Nat) (c : Vector Int 6) (t : Nat) : Vector Int 6 := Vector.ofFn fun q => if q.val < p then c[q.val] else (dig N t q : Int)
section
variable {N : Nat → Nat}
theorem many_end : many N 6 = 1 := rfl
theorem many_step {p : Nat} (hp : p < 6) : many N p = N p * many N (p + 1) := by
  unfold many
  rw [show 6 - p = (6 - (p + 1)) + 1 by omega]
  show N (5 - (6 - (p + 1))) * _ = _
  rw [show 5 - (6 - (p + 1)) = p by omega]
theorem many_pos (hN : ∀ p, 0 < N p) (p : Nat) : 0 < many N p := by
  unfold many
  generalize 6 - p = d
  induction d with
  | zero => exact Nat.one_pos
  | succ d ih => exact Nat.mul_pos (hN _) ih
theorem many_dvd {p q : Nat} (h : q ≤ p) (hp : p ≤ 6) : many N p ∣ many N q := by
  obtain ⟨d, rfl⟩ := Nat.exists_eq_add_of_le h
  clear h
  induction d generalizing q with
  | zero => exact Nat.dvd_refl _
  | succ d ih =>
    rw [many_step (show q < 6 by omega)]
    refine Nat.dvd_trans ?_ (Nat.dvd_mul_left _ _)
    have := ih (q := q + 1) (by omega)
    rwa [show q + 1 + d = q + (d + 1) by omega] at this
theorem dig_lt (hN : ∀ p, 0 < N p) {t q : Nat} : dig N t q < N q := Nat.mod_lt _ (hN q)
theorem dig_self (hN : ∀ p, 0 < N p) {k t p : Nat} (ht : t < many N (p + 1)) (hk : k < N p) : dig N (k * many N (p + 1) + t) p = k := by
  unfold dig
  have hm := many_pos hN (p + 1)
  rw [Nat.mul_comm, Nat.mul_add_div hm, Nat.div_eq_of_lt ht, Nat.add_zero, Nat.mod_eq_of_lt hk]
theorem dig_add (hN : ∀ p, 0 < N p) {k t p q : Nat} (hp : p < q) (hq : q < 6) : dig N (k * many N (p + 1) + t) q = dig N t q := by
  unfold dig
  obtain ⟨m, hm⟩ := many_dvd (N := N) (show p + 1 ≤ q by omega) (show q ≤ 6 by omega)
  rw [hm, many_step hq]
  have h1 := many_pos hN (q + 1)
  rw [show k * (N q * many N (q + 1) * m) + t = many N (q + 1) * (N q * (k * m)) + t by ac_rfl, Nat.mul_add_div h1, Nat.mul_add_mod]
theorem setFrom_zero {c : Vector Int 6} {t : Nat} : setFrom N 0 c t = vecOf N t := by
  apply Vector.ext
  intro q hq
  simp [setFrom, vecOf]
theorem setFrom_end {c : Vector Int 6} {t : Nat} : setFrom N 6 c t = c := by
  apply Vector.ext
  intro q hq
  simp [setFrom, hq]
theorem setFrom_next (hN : ∀ p, 0 < N p) {c d : Vector Int 6} {k t p : Nat} (hp : p < 6) (ht : t < many N (p + 1)) (hk : k < N p) (hd : ∀ (q : Nat) (hq : q < 6), q < p → d[q] = c[q]) :
    setFrom N (p + 1) (d.setIfInBounds p (k : Int)) t = setFrom N p c (k * many N (p + 1) + t) := by
  apply Vector.ext
  intro q hq
  simp only [setFrom, Vector.getElem_ofFn]
  rcases Nat.lt_trichotomy q p with e | e | e
  · rw [if_pos (by omega), if_pos e, Vector.getElem_setIfInBounds_ne hq (by omega), hd q hq e]
  · subst e
    rw [if_pos (by omega), if_neg (by omega), Vector.getElem_setIfInBounds_self, dig_self hN ht hk]
  · rw [if_neg (by omega), if_neg (by omega), dig_add hN e hq]
/-- The carry. -/
theorem carry (hN : ∀ p, 0 < N p) {i p : Nat} (hp : p < 6) (h : many N (p + 1) ∣ i + 1) :
    (dig N i p + 1 < N p → dig N (i + 1) p = dig N i p + 1 ∧ ∀ q, q < p → dig N (i + 1) q = dig N i q) ∧ (¬ dig N i p + 1 < N p → dig N (i + 1) p = 0 ∧ many N p ∣ i + 1) := by
  have hw := many_pos hN (p + 1)
  have hn := hN p
  obtain ⟨a, ha⟩ := h
  have ha1 : 1 ≤ a := by
    rcases Nat.eq_zero_or_pos a with e | e
    · subst e; omega
    · exact e
  have e1 : (i + 1) / many N (p + 1) = a := by rw [ha, Nat.mul_div_cancel_left _ hw]
  have e2 : i / many N (p + 1) = a - 1 := by
    have : i = many N (p + 1) * (a - 1) + (many N (p + 1) - 1) := by
      have : many N (p + 1) * a = many N (p + 1) * (a - 1) + many N (p + 1) := by
        conv => lhs; rw [show a = (a - 1) + 1 by omega, Nat.mul_succ]
      omega
    rw [this, Nat.mul_add_div hw, Nat.div_eq_of_lt (by omega), Nat.add_zero]
  have key : ∀ b : Nat, (b % N p + 1 < N p → (b + 1) % N p = b % N p + 1 ∧ (b + 1) / N p = b / N p) ∧ (¬ b % N p + 1 < N p → (b + 1) % N p = 0 ∧ N p ∣ b + 1) := by
    intro b
    have hb := Nat.div_add_mod b (N p)
    have hlt := Nat.mod_lt b hn
    constructor
    · intro k
      have e : b + 1 = N p * (b / N p) + (b % N p + 1) := by omega
      refine ⟨?_, ?_⟩
      · conv => lhs; rw [e]
        rw [Nat.mul_add_mod, Nat.mod_eq_of_lt k]
      · conv => lhs; rw [e]
        rw [Nat.mul_add_div hn, Nat.div_eq_of_lt k, Nat.add_zero]
    · intro k
      have e : b + 1 = N p * (b / N p + 1) := by rw [Nat.mul_succ]; omega
      exact ⟨by rw [e, Nat.mul_mod_right], ⟨_, e⟩⟩
  have k := key (a - 1)
  rw [show a - 1 + 1 = a by omega] at k
  unfold dig
  rw [e1, e2]
  refine ⟨fun h1 => ⟨(k.1 h1).1, fun q hq => ?_⟩, fun h1 => ⟨(k.2 h1).1, ?_⟩⟩
  · obtain ⟨m, hm⟩ := many_dvd (N := N) (show q + 1 ≤ p by omega) (show p ≤ 6 by omega)
    rw [hm, ← Nat.div_div_eq_div_mul, ← Nat.div_div_eq_div_mul]
    congr 2
    rw [many_step hp, Nat.mul_comm, ← Nat.div_div_eq_div_mul, ← Nat.div_div_eq_div_mul, e1, e2]
    exact (k.1 h1).2
  · obtain ⟨m, hm⟩ := (k.2 h1).2
    exact ⟨m, by rw [ha, hm, many_step hp]; ac_rfl⟩
theorem vecOf_get {t q : Nat} (hq : q < 6) : (vecOf N t)[q] = (dig N t q : Int) := by simp [vecOf]
end
def sumTo (f : Nat → Nat) : Nat → Nat
  | 0 => 0
  | n + 1 => sumTo f n + f n
theorem sumTo_le {f g : Nat → Nat} {n : Nat} (h : ∀ p, p < n → f p ≤ g p) : sumTo f n ≤ sumTo g n := by
  induction n with
  | zero => exact Nat.le_refl _
  | succ n ih =>
    have h1 := ih fun p hp => h p (by omega)
    have h2 := h n (by omega)
    show sumTo f n + f n ≤ sumTo g n + g n
    omega
theorem sumTo_lt {f g : Nat → Nat} {n p : Nat} (h : ∀ p, p < n → f p ≤ g p) (hp : p < n) (hlt : f p < g p) : sumTo f n < sumTo g n := by
  induction n with
  | zero => omega
  | succ n ih =>
    show sumTo f n + f n < sumTo g n + g n
    have h2 := h n (by omega)
    by_cases e : p = n
    · subst e
      have := sumTo_le fun q hq => h q (Nat.lt_succ_of_lt hq)
      omega
    · have := ih (fun q hq => h q (by omega)) (by omega)
      omega
theorem sumTo_one {f g : Nat → Nat} {n : Nat} (q : Nat) (h : ∀ p, p < n → p ≠ q → f p ≤ g p) (hq : f q ≤ g q + 1) : sumTo f n ≤ sumTo g n + 1 := by
  induction n with
  | zero => exact Nat.zero_le _
  | succ n ih =>
    show sumTo f n + f n ≤ sumTo g n + g n + 1
    by_cases e : n = q
    · subst e
      have := sumTo_le (f := f) (g := g) (n := n) fun p hp => h p (by omega) (by omega)
      omega
    · have := ih fun p hp hne => h p (by omega) hne
      have := h n (by omega) e
      omega
end Go.Proofs.Ytclmlddmgccfjaa
