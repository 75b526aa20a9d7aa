/-
  A small logic for specs: a spec comes to a value of which something holds.
-/
import Derived.Test.YtnkfphbggemlbaaGoN
namespace Go.Proofs.Ytnkfphbggemlbaa
open Enc

def Tot {α : Type} (x : Option α) (Q : α → Prop) : Prop := ∃ r, x = some r ∧ Q r
namespace Tot
variable {α β σ τ : Type}
theorem some_iff {a : α} {Q : α → Prop} : Tot (some a) Q ↔ Q a := ⟨fun ⟨_, h, q⟩ => by cases h; exact q, fun h => ⟨a, rfl, h⟩⟩
theorem bind_iff {x : Option α} {f : α → Option β} {Q : β → Prop} : Tot (x.bind f) Q ↔ Tot x fun a => Tot (f a) Q := by
  cases x with
  | none => exact ⟨fun ⟨_, h, _⟩ => (by cases h), fun ⟨_, h, _⟩ => (by cases h)⟩
  | some a => rw [Option.bind_some, some_iff]
theorem ite_iff {c : Bool} {x y : Option α} {Q : α → Prop} : Tot (bif c then x else y) Q ↔ (c = true → Tot x Q) ∧ (c = false → Tot y Q) := by cases c <;> simp
/-- What a part may come to that is over, or goes on. -/
def SumOk (A : σ → Prop) (B : τ → Prop) : σ ⊕ τ → Prop
  | .inl s => A s
  | .inr t => B t
theorem andThen_iff {x : Option (σ ⊕ τ)} {f : σ → Option τ} {Q : τ → Prop} : Tot (andThen x f) Q ↔ Tot x (SumOk (fun s => Tot (f s) Q) Q) := by
  unfold andThen
  rw [bind_iff]
  constructor <;> rintro ⟨o, h, q⟩ <;> refine ⟨o, h, ?_⟩ <;> cases o <;> simp_all [some_iff, SumOk]
theorem mono {x : Option α} {Q Q' : α → Prop} (h : Tot x Q) (hq : ∀ a, Q a → Q' a) : Tot x Q' := h.imp fun _ ⟨e, q⟩ => ⟨e, hq _ q⟩
theorem of_eq {x : Option α} {a : α} {Q : α → Prop} (h : x = some a) (q : Q a) : Tot x Q := ⟨a, h, q⟩
theorem eq {x : Option α} {a : α} (h : Tot x (· = a)) : x = some a := by obtain ⟨_, h1, rfl⟩ := h; exact h1
/-- A loop without a way out. -/
theorem rangeF {body : Nat → σ → Option σ} {Q : σ → Prop} (I : Nat → σ → Prop) : ∀ {k i : Nat} {s : σ}, I i s → (∀ j s, i ≤ j → j < i + k → I j s → Tot (body j s) (I (j + 1))) → (∀ s, I (i + k) s → Q s) → Tot (Ytnkfphbggemlbaa.rangeF body k i s) Q
  | 0, i, s, h, _, hq => ⟨s, rfl, hq s h⟩
  | k + 1, i, s, h, hb, hq => by
    obtain ⟨s1, h1, h2⟩ := hb i s (by omega) (by omega) h
    unfold Ytnkfphbggemlbaa.rangeF
    rw [h1]
    exact rangeF I h2 (fun j s a b => hb j s (by omega) (by omega)) (fun s hs => hq s (by rwa [show i + (k + 1) = i + 1 + k by omega]))
/-- What a round may come to. -/
def CtlOk (G B : σ → Prop) (R : τ → Prop) : Ctl σ τ → Prop
  | .go s => G s
  | .brk s => B s
  | .ret t => R t
theorem rangeM {body : Nat → σ → Option (Ctl σ τ)} {Q : σ ⊕ τ → Prop} (I : Nat → σ → Prop) : ∀ {k i : Nat} {s : σ}, I i s →
    (∀ j s, i ≤ j → j < i + k → I j s → Tot (body j s) (CtlOk (I (j + 1)) (fun s => Q (.inl s)) (fun t => Q (.inr t)))) → (∀ s, I (i + k) s → Q (.inl s)) → Tot (Ytnkfphbggemlbaa.rangeM body k i s) Q
  | 0, i, s, h, _, hq => ⟨_, rfl, hq s h⟩
  | k + 1, i, s, h, hb, hq => by
    obtain ⟨c, h1, h2⟩ := hb i s (by omega) (by omega) h
    unfold Ytnkfphbggemlbaa.rangeM
    rw [h1]
    cases c with
    | go s1 => exact rangeM I h2 (fun j s a b => hb j s (by omega) (by omega)) (fun s hs => hq s (by rwa [show i + (k + 1) = i + 1 + k by omega]))
    | brk s1 => exact ⟨_, rfl, h2⟩
    | ret t => exact ⟨_, rfl, h2⟩
theorem whileM {body : σ → Option (Ctl σ τ)} {Q : σ ⊕ τ → Prop} (I : σ → Prop) (μ : σ → Nat) : ∀ {fu : Nat} {s : σ}, I s → μ s < fu →
    (∀ s, I s → Tot (body s) (CtlOk (fun s' => I s' ∧ μ s' < μ s) (fun s => Q (.inl s)) (fun t => Q (.inr t)))) → Tot (Ytnkfphbggemlbaa.whileM body fu s) Q
  | 0, s, _, hf, _ => by omega
  | fu + 1, s, h, hf, hb => by
    obtain ⟨c, h1, h2⟩ := hb s h
    unfold Ytnkfphbggemlbaa.whileM
    rw [h1]
    cases c with
    | go s1 => exact whileM I μ h2.1 (by have := h2.2; omega) hb
    | brk s1 => exact ⟨_, rfl, h2⟩
    | ret t => exact ⟨_, rfl, h2⟩
end Tot

/-! ### A vector, a list, as a function -/
def upd {α : Type} (f : Nat → α) (i : Nat) (x : α) : Nat → α := fun j => if j = i then x else f j
theorem upd_self {α : Type} {f : Nat → α} {i : Nat} {x : α} : upd f i x i = x := by simp [upd]
theorem upd_ne {α : Type} {f : Nat → α} {i j : Nat} {x : α} (h : j ≠ i) : upd f i x j = f j := by simp [upd, h]
def VIs {α : Type} {n : Nat} (v : Vector α n) (f : Nat → α) : Prop := ∀ (i : Nat) (h : i < n), v[i] = f i
namespace VIs
variable {α : Type} {n : Nat} {v w : Vector α n} {f g : Nat → α}
theorem rep {x : α} : VIs (Vector.replicate n x) fun _ => x := fun i h => by simp
theorem set (h : VIs v f) (i : Nat) (x : α) : VIs (v.setIfInBounds i x) (upd f i x) := fun j hj => by
  by_cases e : j = i
  · subst e; rw [upd_self]; simp
  · rw [upd_ne e, Vector.getElem_setIfInBounds_ne hj (fun e' => e e'.symm)]; exact h j hj
theorem to (h : VIs v f) (e : ∀ i, i < n → f i = g i) : VIs v g := fun i hi => (h i hi).trans (e i hi)
end VIs
def LIs {α : Type} (l : List α) (n : Nat) (f : Nat → α) : Prop := l.length = n ∧ ∀ (i : Nat), i < n → l[i]? = some (f i)
namespace LIs
variable {α : Type} {n : Nat} {l m : List α} {f g : Nat → α}
theorem rep {x : α} : LIs (List.replicate n x) n fun _ => x := ⟨by simp, fun i h => by simp [h]⟩
theorem nil : LIs ([] : List α) 0 f := ⟨rfl, fun i h => by omega⟩
theorem set (h : LIs l n f) (i : Nat) (x : α) : LIs (l.set i x) n (upd f i x) := ⟨by simp [h.1], fun j hj => by
  by_cases e : j = i
  · subst e; rw [upd_self, List.getElem?_set_self (by rw [h.1]; exact hj)]
  · rw [upd_ne e, List.getElem?_set_ne (fun e' => e e'.symm)]; exact h.2 j hj⟩
theorem to (h : LIs l n f) (e : ∀ i, i < n → f i = g i) : LIs l n g := ⟨h.1, fun i hi => by rw [h.2 i hi, e i hi]⟩
theorem lat (h : LIs l n f) {i : Nat} (hi : i < n) : Ytnkfphbggemlbaa.lat l (i : Int) = some (f i) := by rw [lat_nat, h.2 i hi]
theorem get (h : LIs l n f) {i : Nat} (hi : i < l.length) : l[i] = f i := by
  have := h.2 i (by rw [← h.1]; exact hi)
  simpa [hi] using this
theorem mem_iff (h : LIs l n f) {x : α} : x ∈ l ↔ ∃ i, i < n ∧ f i = x := by
  constructor
  · intro hx
    obtain ⟨i, hi⟩ := List.getElem?_of_mem hx
    have hl := (List.getElem?_eq_some_iff.1 hi).1
    exact ⟨i, by rw [← h.1]; exact hl, by rw [h.2 i (by rw [← h.1]; exact hl)] at hi; exact Option.some.inj hi⟩
  · rintro ⟨i, hi, rfl⟩
    exact List.mem_of_getElem? (h.2 i hi)
end LIs
theorem int_nat {x : Int} (h : 0 ≤ x) : ∃ n : Nat, x = (n : Int) := Int.eq_ofNat_of_zero_le h

/-! ### Loops over lists -/
/-- A loop that only looks at the elements of a list. -/
theorem Tot.look {α τ : Type} {l : List α} {body : Nat → Unit → Option (Ctl Unit τ)} {Q : Unit ⊕ τ → Prop} (f : α → Option τ) (hb : ∀ j (h : j < l.length), body j () = some (match f l[j] with | none => .go () | some t => .ret t))
    (h1 : (∀ x ∈ l, f x = none) → Q (.inl ())) (h2 : ∀ (j : Nat) x t, l[j]? = some x → f x = some t → (∀ (i : Nat) y, i < j → l[i]? = some y → f y = none) → Q (.inr t)) : Tot (Ytnkfphbggemlbaa.rangeM body l.length 0 ()) Q := by
  refine Tot.rangeM (fun j _ => ∀ (i : Nat) y, i < j → l[i]? = some y → f y = none) (fun i y hi => by omega) (fun j s _ hj hI => ?_) (fun s hs => h1 fun x hx => ?_)
  · have hj' : j < l.length := by omega
    rw [hb j hj']
    refine Tot.some_iff.2 ?_
    cases e : f l[j] with
    | none =>
      intro i y hi hy
      by_cases e' : i = j
      · subst e'
        have : y = l[i] := by simpa [hj'] using hy.symm
        rw [this]; exact e
      · exact hI i y (by omega) hy
    | some t => exact h2 j l[j] t (by simp [hj']) e hI
  · obtain ⟨i, hi⟩ := List.getElem?_of_mem hx
    exact hs i x (by have := (List.getElem?_eq_some_iff.1 hi).1; omega) hi
/-! ### The library's loops -/
theorem equal_loop {α : Type} [DecidableEq α] {l m : List α} {body : Nat → Unit → Option (Ctl Unit Bool)} (c : α → α → Bool) (hc : ∀ x y, c x y = !decide (x = y)) (hb : ∀ j : Nat, body j () = (lat l (j : Int)).bind fun x => (lat m (j : Int)).bind fun y => bif c x y then some (.ret false) else some (.go ())) :
    (bif (l.length : Int) != (m.length : Int) then some false else andThen (rangeM body l.length 0 ()) fun _ => some true) = some (decide (l = m)) := by
  refine Tot.eq ?_
  rw [Tot.ite_iff]
  refine ⟨fun h => Tot.some_iff.2 ?_, fun h => ?_⟩
  · have h' : l.length ≠ m.length := by simpa [Int.natCast_inj] using h
    exact (decide_eq_false fun e => h' (by rw [e])).symm
  · have h' : l.length = m.length := by simpa [Int.natCast_inj] using h
    rw [Tot.andThen_iff]
    refine Tot.rangeM (fun j _ => ∀ i, i < j → l[i]? = m[i]?) (fun i hi => by omega) ?_ ?_
    · intro j _ _ hj hI
      have h1 : j < l.length := by omega
      have h2 : j < m.length := by omega
      rw [hb, lat_nat, lat_nat, List.getElem?_eq_getElem h1, List.getElem?_eq_getElem h2, Option.bind_some, Option.bind_some, hc, Tot.ite_iff]
      refine ⟨fun k => Tot.some_iff.2 ?_, fun k => Tot.some_iff.2 fun i hi => ?_⟩
      · refine (decide_eq_false fun e => ?_).symm
        subst e
        simp at k
      · by_cases e : i = j
        · subst e; rw [List.getElem?_eq_getElem h1, List.getElem?_eq_getElem h2]; simpa using k
        · exact hI i (by omega)
    · intro _ hI
      refine Tot.some_iff.2 ?_
      refine (decide_eq_true (List.ext_getElem? fun i => ?_)).symm
      by_cases hi : i < l.length
      · exact hI i (by omega)
      · rw [List.getElem?_eq_none (by omega), List.getElem?_eq_none (by omega)]
/-- The first place where it is so, or -1. -/
def idxI {α : Type} (p : α → Bool) (l : List α) : Int := match l.findIdx? p with
  | some i => (i : Int)
  | none => -1
theorem idxI_none {α : Type} {p : α → Bool} {l : List α} : idxI p l = -1 ↔ ∀ x ∈ l, p x = false := by
  unfold idxI
  cases h : l.findIdx? p with
  | none => simpa using h
  | some i =>
    simp only
    constructor
    · intro k; omega
    · intro k
      obtain ⟨h1, h2, _⟩ := List.findIdx?_eq_some_iff_getElem.1 h
      have := k _ (List.getElem_mem h1)
      rw [this] at h2; cases h2
theorem idxI_some {α : Type} {p : α → Bool} {l : List α} {i : Nat} : idxI p l = (i : Int) ↔ ∃ x, l[i]? = some x ∧ p x = true ∧ ∀ (j : Nat) y, j < i → l[j]? = some y → p y = false := by
  unfold idxI
  have e : l.findIdx? p = some i ↔ ∃ x, l[i]? = some x ∧ p x = true ∧ ∀ (j : Nat) y, j < i → l[j]? = some y → p y = false := by
    rw [List.findIdx?_eq_some_iff_getElem]
    constructor
    · rintro ⟨h1, h2, h3⟩
      refine ⟨l[i], by simp [h1], h2, fun j y hj hy => ?_⟩
      obtain ⟨h4, rfl⟩ := List.getElem?_eq_some_iff.1 hy
      simpa using h3 j hj
    · rintro ⟨x, hx, h2, h3⟩
      obtain ⟨h1, rfl⟩ := List.getElem?_eq_some_iff.1 hx
      exact ⟨h1, h2, fun j hj => by simpa using h3 j _ hj (by rw [List.getElem?_eq_getElem (by omega)])⟩
  rw [← e]
  cases l.findIdx? p with
  | none => simp
  | some k => simp only [Option.some.injEq]; omega
theorem idxI_cases {α : Type} (p : α → Bool) (l : List α) : (idxI p l = -1 ∧ ∀ x ∈ l, p x = false) ∨ ∃ (i : Nat) (x : α), idxI p l = (i : Int) ∧ l[i]? = some x ∧ p x = true ∧ ∀ (j : Nat) y, j < i → l[j]? = some y → p y = false := by
  cases h : l.findIdx? p with
  | none =>
    have : idxI p l = -1 := by unfold idxI; rw [h]
    exact .inl ⟨this, idxI_none.1 this⟩
  | some i =>
    have : idxI p l = (i : Int) := by unfold idxI; rw [h]
    obtain ⟨x, hx⟩ := idxI_some.1 this
    exact .inr ⟨i, x, this, hx⟩
theorem index_loop {α : Type} {l : List α} (p : α → Bool) {body : Nat → Unit → Option (Ctl Unit Int)} (hb : ∀ (j : Nat) x, l[j]? = some x → body j () = some (bif p x then .ret (j : Int) else .go ())) :
    (andThen (rangeM body l.length 0 ()) fun _ => some (-1 : Int)) = some (idxI p l) := by
  refine Tot.eq ?_
  rw [Tot.andThen_iff]
  refine Tot.rangeM (fun j _ => ∀ (i : Nat) y, i < j → l[i]? = some y → p y = false) (fun i y hi => by omega) ?_ ?_
  · intro j _ _ hj hI
    have h1 : j < l.length := by omega
    have hx : l[j]? = some l[j] := by simp [h1]
    rw [hb j _ hx, Tot.some_iff]
    cases hp : p l[j] with
    | true => exact (idxI_some.2 ⟨_, hx, hp, hI⟩).symm
    | false =>
      intro i y hi hy
      by_cases e : i = j
      · subst e; rw [hx] at hy; obtain rfl := Option.some.inj hy; exact hp
      · exact hI i y (by omega) hy
  · intro _ hI
    refine Tot.some_iff.2 (idxI_none.2 fun x hx => ?_).symm
    obtain ⟨i, hi⟩ := List.getElem?_of_mem hx
    exact hI i x (by have := (List.getElem?_eq_some_iff.1 hi).1; omega) hi
theorem idxI_ge {α : Type} [BEq α] [LawfulBEq α] (x : α) (l : List α) : decide (idxI (x == ·) l ≥ 0) = l.contains x := by
  rw [Bool.eq_iff_iff, decide_eq_true_eq, List.contains_iff_mem]
  rcases idxI_cases (x == ·) l with ⟨h, h1⟩ | ⟨i, y, h, h1, h2, _⟩
  · rw [h]
    constructor
    · omega
    · intro hx; have := h1 x hx; simp at this
  · rw [h]
    have : x = y := by simpa using h2
    subst this
    exact ⟨fun _ => List.mem_of_getElem? h1, fun _ => by omega⟩
/-- All of a list, or the first that is not. -/
theorem all_loop {α τ : Type} {l : List α} {e : Nat → α → Option τ} {body : Nat → Unit → Option (Ctl Unit τ)} (hb : ∀ (j : Nat) x, l[j]? = some x → body j () = some (match e j x with | none => .go () | some t => .ret t)) {Q : Unit ⊕ τ → Prop}
    (h1 : (∀ (j : Nat) x, l[j]? = some x → e j x = none) → Q (.inl ())) (h2 : ∀ (j : Nat) x t, l[j]? = some x → e j x = some t → (∀ (i : Nat) y, i < j → l[i]? = some y → e i y = none) → Q (.inr t)) : Tot (rangeM body l.length 0 ()) Q := by
  refine Tot.rangeM (fun j _ => ∀ (i : Nat) y, i < j → l[i]? = some y → e i y = none) (fun i y hi => by omega) ?_ ?_
  · intro j _ _ hj hI
    have hj' : j < l.length := by omega
    have hx : l[j]? = some l[j] := by simp [hj']
    rw [hb j _ hx, Tot.some_iff]
    cases he : e j l[j] with
    | none =>
      intro i y hi hy
      by_cases k : i = j
      · subst k; rw [hx] at hy; obtain rfl := Option.some.inj hy; exact he
      · exact hI i y (by omega) hy
    | some t => exact h2 j _ t hx he hI
  · intro _ hI
    exact h1 fun j x hx => hI j x (by have := (List.getElem?_eq_some_iff.1 hx).1; omega) hx
theorem repeat_loop {α : Type} {z x : α} {body : Int × List α → Option (Ctl (Int × List α) (List α))} (hb : ∀ n l, body (n, l) = bif decide (n < (l.length : Int)) then ((cutL l n (l.length : Int)).bind fun _ => (cutL l 0 n).bind fun m =>
      Let (copyL l n.toNat ((l.length : Int)).toNat m) fun p => Let p fun q => some (.go (w64 (n + copyN n.toNat ((l.length : Int)).toNat m), q))) else some (.brk (n, l))) :
    ∀ (fu k N : Nat), 1 ≤ k → k ≤ N → N ≤ 2 ^ 40 → N - k < fu → whileM body fu ((k : Int), List.replicate k x ++ List.replicate (N - k) z) = some (.inl ((N : Int), List.replicate N x))
  | 0, k, N, _, _, _, h => by omega
  | fu + 1, k, N, h1, h2, h3, h4 => by
    have hl : (List.replicate k x ++ List.replicate (N - k) z).length = N := by simp; omega
    unfold whileM
    rw [hb]
    by_cases hk : k = N
    · subst hk
      rw [show decide ((k : Int) < ((List.replicate k x ++ List.replicate (k - k) z).length : Int)) = false from decide_eq_false (by rw [hl]; omega)]
      simp
    · rw [show decide ((k : Int) < ((List.replicate k x ++ List.replicate (N - k) z).length : Int)) = true from decide_eq_true (by rw [hl]; omega), cond_true, hl]
      have c1 : cutL (List.replicate k x ++ List.replicate (N - k) z) (k : Int) (N : Int) = some (((List.replicate k x ++ List.replicate (N - k) z).drop k).take (N - k)) := by
        unfold cutL; rw [if_pos (by rw [hl]; omega)]; rfl
      have c2 : cutL (List.replicate k x ++ List.replicate (N - k) z) 0 (k : Int) = some (List.replicate k x) := by
        unfold cutL; rw [if_pos (by rw [hl]; omega)]
        simp
      rw [c1, c2]
      simp only [Option.bind_some, Let_eq, Int.toNat_natCast]
      have e1 : copyN k N (List.replicate k x) = ((min (N - k) k : Nat) : Int) := by simp [copyN]
      have e2 : copyL (List.replicate k x ++ List.replicate (N - k) z) k N (List.replicate k x) = List.replicate (k + min (N - k) k) x ++ List.replicate (N - (k + min (N - k) k)) z := by
        unfold copyL
        simp only [List.take_left' (show (List.replicate k x).length = k by simp), List.take_replicate, List.length_replicate]
        rw [List.drop_append, List.drop_of_length_le (by simp), List.nil_append, List.length_replicate, List.drop_replicate, ← List.append_assoc, List.replicate_append_replicate]
        congr 2
        omega
      rw [e1, e2, w64_id (by omega) (by omega), show ((k : Int) + ((min (N - k) k : Nat) : Int)) = ((k + min (N - k) k : Nat) : Int) by omega]
      exact repeat_loop hb fu (k + min (N - k) k) N (by omega) (by omega) h3 (by omega)
theorem low0 (y : BitVec 64) : (y &&& (4294967295 : BitVec 64)) >>> 32 = 0 := by
  apply BitVec.eq_of_toNat_eq
  simp only [BitVec.toNat_ushiftRight, BitVec.toNat_and, BitVec.toNat_ofNat, BitVec.ofNat_eq_ofNat]
  rw [show 4294967295 % 2 ^ 64 = 2 ^ 32 - 1 from rfl, Nat.and_two_pow_sub_one_eq_mod, Nat.shiftRight_eq_div_pow]
  have : y.toNat % 2 ^ 32 < 2 ^ 32 := Nat.mod_lt _ (by decide)
  rw [Nat.div_eq_of_lt this]
theorem mul1 (y : BitVec 64) : ((((y &&& (4294967295 : BitVec 64)) >>> 32) &&& (4294967295 : BitVec 64)) + (y >>> 32)) >>> 32 = 0 := by
  have h1 : (y &&& (4294967295 : BitVec 64)) >>> 32 = 0 := by
    apply BitVec.eq_of_toNat_eq
    simp only [BitVec.toNat_ushiftRight, BitVec.toNat_and, BitVec.toNat_ofNat, BitVec.ofNat_eq_ofNat]
    rw [show 4294967295 % 2 ^ 64 = 2 ^ 32 - 1 from rfl, Nat.and_two_pow_sub_one_eq_mod, Nat.shiftRight_eq_div_pow]
    have : y.toNat % 2 ^ 32 < 2 ^ 32 := Nat.mod_lt _ (by decide)
    rw [Nat.div_eq_of_lt this]
  rw [h1]
  apply BitVec.eq_of_toNat_eq
  simp only [BitVec.toNat_ushiftRight, BitVec.toNat_add, BitVec.toNat_and, BitVec.toNat_ofNat, BitVec.ofNat_eq_ofNat, Nat.shiftRight_eq_div_pow]
  have := y.isLt
  simp
  omega
theorem u_beq {n : Nat} (a b : BitVec n) : ((a.toNat : Int) == (b.toNat : Int)) = (a == b) := by
  rw [Bool.eq_iff_iff, beq_iff_eq, beq_iff_eq, Int.natCast_inj, BitVec.toNat_inj]
theorem u_bne {n : Nat} (a b : BitVec n) : ((a.toNat : Int) != (b.toNat : Int)) = (a != b) := by
  unfold bne; rw [u_beq]
end Go.Proofs.Ytnkfphbggemlbaa
