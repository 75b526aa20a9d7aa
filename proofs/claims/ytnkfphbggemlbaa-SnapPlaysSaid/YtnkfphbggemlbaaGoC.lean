/-
  Typed values as cells, and the rules of operations.
-/
import Derived.Test.YtnkfphbggemlbaaGoB
namespace Go.Proofs.Ytnkfphbggemlbaa
open Go.RowKit

/-- The value of one cell. -/
def one1 : Value → Bool := Value.oneCell'

/-- What lies in cells, flat. -/
class Enc (α : Type) where
  enc : α → List Value
  sz : Nat
  len : ∀ x, (enc x).length = sz
  one : ∀ x, (enc x).all one1 = true
open Enc (enc sz)

abbrev Str := List UInt8
def Str.b (s : Str) : ByteArray := ⟨s.toArray⟩
def Str.v (s : Str) : Value := .string (Str.b s)

instance : Enc Int := ⟨fun x => [.int .i64 x], 1, fun _ => rfl, fun _ => rfl⟩
instance : Enc (BitVec 8) := ⟨fun x => [.int .u8 (x.toNat : Int)], 1, fun _ => rfl, fun _ => rfl⟩
instance : Enc (BitVec 16) := ⟨fun x => [.int .u16 (x.toNat : Int)], 1, fun _ => rfl, fun _ => rfl⟩
instance : Enc (BitVec 32) := ⟨fun x => [.int .u32 (x.toNat : Int)], 1, fun _ => rfl, fun _ => rfl⟩
instance : Enc (BitVec 64) := ⟨fun x => [.int .u64 (x.toNat : Int)], 1, fun _ => rfl, fun _ => rfl⟩
instance : Enc Bool := ⟨fun x => [.bool x], 1, fun _ => rfl, fun _ => rfl⟩
instance : Enc Str := ⟨fun x => [Str.v x], 1, fun _ => rfl, fun _ => rfl⟩
instance : Enc Sl := ⟨fun x => [x.v], 1, fun _ => rfl, fun _ => rfl⟩

/-- The cells of many. -/
def encs {α : Type} [Enc α] (l : List α) : List Value := l.flatMap enc
section
variable {α : Type} [Enc α]
theorem encs_nil : encs ([] : List α) = [] := rfl
theorem encs_cons (x : α) (l : List α) : encs (x :: l) = enc x ++ encs l := rfl
theorem encs_append (l m : List α) : encs (l ++ m) = encs l ++ encs m := by simp [encs]
theorem encs_len : ∀ l : List α, (encs l).length = l.length * sz α
  | [] => by simp [encs]
  | x :: l => by rw [encs_cons, List.length_append, Enc.len, encs_len l, List.length_cons, Nat.succ_mul]; omega
theorem encs_one : ∀ l : List α, (encs l).all one1 = true
  | [] => rfl
  | x :: l => by rw [encs_cons, List.all_append, Enc.one, encs_one l]; rfl
theorem encs_drop : ∀ (l : List α) (k : Nat), encs (l.drop k) = (encs l).drop (k * sz α)
  | l, 0 => by simp
  | [], k + 1 => by simp [encs]
  | x :: l, k + 1 => by
    have hx := Enc.len x
    have hk : (k + 1) * sz α = k * sz α + sz α := Nat.succ_mul _ _
    rw [List.drop_succ_cons, encs_drop l k, encs_cons, List.drop_append, hx, hk, List.drop_of_length_le (l := enc x) (by omega)]
    simp
theorem encs_take : ∀ (l : List α) (k : Nat), encs (l.take k) = (encs l).take (k * sz α)
  | l, 0 => by simp [encs]
  | [], k + 1 => by simp [encs]
  | x :: l, k + 1 => by
    have hx := Enc.len x
    have hk : (k + 1) * sz α = k * sz α + sz α := Nat.succ_mul _ _
    rw [List.take_succ_cons, encs_cons, encs_take l k, encs_cons, List.take_append, hx, hk, List.take_of_length_le (l := enc x) (by omega)]
    simp
instance {k : Nat} : Enc (Vector α k) := ⟨fun v => encs v.toList, k * sz α, fun v => by rw [encs_len]; simp, fun v => encs_one _⟩
end

/-- What a value of a Go type may be. -/
class Rng (α : Type) where
  ok : α → Prop
instance : Rng Int := ⟨fun n => -9223372036854775808 ≤ n ∧ n ≤ 9223372036854775807⟩
instance : Rng Bool := ⟨fun _ => True⟩
instance (k : Nat) : Rng (BitVec k) := ⟨fun _ => True⟩
instance : Rng Str := ⟨fun s => s.length ≤ 2 ^ 63 - 1⟩
instance {α : Type} [Rng α] : Rng (List α) := ⟨fun l => l.length ≤ 2 ^ 63 - 1 ∧ ∀ x ∈ l, Rng.ok x⟩
instance {α : Type} [Rng α] {k : Nat} : Rng (Vector α k) := ⟨fun v => ∀ (i : Nat) (x : α), v[i]? = some x → Rng.ok x⟩
/-- In range, and no string or list longer than B. -/
class Bnd (α : Type) where
  ok : Nat → α → Prop
instance : Bnd Int := ⟨fun _ n => Rng.ok n⟩
instance : Bnd Bool := ⟨fun _ _ => True⟩
instance (k : Nat) : Bnd (BitVec k) := ⟨fun _ _ => True⟩
instance : Bnd Str := ⟨fun B s => s.length ≤ B⟩
instance {α : Type} [Bnd α] : Bnd (List α) := ⟨fun B l => l.length ≤ B ∧ ∀ x ∈ l, Bnd.ok B x⟩
instance {α : Type} [Bnd α] {k : Nat} : Bnd (Vector α k) := ⟨fun B v => ∀ (i : Nat) (x : α), v[i]? = some x → Bnd.ok B x⟩
/-! ### Looking into cells and changing them -/
/-- cs reads ch from off on. -/
def Get (cs : List Value) (off : Nat) (ch : List Value) : Prop := ∃ A B, cs = A ++ (ch ++ B) ∧ A.length = off
/-- cs' is cs, but vs from off on. -/
def Put (cs : List Value) (off : Nat) (vs cs' : List Value) : Prop := ∃ A old B, cs = A ++ (old ++ B) ∧ A.length = off ∧ old.length = vs.length ∧ cs' = A ++ (vs ++ B)

theorem Get.here (cs : List Value) : Get cs 0 cs := ⟨[], [], by simp, rfl⟩
theorem gh0 {cs : List Value} : Get cs 0 cs := Get.here cs
theorem Get.left {A B ch : List Value} {k : Nat} : Get A k ch → Get (A ++ B) k ch := fun ⟨X, Y, h, hl⟩ => ⟨X, Y ++ B, by simp [h], hl⟩
theorem Get.right {A B ch : List Value} {k m : Nat} (hm : A.length = m) : Get B k ch → Get (A ++ B) (m + k) ch := fun ⟨X, Y, h, hl⟩ => ⟨A ++ X, Y, by simp [h], by simp [hl, hm]⟩
theorem Get.off {cs ch : List Value} {k m : Nat} (h : Get cs k ch) (e : m = k) : Get cs m ch := e ▸ h
theorem Put.here {cs vs : List Value} (h : cs.length = vs.length) : Put cs 0 vs vs := ⟨[], cs, [], by simp, rfl, h, by simp⟩
theorem Put.left {A A' B vs : List Value} {k : Nat} : Put A k vs A' → Put (A ++ B) k vs (A' ++ B) := fun ⟨X, o, Y, h, hl, ho, h'⟩ => ⟨X, o, Y ++ B, by simp [h], hl, ho, by simp [h']⟩
theorem Put.right {A B B' vs : List Value} {k m : Nat} (hm : A.length = m) : Put B k vs B' → Put (A ++ B) (m + k) vs (A ++ B') := fun ⟨X, o, Y, h, hl, ho, h'⟩ => ⟨A ++ X, o, Y, by simp [h], by simp [hl, hm], ho, by simp [h']⟩
theorem Put.off {cs vs cs' : List Value} {k m : Nat} (h : Put cs k vs cs') (e : m = k) : Put cs m vs cs' := e ▸ h
section
variable {α : Type} [Enc α]
theorem encs_split {l : List α} {i : Nat} {x : α} (h : l[i]? = some x) : encs l = encs (l.take i) ++ (enc x ++ encs (l.drop (i + 1))) ∧ (encs (l.take i)).length = i * sz α := by
  have hi : i < l.length := (List.getElem?_eq_some_iff.1 h).1
  have hx : l[i] = x := (List.getElem?_eq_some_iff.1 h).2
  refine ⟨?_, by rw [encs_len, List.length_take, Nat.min_eq_left (by omega)]⟩
  rw [← encs_cons, ← encs_append]
  congr 1
  rw [← hx, ← List.drop_eq_getElem_cons hi, List.take_append_drop]
theorem Get.elem {l : List α} {i k : Nat} {x : α} {ch : List Value} (h : l[i]? = some x) (g : Get (enc x) k ch) : Get (encs l) (i * sz α + k) ch := by
  obtain ⟨h1, h2⟩ := encs_split h
  rw [h1]
  exact Get.right h2 (Get.left g)
theorem set_split {l : List α} {i : Nat} {x y : α} (h : l[i]? = some x) : encs (l.set i y) = encs (l.take i) ++ (enc y ++ encs (l.drop (i + 1))) := by
  have hi : i < l.length := (List.getElem?_eq_some_iff.1 h).1
  rw [← encs_cons, ← encs_append, List.set_eq_take_append_cons_drop, if_pos hi]
theorem Put.elem {l : List α} {i k : Nat} {x y : α} {vs : List Value} (h : l[i]? = some x) (g : Put (enc x) k vs (enc y)) : Put (encs l) (i * sz α + k) vs (encs (l.set i y)) := by
  obtain ⟨h1, h2⟩ := encs_split h
  rw [h1, set_split h]
  exact Put.right h2 (Put.left g)
theorem Get.elemN {l : List α} {i k s : Nat} {x : α} {ch : List Value} (hs : sz α = s) (h : l[i]? = some x) (g : Get (enc x) k ch) : Get (encs l) (i * s + k) ch := hs ▸ Get.elem h g
theorem Put.elemN {l : List α} {i k s : Nat} {x y : α} {vs : List Value} (hs : sz α = s) (h : l[i]? = some x) (g : Put (enc x) k vs (enc y)) : Put (encs l) (i * s + k) vs (encs (l.set i y)) := hs ▸ Put.elem h g
theorem Get.vec {m : Nat} {l : Vector α m} {i k : Nat} {x : α} {ch : List Value} (h : l[i]? = some x) (g : Get (enc x) k ch) : Get (enc l) (i * sz α + k) ch :=
  Get.elem (l := l.toList) (by simpa using h) g
theorem Put.vec {m : Nat} {l : Vector α m} {i k : Nat} {x y : α} {vs : List Value} (h : l[i]? = some x) (g : Put (enc x) k vs (enc y)) : Put (enc l) (i * sz α + k) vs (enc (l.setIfInBounds i y)) := by
  have := Put.elem (l := l.toList) (i := i) (by simpa using h) g
  show Put (encs l.toList) _ _ (encs (l.setIfInBounds i y).toList)
  have e : (l.setIfInBounds i y).toList = l.toList.set i y := by
    rw [Vector.toList_setIfInBounds]
  rw [e]; exact this
end

section
variable {α : Type} [Enc α]
theorem Get.vecN {m : Nat} {l : Vector α m} {i k s : Nat} {x : α} {ch : List Value} (hs : sz α = s) (h : l[i]? = some x) (g : Get (enc x) k ch) : Get (enc l) (i * s + k) ch := hs ▸ Get.vec h g
theorem Put.vecN {m : Nat} {l : Vector α m} {i k s : Nat} {x y : α} {vs : List Value} (hs : sz α = s) (h : l[i]? = some x) (g : Put (enc x) k vs (enc y)) : Put (enc l) (i * s + k) vs (enc (l.setIfInBounds i y)) := hs ▸ Put.vec h g
end
def lat {α : Type} (l : List α) (i : Int) : Option α := if 0 ≤ i then l[i.toNat]? else none
theorem lat_some {α : Type} {l : List α} {i : Int} {x : α} (h : lat l i = some x) : 0 ≤ i ∧ i < l.length ∧ l[i.toNat]? = some x := by
  unfold lat at h
  split at h
  · have := (List.getElem?_eq_some_iff.1 h).1
    exact ⟨by assumption, by omega, h⟩
  · cases h

/-! ### The spec's own forms -/
theorem bind_some {α β : Type} {o : Option α} {f : α → Option β} {r : β} (h : o.bind f = some r) : ∃ x, o = some x ∧ f x = some r := Option.bind_eq_some_iff.1 h
def Let {α β : Type} (x : α) (f : α → β) : β := f x
theorem Let_eq {α β : Type} (x : α) (f : α → β) : Let x f = f x := rfl
theorem Let_some {α β : Type} {x : α} {f : α → Option β} {r : β} (h : Let x f = some r) : ∃ y, x = y ∧ f y = some r := ⟨x, rfl, h⟩
theorem ite_t {α : Type} {b : Bool} {x y : Option α} {r : α} (hb : b = true) (h : (bif b then x else y) = some r) : x = some r := by subst hb; exact h
theorem ite_f {α : Type} {b : Bool} {x y : Option α} {r : α} (hb : b = false) (h : (bif b then x else y) = some r) : y = some r := by subst hb; exact h
theorem some_inj {α : Type} {x y : α} (h : some x = some y) : x = y := Option.some.inj h

/-- The first part comes to a state, or is over. -/
def andThen {σ τ : Type} (x : Option (σ ⊕ τ)) (f : σ → Option τ) : Option τ := x.bind (Sum.elim f some)
theorem andThen_some {σ τ : Type} {x : Option (σ ⊕ τ)} {f : σ → Option τ} {r : τ} (h : andThen x f = some r) : ∃ o, x = some o ∧ Sum.elim f some o = some r := bind_some h
def upTo (n : Int) : Option Nat := if n ≤ 2 ^ 63 - 1 then some n.toNat else none
theorem upTo_some {n : Int} {k : Nat} (h : upTo n = some k) : k = n.toNat ∧ n ≤ 2 ^ 63 - 1 := by
  unfold upTo at h; split at h
  · exact ⟨(Option.some.inj h).symm, by assumption⟩
  · cases h
/-- Room for so many. -/
def room {α : Type} (l m : List α) : Option Unit := if l.length + m.length ≤ 2 ^ 40 then some () else none
theorem room_some {α : Type} {l m : List α} {u : Unit} (h : room l m = some u) : l.length + m.length ≤ 2 ^ 40 := by
  unfold room at h; split at h
  · assumption
  · cases h
/-- The length of a slice that is made. -/
def mkLen (i : Int) : Option Nat := if 0 ≤ i ∧ i ≤ 2 ^ 40 then some i.toNat else none
theorem mkLen_some {i : Int} {k : Nat} (h : mkLen i = some k) : i = (k : Int) ∧ k ≤ 2 ^ 40 := by
  unfold mkLen at h; split at h
  · cases h; omega
  · cases h
/-- A cut of a list. -/
def cutL {α : Type} (l : List α) (i j : Int) : Option (List α) := if 0 ≤ i ∧ i ≤ j ∧ j ≤ l.length then some ((l.drop i.toNat).take (j.toNat - i.toNat)) else none
theorem cutL_some {α : Type} {l m : List α} {i j : Int} (h : cutL l i j = some m) : (0 ≤ i ∧ i ≤ j ∧ j ≤ l.length) ∧ (l.drop i.toNat).take (j.toNat - i.toNat) = m := by
  unfold cutL at h; split at h
  · exact ⟨by assumption, Option.some.inj h⟩
  · cases h
/-- copy, clear. -/
def copyL {α : Type} (xs : List α) (lo hi : Nat) (ys : List α) : List α := xs.take lo ++ (ys.take (hi - lo) ++ xs.drop (lo + min (hi - lo) ys.length))
def copyN {α : Type} (lo hi : Nat) (ys : List α) : Int := ((min (hi - lo) ys.length : Nat) : Int)
inductive Ctl (σ τ : Type) where
  | go (s : σ)
  | brk (s : σ)
  | ret (t : τ)
/-- A loop over the numbers from i on, k of them. -/
def rangeM {σ τ : Type} (body : Nat → σ → Option (Ctl σ τ)) : Nat → Nat → σ → Option (σ ⊕ τ)
  | 0, _, s => some (.inl s)
  | k + 1, i, s => (body i s).bind fun
    | .go s' => rangeM body k (i + 1) s'
    | .brk s' => some (.inl s')
    | .ret t => some (.inr t)
/-- The same, without a way out. -/
def rangeF {σ : Type} (body : Nat → σ → Option σ) : Nat → Nat → σ → Option σ
  | 0, _, s => some s
  | k + 1, i, s => (body i s).bind fun s' => rangeF body k (i + 1) s'
theorem rangeF_go {σ : Type} {body : Nat → σ → Option σ} {k i : Nat} {s : σ} {x : σ} (h : rangeF body (k + 1) i s = some x) : ∃ c, body i s = some c ∧ ∀ s', c = s' → rangeF body k (i + 1) s' = some x := by
  obtain ⟨c, h1, h2⟩ := bind_some h
  exact ⟨c, h1, fun _ e => e ▸ h2⟩
theorem rangeF_end {σ : Type} {body : Nat → σ → Option σ} {i : Nat} {s : σ} {x : σ} (h : rangeF body 0 i s = some x) : s = x := Option.some.inj h
/-- A loop until it breaks. -/
def whileM {σ τ : Type} (body : σ → Option (Ctl σ τ)) : Nat → σ → Option (σ ⊕ τ)
  | 0, _ => none
  | k + 1, s => (body s).bind fun
    | .go s' => whileM body k s'
    | .brk s' => some (.inl s')
    | .ret t => some (.inr t)
theorem rangeM_go {σ τ : Type} {body : Nat → σ → Option (Ctl σ τ)} {k i : Nat} {s : σ} {x : σ ⊕ τ} (h : rangeM body (k + 1) i s = some x) :
    ∃ c, body i s = some c ∧ (∀ s', c = .go s' → rangeM body k (i + 1) s' = some x) ∧ (∀ s', c = .brk s' → .inl s' = x) ∧ (∀ t, c = .ret t → .inr t = x) := by
  obtain ⟨c, h1, h2⟩ := bind_some h
  refine ⟨c, h1, ?_, ?_, ?_⟩ <;> rintro _ rfl
  · exact h2
  · exact Option.some.inj h2
  · exact Option.some.inj h2
theorem rangeM_end {σ τ : Type} {body : Nat → σ → Option (Ctl σ τ)} {i : Nat} {s : σ} {x : σ ⊕ τ} (h : rangeM body 0 i s = some x) : .inl s = x := Option.some.inj h
theorem whileM_go {σ τ : Type} {body : σ → Option (Ctl σ τ)} {k : Nat} {s : σ} {x : σ ⊕ τ} (h : whileM body (k + 1) s = some x) :
    ∃ c, body s = some c ∧ (∀ s', c = .go s' → whileM body k s' = some x) ∧ (∀ s', c = .brk s' → .inl s' = x) ∧ (∀ t, c = .ret t → .inr t = x) := by
  obtain ⟨c, h1, h2⟩ := bind_some h
  refine ⟨c, h1, ?_, ?_, ?_⟩ <;> rintro _ rfl
  · exact h2
  · exact Option.some.inj h2
  · exact Option.some.inj h2
def w64 (x : Int) : Int := IntKind.i64.wrap x
theorem w64_id {x : Int} (h1 : -9223372036854775808 ≤ x) (h2 : x ≤ 9223372036854775807) : w64 x = x := by
  simp only [w64, IntKind.wrap, IntKind.bits, IntKind.signed, Bool.true_and]
  split <;> (rename_i h; simp at h; omega)
end Go.Proofs.Ytnkfphbggemlbaa
