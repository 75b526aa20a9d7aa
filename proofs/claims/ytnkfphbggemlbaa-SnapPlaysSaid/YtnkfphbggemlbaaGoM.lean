/-
  Maps: typed as lists of pairs, in the order in which the keys came.
-/
import Derived.Test.YtnkfphbggemlbaaGoK
namespace Go.Proofs.Ytnkfphbggemlbaa
open Go.RowKit Enc

/-- A map's handle. -/
instance : Enc (Option Nat) := ⟨fun x => [.map x], 1, fun _ => rfl, fun _ => rfl⟩

section
set_option linter.unusedSectionVars false
variable {K V : Type} [DecidableEq K]
/-- One entry for key x. -/
def Entry (kf : K → Value) (vf : V → Value) (e : MapEntry) (p : K × V) : Prop := e.key = kf p.1 ∧ e.val = vf p.2
def Fits (kf : K → Value) (vf : V → Value) : List MapEntry → List (K × V) → Prop
  | [], [] => True
  | e :: es, p :: m => Entry kf vf e p ∧ Fits kf vf es m
  | _, _ => False
theorem Fits.len {kf : K → Value} {vf : V → Value} : ∀ {es : List MapEntry} {m : List (K × V)}, Fits kf vf es m → es.length = m.length
  | [], [], _ => rfl
  | _ :: _, _ :: _, h => by rw [List.length_cons, List.length_cons, h.2.len]
  | [], _ :: _, h => h.elim
  | _ :: _, [], h => h.elim
theorem Fits.get {kf : K → Value} {vf : V → Value} : ∀ {es : List MapEntry} {m : List (K × V)}, Fits kf vf es m → ∀ (i : Nat), (es[i]? = none ∧ m[i]? = none) ∨ ∃ e p, es[i]? = some e ∧ m[i]? = some p ∧ Entry kf vf e p
  | [], [], _, i => .inl ⟨by simp, by simp⟩
  | e :: _, p :: _, h, 0 => .inr ⟨e, p, rfl, rfl, h.1⟩
  | _ :: es, _ :: m, h, i + 1 => by simpa using h.2.get i
  | [], _ :: _, h, _ => h.elim
  | _ :: _, [], h, _ => h.elim
theorem Fits.push {kf : K → Value} {vf : V → Value} {e : MapEntry} {p : K × V} (hp : Entry kf vf e p) : ∀ {es : List MapEntry} {m : List (K × V)}, Fits kf vf es m → Fits kf vf (es ++ [e]) (m ++ [p])
  | [], [], _ => ⟨hp, trivial⟩
  | _ :: _, _ :: _, h => ⟨h.1, h.2.push hp⟩
  | [], _ :: _, h => h.elim
  | _ :: _, [], h => h.elim
theorem Fits.set {kf : K → Value} {vf : V → Value} {e : MapEntry} {p : K × V} (hp : Entry kf vf e p) : ∀ {es : List MapEntry} {m : List (K × V)} (i : Nat), Fits kf vf es m → Fits kf vf (es.set i e) (m.set i p)
  | [], [], _, _ => trivial
  | _ :: _, _ :: _, 0, h => ⟨hp, h.2⟩
  | _ :: _, _ :: _, i + 1, h => ⟨h.1, h.2.set hp i⟩
  | [], _ :: _, _, h => h.elim
  | _ :: _, [], _, h => h.elim

/-- What a key's type owes. -/
structure KeyOk (P : Program) (kt : TypeId) (kf : K → Value) : Prop where
  check : ∀ em x w, (Instr.checkKey em 10000 kt (kf x)).run P w = .ok () w
  find : ∀ (x : K) (V : Type) (vf : V → Value) (es : List MapEntry) (m : List (K × V)) w, Fits kf vf es m → (Instr.findKey kt (kf x) es).run P w = .ok ((m.findIdx? fun p => decide (x = p.1)).bind fun i => es[i]?.map fun e => (i, e.val)) w
  stays : ∀ x w, (Instr.keyThatStays (kf x) (kf x)).run P w = .ok (kf x) w
theorem findNow_eq {kind : TypeDesc} {kf : K → Value} {vf : V → Value} (hs : ∀ x y, Instr.sameNow kind (kf x) (kf y) = some (decide (x = y))) (x : K) : ∀ (es : List MapEntry) (m : List (K × V)) (i : Nat), Fits kf vf es m →
    Instr.findNow kind (kf x) es i = some ((m.findIdx? fun p => decide (x = p.1)).bind fun j => es[j]?.map fun e => (i + j, e.val))
  | [], [], i, _ => by simp [Instr.findNow]
  | e :: es, p :: m, i, h => by
    unfold Instr.findNow
    rw [h.1.1, hs]
    by_cases hx : x = p.1
    · simp [hx, List.findIdx?_cons]
    · simp only [hx, decide_false]
      rw [findNow_eq hs x es m (i + 1) h.2, List.findIdx?_cons]
      simp only [hx, decide_false, Bool.false_eq_true, if_false]
      cases m.findIdx? (fun p => decide (x = p.1)) with
      | none => simp
      | some j => simp [Nat.add_assoc, Nat.add_comm 1 j]
  | [], _ :: _, _, h => h.elim
  | _ :: _, [], _, h => h.elim
theorem KeyOk.now {P : Program} {kt : TypeId} {kf : K → Value} {kind : TypeDesc} (hu : ∀ w, (underlying kt).run P w = .ok kind w) (hs : ∀ x y, Instr.sameNow kind (kf x) (kf y) = some (decide (x = y)))
    (hc : ∀ em x w, (Instr.checkKey em 10000 kt (kf x)).run P w = .ok () w) (hb : ∀ x, Instr.sameBits 10000 (kf x) (kf x) = true) : KeyOk P kt kf := by
  refine ⟨hc, fun x V vf es m w h => ?_, fun x w => ?_⟩
  · unfold Instr.findKey
    simp only [Sem.run_bind, hu, Result.andThen_ok, findNow_eq hs x es m 0 h]
    simp
  · unfold Instr.keyThatStays; rw [hb]; simp
theorem KeyOk.int {P : Program} {kt : TypeId} (hu : ∀ w, (underlying kt).run P w = .ok (.int .i64) w) : KeyOk P kt (fun x : Int => .int .i64 x) := by
  refine KeyOk.now hu (fun x y => by simp [Instr.sameNow]; rw [Bool.eq_iff_iff]; simp) (fun em x w => ?_) (fun x => by simp [Instr.sameBits])
  rw [show (10000 : Nat) = 9999 + 1 from rfl]; unfold Instr.checkKey; simp [hu]
theorem KeyOk.u16 {P : Program} {kt : TypeId} (hu : ∀ w, (underlying kt).run P w = .ok (.int .u16) w) : KeyOk P kt (fun x : BitVec 16 => .int .u16 (x.toNat : Int)) := by
  refine KeyOk.now hu (fun x y => by simp [Instr.sameNow]; rw [Bool.eq_iff_iff, beq_iff_eq, Int.natCast_inj, BitVec.toNat_inj]; simp) (fun em x w => ?_) (fun x => by simp [Instr.sameBits])
  rw [show (10000 : Nat) = 9999 + 1 from rfl]; unfold Instr.checkKey; simp [hu]
theorem findAsking_eq {P : Program} {kt : TypeId} {kf : K → Value} {vf : V → Value} (hE : ∀ (x y : K) w, (Op.equal kt (kf x) (kf y)).run P w = .ok (decide (x = y)) w) (x : K) : ∀ (es : List MapEntry) (m : List (K × V)) (i : Nat) w, Fits kf vf es m →
    (Instr.findAsking kt (kf x) es i).run P w = .ok ((m.findIdx? fun p => decide (x = p.1)).bind fun j => es[j]?.map fun e => (i + j, e.val)) w
  | [], [], i, w, _ => by simp [Instr.findAsking]
  | e :: es, p :: m, i, w, h => by
    unfold Instr.findAsking
    rw [h.1.1]
    simp only [Sem.run_bind, hE, Result.andThen_ok]
    by_cases hx : x = p.1
    · simp [hx, List.findIdx?_cons]
    · simp only [hx, decide_false, Bool.false_eq_true, if_false]
      rw [findAsking_eq hE x es m (i + 1) w h.2, List.findIdx?_cons]
      simp only [hx, decide_false, Bool.false_eq_true, if_false]
      cases m.findIdx? (fun p => decide (x = p.1)) with
      | none => simp
      | some j => simp [Nat.add_assoc, Nat.add_comm 1 j]
  | [], _ :: _, _, _, h => h.elim
  | _ :: _, [], _, _, h => h.elim
/-- Keys that are compared by a walk. -/
theorem KeyOk.asking {P : Program} {kt : TypeId} {kf : K → Value} {kind : TypeDesc} (hu : ∀ w, (underlying kt).run P w = .ok kind w) (hs : ∀ x y, Instr.sameNow kind (kf x) (kf y) = none) (hE : ∀ (x y : K) w, (Op.equal kt (kf x) (kf y)).run P w = .ok (decide (x = y)) w)
    (hc : ∀ em x w, (Instr.checkKey em 10000 kt (kf x)).run P w = .ok () w) (hb : ∀ x, Instr.sameBits 10000 (kf x) (kf x) = true) : KeyOk P kt kf := by
  refine ⟨hc, fun x V vf es m w h => ?_, fun x w => ?_⟩
  · unfold Instr.findKey
    have hf := findAsking_eq hE x es m 0 w h
    cases es with
    | nil =>
      cases m with
      | nil => simp [hu, Instr.findNow]
      | cons _ _ => exact h.elim
    | cons e es =>
      cases m with
      | nil => exact h.elim
      | cons p m =>
        have hn : Instr.findNow kind (kf x) (e :: es) 0 = none := by unfold Instr.findNow; rw [h.1.1, hs]
        simp only [Sem.run_bind, hu, Result.andThen_ok, hn]
        simpa using hf
  · unfold Instr.keyThatStays; rw [hb]; simp
theorem sameBits_ints : ∀ l : List Int, ((l.map (Value.int .i64)).zip (l.map (Value.int .i64))).all (fun p => Instr.sameBits 9999 p.1 p.2) = true
  | [] => rfl
  | x :: l => by
    simp only [List.map_cons, List.zip_cons_cons, List.all_cons, sameBits_ints l, Bool.and_true]
    rw [show (9999 : Nat) = 9998 + 1 from rfl]; simp [Instr.sameBits]
theorem encs_ints (l : List Int) : encs l = l.map (Value.int .i64) := by
  induction l with
  | nil => rfl
  | cons x l ih => rw [encs_cons, ih]; rfl
theorem KeyOk.ints {P : Program} {kt el : TypeId} {n : Nat} (hu : ∀ w, (underlying kt).run P w = .ok (.array n el) w) (hel : ∀ w, (underlying el).run P w = .ok (.int .i64) w) (hsz : ∀ w, (sizeOf el).run P w = .ok 1 w) (ha : ∀ w, (isAgg el).run P w = .ok false w)
    (hE : ∀ (x y : Vector Int n) w, (Op.equal kt (.agg (enc x).toArray) (.agg (enc y).toArray)).run P w = .ok (decide (x = y)) w) : KeyOk P kt (fun x : Vector Int n => .agg (enc x).toArray) := by
  refine KeyOk.asking hu (fun x y => by simp [Instr.sameNow]) hE (fun em x w => ?_) (fun x => ?_)
  · rw [show (10000 : Nat) = 9999 + 1 from rfl]
    unfold Instr.checkKey
    simp only [Sem.run_bind, hu, Result.andThen_ok]
    have key : ∀ (l : List Nat), (∀ i ∈ l, i < n) → ∀ w, (forIn (m := Sem) l PUnit.unit fun i _ => do
        Instr.checkKey em 9999 el (← part el (enc x).toArray (i * (← sizeOf el)))
        pure (ForInStep.yield PUnit.unit)).run P w = .ok PUnit.unit w := by
      intro l
      induction l with
      | nil => intro _ w; simp
      | cons i l ih =>
        intro hl w
        have hi : i < n := hl i (by simp)
        have hg : Get (enc x) (i * 1) [Value.int .i64 x[i]] := (Get.vecN (s := 1) (i := i) (x := x[i]) rfl (by simp [hi]) (Get.here [Value.int .i64 x[i]])).off (by omega)
        have hp : (part el (enc x).toArray (i * 1)).run P w = .ok (.int .i64 x[i]) w := by
          have := hg.at (j := 0) rfl
          simp at this
          simp [part, ha, this]
        have hck : (Instr.checkKey em 9999 el (.int .i64 x[i])).run P w = .ok () w := by
          rw [show (9999 : Nat) = 9998 + 1 from rfl]; unfold Instr.checkKey; simp [hel]
        simp only [List.forIn_cons, Sem.run_bind, hsz, Result.andThen_ok, hp, hck, Sem.run_pure]
        exact ih (fun j hj => hl j (by simp [hj])) w
    rw [Std.Legacy.Range.forIn_eq_forIn_range']
    have := key (List.range' 0 ([0:n] : Std.Legacy.Range).size 1) (fun i hi => by simp [List.mem_range', Std.Legacy.Range.size] at hi; omega) w
    simp at this ⊢
    rw [this]; rfl
  · have h1 : (enc x : List Value) = x.toList.map (Value.int .i64) := encs_ints x.toList
    rw [show (10000 : Nat) = 9999 + 1 from rfl, h1]
    unfold Instr.sameBits
    have := sameBits_ints x.toList
    simpa using this
end
/-! ### What a map says -/
section
variable {K V : Type} [DecidableEq K]
def mfind (m : List (K × V)) (x : K) : Option Nat := m.findIdx? fun p => decide (x = p.1)
def mget (m : List (K × V)) (x : K) : Option V := (mfind m x).bind fun i => (m[i]?).map (·.2)
def mset (m : List (K × V)) (x : K) (v : V) : List (K × V) := match mfind m x with
  | some i => m.set i (x, v)
  | none => m ++ [(x, v)]
/-- The stamps of the entries are old, and no two are alike. -/
def Born (es : List MapEntry) (clock : Nat) : Prop := (∀ x ∈ es, x.born < clock) ∧ (es.map (·.born)).Nodup
theorem Born.push {es : List MapEntry} {c : Nat} {k v : Value} (h : Born es c) : Born (es ++ [⟨k, v, c⟩]) (c + 1) := by
  refine ⟨fun x hx => ?_, ?_⟩
  · rcases List.mem_append.1 hx with hx | hx
    · have := h.1 x hx; omega
    · simp at hx; subst hx; exact Nat.lt_succ_self _
  · rw [List.map_append, List.nodup_append]
    refine ⟨h.2, by simp, fun a ha b hb e => ?_⟩
    obtain ⟨x, hx, rfl⟩ := List.mem_map.1 ha
    have := h.1 x hx
    simp at hb; omega
theorem Born.set {es : List MapEntry} {c j : Nat} {en : MapEntry} {k v : Value} (h : Born es c) (hj : es[j]? = some en) : Born (es.set j ⟨k, v, en.born⟩) c := by
  obtain ⟨h1, h2⟩ := List.getElem?_eq_some_iff.1 hj
  have e : (es.set j ⟨k, v, en.born⟩).map (·.born) = es.map (·.born) := by
    rw [List.map_set]
    apply List.ext_getElem?
    intro q
    rw [List.getElem?_set]
    by_cases hq : j = q
    · subst hq; simp [h1, h2]
    · simp [hq]
  refine ⟨fun x hx => ?_, by rw [e]; exact h.2⟩
  have : x.born ∈ (es.set j ⟨k, v, en.born⟩).map (·.born) := List.mem_map_of_mem hx
  rw [e] at this
  obtain ⟨y, hy, hb⟩ := List.mem_map.1 this
  have := h.1 y hy
  omega
theorem born_find {es : List MapEntry} (hn : (es.map (·.born)).Nodup) {j : Nat} {en : MapEntry} (h : es[j]? = some en) : es.findIdx? (fun e => ((e.born : Nat) : Int) == ((en.born : Nat) : Int)) = some j := by
  obtain ⟨h1, h2⟩ := List.getElem?_eq_some_iff.1 h
  rw [List.findIdx?_eq_some_iff_getElem]
  refine ⟨h1, by simp [h2], fun q hq => ?_⟩
  have hql : q < es.length := by omega
  have := (List.pairwise_iff_getElem.1 hn) q j (by simpa using hql) (by simpa using h1) hq
  simp only [List.getElem_map, h2] at this
  simp only [beq_iff_eq]
  omega
theorem arr_set {es : Array MapEntry} {j : Nat} {en : MapEntry} (f : MapEntry → MapEntry) (h : es[j]? = some en) : (es.modify j f).toList = es.toList.set j (f en) := by
  apply List.ext_getElem?
  intro q
  rw [Array.getElem?_toList, Array.getElem?_modify, List.getElem?_set]
  by_cases hq : j = q
  · subst hq
    have h1 : j < es.size := (Array.getElem?_eq_some_iff.1 h).1
    have he : es[j] = en := (Array.getElem?_eq_some_iff.1 h).2
    simp [h1, he]
  · simp [hq]
def mitem (b : Nat) (kf : K → Value) (vf : V → Value) (m : List (K × V)) : Item := .gen [b] fun h => ∃ es clock, h b = some (.map es clock) ∧ Fits kf vf es.toList m ∧ Born es.toList clock
/-- The entry of k is there, and bears this stamp. -/
def mitemE (b : Nat) (kf : K → Value) (vf : V → Value) (m : List (K × V)) (k : K) (st : Nat) : Item := .gen [b] fun h => ∃ es clock, h b = some (.map es clock) ∧ Fits kf vf es.toList m ∧ Born es.toList clock ∧ ∃ j en, es[j]? = some en ∧ en.born = st ∧ mfind m k = some j
theorem mfind_set {m : List (K × V)} {k : K} {v : V} {j : Nat} (h : mfind m k = some j) : mfind (m.set j (k, v)) k = some j := by
  unfold mfind at *
  rw [List.findIdx?_eq_some_iff_getElem] at *
  obtain ⟨h1, h2, h3⟩ := h
  refine ⟨by simpa using h1, by simp, fun q hq => ?_⟩
  have := h3 q hq
  rw [List.getElem_set_ne (by omega)]; exact this
theorem mfind_push {m : List (K × V)} {k : K} {v : V} (h : mfind m k = none) : mfind (m ++ [(k, v)]) k = some m.length := by
  unfold mfind at *
  rw [List.findIdx?_append, h]
  simp
theorem mfind_get {m : List (K × V)} {x : K} {i : Nat} (h : mfind m x = some i) : ∃ v, m[i]? = some (x, v) := by
  unfold mfind at h
  rw [List.findIdx?_eq_some_iff_getElem] at h
  obtain ⟨h1, h2, _⟩ := h
  have h3 : x = m[i].1 := of_decide_eq_true h2
  exact ⟨m[i].2, by rw [List.getElem?_eq_getElem h1]; simp [h3]⟩
theorem mget_nil {x : K} : mget ([] : List (K × V)) x = none := rfl
theorem mget_cons {p : K × V} {m : List (K × V)} {x : K} : mget (p :: m) x = if x = p.1 then some p.2 else mget m x := by
  unfold mget mfind
  rw [List.findIdx?_cons]
  by_cases h : x = p.1
  · simp [h]
  · simp only [h, decide_false, Bool.false_eq_true, if_false]
    cases m.findIdx? (fun p => decide (x = p.1)) <;> simp
theorem mset_nil {k : K} {v : V} : mset ([] : List (K × V)) k v = [(k, v)] := rfl
theorem mset_cons {p : K × V} {m : List (K × V)} {k : K} {v : V} : mset (p :: m) k v = if k = p.1 then (k, v) :: m else p :: mset m k v := by
  unfold mset mfind
  rw [List.findIdx?_cons]
  by_cases h : k = p.1
  · simp [h]
  · simp only [h, decide_false, Bool.false_eq_true, if_false]
    cases m.findIdx? (fun p => decide (k = p.1)) <;> simp
theorem mget_mset {k : K} {v : V} {x : K} : ∀ m : List (K × V), mget (mset m k v) x = if x = k then some v else mget m x
  | [] => by rw [mset_nil, mget_cons]
  | p :: m => by
    rw [mset_cons, mget_cons]
    by_cases h : k = p.1
    · rw [if_pos h, mget_cons]
      by_cases h2 : x = k
      · simp [h2]
      · have : x ≠ p.1 := fun e => h2 (e.trans h.symm)
        simp [h2, this]
    · rw [if_neg h, mget_cons, mget_mset m]
      by_cases h2 : x = p.1
      · have : x ≠ k := fun e => h (e.symm.trans h2)
        simp [h2, this]
        intro e; exact absurd e.symm h
      · simp [h2]
end
section
set_option linter.unusedSectionVars false
variable {P : Program} {n : Nat} {w0 : World} {ops : Array Oper} {Q : Exit → Act → World → Prop} {l : List Oper} {e : List (Nat × Value)} {F : Frz} {L L' : List Item} {d : Nat} {dst : Option Nat} {ty : TypeId} {pos : String} {aft : Array Edge} {gd : Option (Nat × Bool)}
variable {K V : Type} [DecidableEq K]
theorem St.map {w : World} {i b : Nat} {kf : K → Value} {vf : V → Value} {m : List (K × V)} (h : St w0 F L w) (hL : L[i]? = some (mitem b kf vf m)) : ∃ es clock, w.heap[b]? = some (.map es clock) ∧ Fits kf vf es.toList m := by
  obtain ⟨es, clock, h1, h2, _⟩ := h.holds _ (List.mem_of_getElem? hL)
  exact ⟨es, clock, by simpa [World.hp] using h1, h2⟩
theorem St.mapB {w : World} {i b : Nat} {kf : K → Value} {vf : V → Value} {m : List (K × V)} (h : St w0 F L w) (hL : L[i]? = some (mitem b kf vf m)) : ∃ es clock, w.heap[b]? = some (.map es clock) ∧ Fits kf vf es.toList m ∧ Born es.toList clock := by
  obtain ⟨es, clock, h1, h2, h3⟩ := h.holds _ (List.mem_of_getElem? hL)
  exact ⟨es, clock, by simpa [World.hp] using h1, h2, h3⟩
theorem St.mapE {w : World} {i b st : Nat} {k : K} {kf : K → Value} {vf : V → Value} {m : List (K × V)} (h : St w0 F L w) (hL : L[i]? = some (mitemE b kf vf m k st)) : ∃ es clock, w.heap[b]? = some (.map es clock) ∧ Fits kf vf es.toList m ∧ Born es.toList clock ∧ ∃ j en, es[j]? = some en ∧ en.born = st ∧ mfind m k = some j := by
  obtain ⟨es, clock, h1, h2⟩ := h.holds _ (List.mem_of_getElem? hL)
  exact ⟨es, clock, by simpa [World.hp] using h1, h2⟩
theorem Lst.makeMap {t : TypeId} (kf : K → Value) (vf : V → Value) (hg : gd = none) (hdst : dst = some d) (hn : d < n)
    (k : ∀ b, Lst P n w0 ops Q l ((d, .map (some b)) :: e) F (mitem b kf vf ([] : List (K × V)) :: L)) : Lst P n w0 ops Q (⟨dst, .makeMap t none, ty, pos, aft, gd⟩ :: l) e F L :=
  Lst.wp_plain hg fun a w h hw => by
    subst hdst
    unfold Oper.wp
    have hr : (execOp a.eval ⟨some d, .makeMap t none, ty, pos, aft, gd⟩).run P w = .ok (.value (.map (some w.heap.size))) { w with heap := w.heap.push (.map #[] 0) } := by
      simp [execOp, Instr.makeMap]
    rw [hr, Oper.upon_value]
    exact k _ _ _ (h.put hn _) (hw.new _ rfl fun g hgb => ⟨#[], 0, by simp [hgb], trivial, by simp [Born]⟩)
theorem map_look {w : World} {t kt el : TypeId} {kf : K → Value} {vf : V → Value} {m : List (K × V)} {es : Array MapEntry} {clock b : Nat} {c : Bool} (hK : KeyOk P kt kf) (hu : ∀ w, (underlying t).run P w = .ok (.map kt el) w) {z0 : V} (hz : ∀ w, (zeroValue el).run P w = .ok (vf z0) w)
    (hb : w.heap[b]? = some (.map es clock)) (hF : Fits kf vf es.toList m) (x : K) :
    (Instr.lookup t (.map (some b)) (kf x) c).run P w = .ok (if c = true then .tuple #[vf ((mget m x).getD z0), .bool (mget m x).isSome] else vf ((mget m x).getD z0)) w := by
  have hf := hK.find x V vf es.toList m w hF
  have hck := hK.check (es.isEmpty) x w
  have hgo := MapKept.run_getObj_map (P := P) hb
  unfold Instr.lookup
  simp only [Sem.run_bind, hu, Result.andThen_ok, hgo, Sem.run_pure, hck, hf]
  unfold mget
  cases hm : mfind m x with
  | none =>
    unfold mfind at hm
    rw [hm]
    simp [hz]
  | some i =>
    obtain ⟨v, hv⟩ := mfind_get hm
    unfold mfind at hm
    rcases hF.get i with ⟨_, h2⟩ | ⟨en, p, h1, h2, h3⟩
    · rw [hv] at h2; cases h2
    · rw [hv] at h2
      obtain rfl := Option.some.inj h2
      have h1' : es[i]? = some en := by simpa using h1
      have h4 : en.val = vf v := h3.2
      rw [hm]
      simp [h1', hv, h4]
theorem Ev.lookup {x y : Operand} {t kt el : TypeId} {kf : K → Value} {vf : V → Value} {m : List (K × V)} {b i : Nat} {k : K} {z0 : V} (hx : ev e x = some (.map (some b))) (hy : ev e y = some (kf k)) (hL : L[i]? = some (mitem b kf vf m))
    (hK : KeyOk P kt kf) (hu : ∀ w, (underlying t).run P w = .ok (.map kt el) w) (hz : ∀ w, (zeroValue el).run P w = .ok (vf z0) w) : Ev P n w0 e F L ⟨dst, .lookup t x y false, ty, pos, aft, gd⟩ (vf ((mget m k).getD z0)) := fun a w h hw => by
  obtain ⟨es, clock, hb, hF⟩ := St.map hw hL
  simp [execOp, h.eval hx, h.eval hy, map_look hK hu hz hb hF]
theorem set_modify {α : Type} (a : Array α) (i : Nat) (o : α) : a.setIfInBounds i o = a.modify i fun _ => o := by
  apply Array.ext_getElem?
  intro j
  rw [Array.getElem?_modify, Array.getElem?_setIfInBounds]
  by_cases h : i = j
  · subst h
    by_cases hi : i < a.size <;> simp [hi]
  · simp [h]
theorem Lst.mapUpdate {x y z : Operand} {t kt el : TypeId} {kf : K → Value} {vf : V → Value} {m : List (K × V)} {b i : Nat} {k : K} {v : V} (hg : gd = none) (hdst : dst = none) (hx : ev e x = some (.map (some b))) (hy : ev e y = some (kf k)) (hz : ev e z = some (vf v)) (hL : L[i]? = some (mitem b kf vf m))
    (hK : KeyOk P kt kf) (hu : ∀ w, (underlying t).run P w = .ok (.map kt el) w)
    (kk : Lst P n w0 ops Q l e F (L.set i (mitem b kf vf (mset m k v)))) : Lst P n w0 ops Q (⟨dst, .mapUpdate t x y z, ty, pos, aft, gd⟩ :: l) e F L :=
  Lst.wp_plain hg fun a w h hw => by
    subst hdst
    obtain ⟨es, clock, hb, hF, hB⟩ := St.mapB hw hL
    have hf := hK.find k V vf es.toList m w hF
    have hck := hK.check false k w
    have hgo := MapKept.run_getObj_map (P := P) hb
    have key : ∃ es' clock', (Instr.mapUpdate t (.map (some b)) (kf k) (vf v)).run P w = .ok () { w with heap := w.heap.modify b fun _ => .map es' clock' } ∧ Fits kf vf es'.toList (mset m k v) ∧ Born es'.toList clock' := by
      unfold Instr.mapUpdate mset
      simp only [Sem.run_bind, hu, Result.andThen_ok, hgo, hck, hf]
      cases hm : mfind m k with
      | none =>
        unfold mfind at hm
        rw [hm]
        refine ⟨es.push ⟨kf k, vf v, clock⟩, clock + 1, ?_, ?_, by rw [Array.toList_push]; exact hB.push⟩
        · simp [MapKept.run_setObj_map _ hb, set_modify]
        · rw [Array.toList_push]; exact hF.push (e := ⟨kf k, vf v, clock⟩) (p := (k, v)) ⟨rfl, rfl⟩
      | some j =>
        obtain ⟨u, hu'⟩ := mfind_get hm
        unfold mfind at hm
        rcases hF.get j with ⟨_, h2⟩ | ⟨en, p, h1, h2, h3⟩
        · rw [hu'] at h2; cases h2
        · rw [hu'] at h2
          obtain rfl := Option.some.inj h2
          have h1' : es[j]? = some en := by simpa using h1
          have hst := hK.stays k w
          rw [hm]
          refine ⟨es.modify j fun e => { e with key := kf k, val := vf v }, clock, ?_, ?_, by rw [arr_set _ h1']; exact hB.set (by simpa using h1')⟩
          · have hkey : en.key = kf k := h3.1
            simp [h1', hkey, hst, MapKept.run_setObj_map _ hb, set_modify]
          · rw [arr_set _ h1']
            exact hF.set (p := (k, v)) ⟨rfl, rfl⟩ j
    obtain ⟨es', clock', hrun, hF'⟩ := key
    unfold Oper.wp
    have hr : (execOp a.eval ⟨none, .mapUpdate t x y z, ty, pos, aft, gd⟩).run P w = .ok .skip { w with heap := w.heap.modify b fun _ => .map es' clock' } := by
      simp [execOp, h.eval hx, h.eval hy, h.eval hz, hrun]
    rw [hr, Oper.upon_skip]
    refine kk _ _ h ?_
    rw [set_at hL]
    rw [split_at hL] at hw
    refine hw.change (j := mitem b kf vf (mset m k v)) (by simp [mitem, Item.foot]) rfl _ ⟨es', clock', ?_, hF'⟩
    have hlt : b < w.heap.size := (Array.getElem?_eq_some_iff.1 hb).1
    simp only [World.hp, List.mem_singleton, if_true]
    rw [Array.getElem?_modify, if_pos rfl, hb]; rfl
/-- The place of an entry is found, or made. -/
theorem Lst.mapEntry {x y : Operand} {t kt el : TypeId} {kf : K → Value} {vf : V → Value} {m : List (K × V)} {b i : Nat} {k : K} {z0 : V} (hg : gd = none) (hdst : dst = some d) (hn : d < n) (hx : ev e x = some (.map (some b))) (hy : ev e y = some (kf k)) (hL : L[i]? = some (mitem b kf vf m))
    (hK : KeyOk P kt kf) (hu : ∀ w, (underlying t).run P w = .ok (.map kt el) w) (hz : ∀ w, (zeroValue el).run P w = .ok (vf z0) w)
    (kk : ∀ st : Nat, Lst P n w0 ops Q l ((d, .tuple #[vf ((mget m k).getD z0), .int .i64 (st : Int)]) :: e) F (L.set i (mitemE b kf vf (mset m k ((mget m k).getD z0)) k st))) : Lst P n w0 ops Q (⟨dst, .mapEntry t x y, ty, pos, aft, gd⟩ :: l) e F L :=
  Lst.wp_plain hg fun a w h hw => by
    subst hdst
    obtain ⟨es, clock, hb, hF, hB⟩ := St.mapB hw hL
    have hf := hK.find k V vf es.toList m w hF
    have hck := hK.check false k w
    have hgo := MapKept.run_getObj_map (P := P) hb
    have key : ∃ es' clock' st, (Instr.mapEntry t (.map (some b)) (kf k)).run P w = .ok (.tuple #[vf ((mget m k).getD z0), .int .i64 ((st : Nat) : Int)]) { w with heap := w.heap.modify b fun _ => .map es' clock' } ∧ Fits kf vf es'.toList (mset m k ((mget m k).getD z0)) ∧ Born es'.toList clock' ∧ ∃ j en, es'[j]? = some en ∧ en.born = st ∧ mfind (mset m k ((mget m k).getD z0)) k = some j := by
      unfold Instr.mapEntry mset mget
      simp only [Sem.run_bind, hu, Result.andThen_ok, hgo, hck, hf]
      cases hm : mfind m k with
      | none =>
        have hm' := hm
        unfold mfind at hm
        rw [hm]
        refine ⟨es.push ⟨kf k, vf z0, clock⟩, clock + 1, clock, ?_, ?_, by rw [Array.toList_push]; exact hB.push, es.size, ⟨kf k, vf z0, clock⟩, by simp, rfl, ?_⟩
        · simp [MapKept.run_setObj_map _ hb, set_modify, hz, goInt]
        · rw [Array.toList_push]; exact hF.push (e := ⟨kf k, vf z0, clock⟩) (p := (k, z0)) ⟨rfl, rfl⟩
        · have hl : es.size = m.length := by rw [← Array.length_toList]; exact hF.len
          rw [hl]; exact mfind_push hm'
      | some j =>
        have hm' := hm
        obtain ⟨u, hu'⟩ := mfind_get hm
        unfold mfind at hm
        rcases hF.get j with ⟨_, h2⟩ | ⟨en, p, h1, h2, h3⟩
        · rw [hu'] at h2; cases h2
        · rw [hu'] at h2
          obtain rfl := Option.some.inj h2
          have h1' : es[j]? = some en := by simpa using h1
          have hst := hK.stays k w
          have hkey : en.key = kf k := h3.1
          have hval : en.val = vf u := h3.2
          rw [hm]
          refine ⟨es.modify j fun e => { e with key := kf k }, clock, en.born, ?_, ?_, by rw [arr_set _ h1']; exact hB.set (by simpa using h1'), j, { en with key := kf k }, by simp [Array.getElem?_modify, h1'], rfl, ?_⟩
          · simp [h1', hkey, hst, MapKept.run_setObj_map _ hb, set_modify, hu', hval, goInt]
          · rw [arr_set _ h1']
            simp only [hu', Option.bind_some, Option.map_some, Option.getD_some]
            exact hF.set (e := { en with key := kf k }) (p := (k, u)) ⟨rfl, hval⟩ j
          · exact mfind_set hm'
    obtain ⟨es', clock', st, hrun, hF'⟩ := key
    unfold Oper.wp
    have hr : (execOp a.eval ⟨some d, .mapEntry t x y, ty, pos, aft, gd⟩).run P w = .ok (.value (.tuple #[vf ((mget m k).getD z0), .int .i64 ((st : Nat) : Int)])) { w with heap := w.heap.modify b fun _ => .map es' clock' } := by
      simp [execOp, h.eval hx, h.eval hy, hrun]
    rw [hr, Oper.upon_value]
    refine kk st _ _ (h.put hn _) ?_
    rw [set_at hL]
    rw [split_at hL] at hw
    refine hw.change (j := mitemE b kf vf (mset m k ((mget m k).getD z0)) k st) (by simp [mitem, Item.foot]) rfl _ ⟨es', clock', ?_, hF'⟩
    have hlt : b < w.heap.size := (Array.getElem?_eq_some_iff.1 hb).1
    simp only [World.hp, List.mem_singleton, if_true]
    rw [Array.getElem?_modify, if_pos rfl, hb]; rfl
theorem Lst.entryStore {x y z : Operand} {t : TypeId} {kf : K → Value} {vf : V → Value} {m : List (K × V)} {b i st : Nat} {k : K} {v : V} (hg : gd = none) (hdst : dst = none) (hx : ev e x = some (.map (some b))) (hy : ev e y = some (.int .i64 (st : Int))) (hz : ev e z = some (vf v)) (hL : L[i]? = some (mitemE b kf vf m k st))
    (kk : Lst P n w0 ops Q l e F (L.set i (mitem b kf vf (mset m k v)))) : Lst P n w0 ops Q (⟨dst, .entryStore t x y z, ty, pos, aft, gd⟩ :: l) e F L :=
  Lst.wp_plain hg fun a w h hw => by
    subst hdst
    obtain ⟨es, clock, hb, hF, hB, j, en, hj, hen, hm⟩ := St.mapE hw hL
    subst hen
    have hidx : es.findIdx? (fun e => ((e.born : Nat) : Int) == ((en.born : Nat) : Int)) = some j := by
      have := born_find hB.2 (j := j) (en := en) (by simpa using hj)
      cases es; simpa using this
    have hrun : (Instr.entryStore t (.map (some b)) (.int .i64 (en.born : Int)) (vf v)).run P w = .ok () { w with heap := w.heap.modify b fun _ => .map (es.modify j fun e => { e with val := vf v }) clock } := by
      simp [Instr.entryStore, MapKept.run_getObj_map hb, asInt, asIntOf, hidx, MapKept.run_setObj_map _ hb, set_modify]
    have hF' : Fits kf vf (es.modify j fun e => { e with val := vf v }).toList (mset m k v) := by
      obtain ⟨u, hu'⟩ := mfind_get hm
      rw [arr_set _ hj]
      unfold mset
      rw [hm]
      rcases hF.get j with ⟨_, h2⟩ | ⟨en', p, h1, h2, h3⟩
      · rw [hu'] at h2; cases h2
      · rw [hu'] at h2
        obtain rfl := Option.some.inj h2
        have h1' : es[j]? = some en' := by simpa using h1
        rw [hj] at h1'
        obtain rfl := Option.some.inj h1'
        exact hF.set (e := { en with val := vf v }) (p := (k, v)) ⟨h3.1, rfl⟩ j
    unfold Oper.wp
    have hr : (execOp a.eval ⟨none, .entryStore t x y z, ty, pos, aft, gd⟩).run P w = .ok .skip { w with heap := w.heap.modify b fun _ => .map (es.modify j fun e => { e with val := vf v }) clock } := by
      simp [execOp, h.eval hx, h.eval hy, h.eval hz, hrun]
    rw [hr, Oper.upon_skip]
    refine kk _ _ h ?_
    rw [set_at hL]
    rw [split_at hL] at hw
    refine hw.change (j := mitem b kf vf (mset m k v)) (by simp [mitemE, Item.foot]) rfl _ ⟨_, clock, ?_, hF', by rw [arr_set _ hj]; exact hB.set (by simpa using hj)⟩
    have hlt : b < w.heap.size := (Array.getElem?_eq_some_iff.1 hb).1
    simp only [World.hp, List.mem_singleton, if_true]
    rw [Array.getElem?_modify, if_pos rfl, hb]; rfl
/-- The entry's place lies there already: what is read is what was read. -/
theorem Ev.lookupE {x y : Operand} {t kt el : TypeId} {kf : K → Value} {vf : V → Value} {m : List (K × V)} {b i st : Nat} {k : K} {z0 : V} (hx : ev e x = some (.map (some b))) (hy : ev e y = some (kf k)) (hL : L[i]? = some (mitemE b kf vf (mset m k ((mget m k).getD z0)) k st))
    (hK : KeyOk P kt kf) (hu : ∀ w, (underlying t).run P w = .ok (.map kt el) w) (hz : ∀ w, (zeroValue el).run P w = .ok (vf z0) w) : Ev P n w0 e F L ⟨dst, .lookup t x y false, ty, pos, aft, gd⟩ (vf ((mget m k).getD z0)) := fun a w h hw => by
  obtain ⟨es, clock, hb, hF, _⟩ := St.mapE hw hL
  simp [execOp, h.eval hx, h.eval hy, map_look hK hu hz hb hF, mget_mset]
theorem Ev.lenMap {x : Operand} {t kt el : TypeId} {ats : Array TypeId} {kf : K → Value} {vf : V → Value} {m : List (K × V)} {b i : Nat} (hx : ev e x = some (.map (some b))) (hL : L[i]? = some (mitem b kf vf m)) (hat : ats[0]? = some t)
    (hu : ∀ w, (underlying t).run P w = .ok (.map kt el) w) : Ev P n w0 e F L ⟨dst, .call ⟨.builtin .len, #[x], ats⟩, ty, pos, aft, gd⟩ (.int .i64 (m.length : Int)) := fun a w h hw => by
  obtain ⟨es, clock, hb, hF⟩ := St.map hw hL
  have hlen : es.size = m.length := by rw [← Array.length_toList]; exact hF.len
  simp [execOp, resolve, invoke, builtin, Builtin.len_, hat, h.eval hx, hu, MapKept.run_getObj_map hb, goInt, hlen]
end
end Go.Proofs.Ytnkfphbggemlbaa
