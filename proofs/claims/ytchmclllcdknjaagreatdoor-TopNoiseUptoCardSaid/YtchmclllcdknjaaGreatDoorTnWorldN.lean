/-
  A world in which all are there and nothing is on its way: what is said comes to all.
-/
import Derived.Test.YtchmclllcdknjaaGreatDoorTnWorldG
namespace Go.Proofs.YtchmclllcdknjaaGreatDoor
open Enc

def VN (n : Nat) : View := ⟨0, ((1 : BitVec 8) <<< n) - (1 : BitVec 8)⟩
theorem vn_in {n i : Nat} (hn : n ≤ 6) (hi : i < n) : isIn (VN n).Members i = true := by
  have : ∀ n : Fin 7, ∀ i : Fin 7, i.val < n.val → isIn (VN n.val).Members i.val = true := by decide
  exact this ⟨n, by omega⟩ ⟨i, by omega⟩ hi
theorem vn_sq {n : Nat} (h : 1 ≤ n ∧ n ≤ 6) : sq (VN n) = 0 := by
  have h1 : sq (VN 1) = 0 := by kernel_rfl
  have h2 : sq (VN 2) = 0 := by kernel_rfl
  have h3 : sq (VN 3) = 0 := by kernel_rfl
  have h4 : sq (VN 4) = 0 := by kernel_rfl
  have h5 : sq (VN 5) = 0 := by kernel_rfl
  have h6 : sq (VN 6) = 0 := by kernel_rfl
  have : n = 1 ∨ n = 2 ∨ n = 3 ∨ n = 4 ∨ n = 5 ∨ n = 6 := by omega
  rcases this with rfl | rfl | rfl | rfl | rfl | rfl
  · exact h1
  · exact h2
  · exact h3
  · exact h4
  · exact h5
  · exact h6
theorem act_at {a : AW} {i : Nat} {x : Procs} (hx : a.ps[i]? = some x) : act a (i : Int) = (isIn a.view.Members i && !x.fallen) := by
  have hi := (List.getElem?_eq_some_iff.1 hx).1
  have hk : knw a (i : Int) = true := knw_iff.2 ⟨i, rfl, hi⟩
  unfold act
  rw [hk, Int.toNat_natCast, hx, Bool.true_and]
structure WsN (n N : Nat) (f : Nat → Procs → Prop) (a : AW) : Prop where
  view : a.view = VN n
  len : a.ps.length = n
  up : ∀ (i : Nat) x, a.ps[i]? = some x → x.fallen = false
  ord : a.ord.length = N
  ps : ∀ (i : Nat) x, a.ps[i]? = some x → f i x
theorem WsN.act {n N : Nat} {f : Nat → Procs → Prop} {a : AW} (h : WsN n N f a) (hn : n ≤ 6) {i : Nat} (hi : i < n) : act a (i : Int) = true := by
  have hl := h.len
  have hx : a.ps[i]? = some a.ps[i] := by simp
  rw [act_at hx, h.view, vn_in hn hi, h.up i _ hx]; rfl
theorem WsN.knw {n N : Nat} {f : Nat → Procs → Prop} {a : AW} (h : WsN n N f a) {i : Nat} (hi : i < n) : knw a (i : Int) = true := knw_iff.2 ⟨i, rfl, by rw [h.len]; exact hi⟩
theorem WsN.get {n N : Nat} {f : Nat → Procs → Prop} {a : AW} (h : WsN n N f a) {i : Nat} (hi : i < n) : ∃ x, a.ps[i]? = some x ∧ x.fallen = false ∧ f i x := by
  have hl := h.len
  have hx : a.ps[i]? = some (a.ps[i]'(by omega)) := by simp
  exact ⟨_, hx, h.up i _ hx, h.ps i _ hx⟩
theorem WsN.set {n N : Nat} {f g : Nat → Procs → Prop} {a : AW} (h : WsN n N f a) {i : Nat} (hi : i < n) {y : Procs} (hy : y.fallen = false) (hg : g i y) (ho : ∀ (j : Nat) z, j ≠ i → f j z → g j z) : WsN n N g { a with ps := a.ps.set i y } := by
  have hl := h.len
  have key : ∀ (j : Nat) z, (a.ps.set i y)[j]? = some z → (j = i ∧ z = y) ∨ (j ≠ i ∧ a.ps[j]? = some z) := fun j z hz => by
    by_cases c : j = i
    · subst c
      rw [List.getElem?_set_self (by omega)] at hz
      exact .inl ⟨rfl, (Option.some.inj hz).symm⟩
    · rw [List.getElem?_set_ne (fun e => c e.symm)] at hz
      exact .inr ⟨c, hz⟩
  refine ⟨h.view, by simp only [List.length_set]; exact h.len, fun j z hz => ?_, h.ord, fun j z hz => ?_⟩
  · rcases key j z hz with ⟨_, rfl⟩ | ⟨_, q⟩
    · exact hy
    · exact h.up j z q
  · rcases key j z hz with ⟨rfl, rfl⟩ | ⟨c, q⟩
    · exact hg
    · exact ho j z c (h.ps j z q)
theorem WsN.way {n N : Nat} {f : Nat → Procs → Prop} {a : AW} (h : WsN n N f a) (l : List Note) : WsN n N f { a with way := l } := ⟨h.view, h.len, h.up, h.ord, h.ps⟩
theorem WsN.push {n N : Nat} {f : Nat → Procs → Prop} {a : AW} (h : WsN n N f a) (m : Int × Int × Str) : WsN n (N + 1) f { a with ord := a.ord ++ [m] } := ⟨h.view, h.len, h.up, by simp only [List.length_append]; rw [h.ord]; rfl, h.ps⟩
/-- One process: what it has been told, what it has said and not yet heard, what of it is ordered. -/
structure Pst (S L : List Str) (e : Int) (x : Procs) : Prop where
  log : x.log.map (·.Text) = S
  to : x.to = ⟨S.length, []⟩
  base : 0 ≤ x.from_.Base ∧ x.from_.Base ≤ S.length
  late : x.from_.Late = L
  ords : x.orders = ⟨x.from_.Base + e, []⟩
structure NCx (n : Nat) (S : List Str) (t : Str) (p : Nat) (q : Int) : Prop where
  hn : 1 ≤ n ∧ n ≤ 6
  hp : p < n
  hq : 0 ≤ q ∧ q ≤ S.length
  ht : t.length ≤ 150
  hs : S.length ≤ 10000
def Quiet (n : Nat) (S : List Str) (a : AW) : Prop := WsN n S.length (fun _ => Pst S [] 0) a ∧ a.way = []
def FirstN (n : Nat) (S : List Str) (t : Str) (p : Nat) (q : Int) (a : AW) : Prop :=
  WsN n S.length (fun i x => (i = p → Pst S [t] 0 x ∧ x.from_.Base = q) ∧ (i ≠ p → Pst S [] 0 x)) a ∧ a.way = [noteM (VN n) 1 (p : Int) 0 q t]
def noteJ (n : Nat) (S : List Str) (t : Str) (p : Nat) (q : Int) (j : Nat) : Note := noteM (VN n) 2 0 (j : Int) (S.length : Int) (enc3 ((p : Int), q, t))
def PhN (n : Nat) (S : List Str) (t : Str) (p : Nat) (q : Int) (k : Nat) (a : AW) : Prop :=
  WsN n (S.length + 1) (fun i x => (i < k → Pst (S ++ [t]) [] 0 x) ∧ (k ≤ i → i = p → Pst S [t] 1 x ∧ x.from_.Base = q) ∧ (k ≤ i → i ≠ p → Pst S [] 0 x)) a ∧ a.way = (List.range' k (n - k)).map (noteJ n S t p q)

theorem ok_note {v : View} (hv : v.Num = 0) {k f t s : Int} {x : Str} (hk : 0 ≤ k ∧ k ≤ 255) (hf : 0 ≤ f ∧ f ≤ 5) (ht : 0 ≤ t ∧ t ≤ 5) (hs : 0 ≤ s ∧ s ≤ 16777215) (hx : x.length ≤ 200) : okN (noteM v k f t s x) = true :=
  okN_iff.2 ⟨hk, hf, ht, by show 0 ≤ v.Num ∧ v.Num ≤ 16777215; omega, hs, by show ∀ x ∈ Note.zero.At.toList, 0 ≤ x ∧ x ≤ 16777215; decide, hx⟩
theorem take_next {fu : Nat} (hfu : 200 < fu) {q : Int} {t : Str} (hq : 0 ≤ q ∧ q ≤ 16777214) (ht : t.length ≤ 200) : takeV fu ⟨q, []⟩ ⟨q, t⟩ = (⟨q + 1, []⟩, [t]) := by
  have hg : GoodT ⟨q, []⟩ := ⟨hq.1, by simp only; omega, by simp, List.Pairwise.nil, by simp, by simp⟩
  obtain ⟨_, t2, t3, _⟩ := take_v (r := ⟨q, []⟩) (p := ⟨q, t⟩) hfu hg hq ht
  have t3 := t3 rfl
  generalize takeV fu ⟨q, []⟩ ⟨q, t⟩ = r at t2 t3
  obtain ⟨⟨o1, o2⟩, ts⟩ := r
  simp only at t2 t3
  have hone : ∀ (i : Nat) u, ts[i]? = some u → i = 0 ∧ u = t := fun i u hu => by
    rcases t2.from_ i u hu with c | c
    · cases c
    · injection c with c1 c2
      simp only at c1
      exact ⟨by omega, c2⟩
  have hts : ts = [t] := by
    cases ts with
    | nil => simp at t3
    | cons u l =>
      have h0 := hone 0 u rfl
      rw [h0.2]
      cases l with
      | nil => rfl
      | cons w m => have := hone 1 w rfl; omega
  subst hts
  have h1 := t2.next
  simp at h1
  subst h1
  have h2 : o2 = [] := by
    cases o2 with
    | nil => rfl
    | cons y m =>
      obtain ⟨a1, _, a3⟩ := t2.rng y (by simp)
      rcases a3 with c | c
      · cases c
      · rw [c] at a1; simp only at a1; omega
  rw [h2]
theorem heard_next {q : Int} {t : Str} : heardV ⟨q, [t]⟩ (q + 1) = ⟨q + 1, []⟩ := by
  unfold heardV
  rw [decide_eq_false (by simp), cond_false]
  have : max (q + 1 - q) 0 = 1 := by omega
  simp only
  rw [this]; rfl
theorem move_take {fu : Nat} {a : AW} {n : Note} {l : List Note} (hw : a.way = n :: l) (hv : n.View = a.view.Num) (ha : act a n.To = true) : moveM fu a 0 1 = (delivM fu { a with way := l } n, 0) := by
  unfold moveM
  have h1 : (decide ((0 : Int) ≥ 0) && decide ((0 : Int) ≤ ((n :: l).length : Int) - 1)) = true := by
    simp only [List.length_cons]
    rw [decide_eq_true (by omega), decide_eq_true (by omega)]; rfl
  have h2 : (!(decide ((1 : Int) ≥ 1) && decide ((1 : Int) ≤ 3))) = false := rfl
  have h0 : (n :: l)[(0 : Int).toNat]? = some n := rfl
  rw [hw, h1, h2]
  simp only [Bool.not_true, cond_false, h0, hv, ha, show ((1 : Int) == 3) = false from rfl, show ((1 : Int) == 1) = true from rfl, Bool.false_and, Bool.true_and, beq_self_eq_true, cond_true]
  rfl
theorem fold_send {e : Str} {s N : Int} : ∀ (l : List Procs) (i : Nat) (c : AW), (∀ j, i ≤ j → j < i + l.length → act c (j : Int) = true ∧ okN (noteM c.view 2 s (j : Int) N e) = true) → c.way.length + l.length ≤ 60 →
    foldI (fun (c : AW) j (_ : Procs) => bif act c (j : Int) then sendM c 2 s (j : Int) N e else c) i l c = { c with way := c.way ++ (List.range' i l.length).map fun (j : Nat) => noteM c.view 2 s (j : Int) N e }
  | [], i, c, _, _ => by
    show c = { c with way := c.way ++ [] }
    rw [List.append_nil]
  | x :: l, i, c, h, hw => by
    obtain ⟨h1, h2⟩ := h i (Nat.le_refl _) (by simp)
    simp only [List.length_cons] at hw
    have hs : sendM c 2 s (i : Int) N e = { c with way := c.way ++ [noteM c.view 2 s (i : Int) N e] } := by
      unfold sendM
      rw [h2, decide_eq_true (by omega)]; rfl
    show foldI _ (i + 1) l (bif act c (i : Int) then sendM c 2 s (i : Int) N e else c) = _
    rw [h1, cond_true, hs, fold_send l (i + 1) { c with way := c.way ++ [noteM c.view 2 s (i : Int) N e] } (fun j hj hj2 => h j (by omega) (by simp only [List.length_cons]; omega)) (by simp; omega)]
    simp only [List.length_cons, List.range'_succ, List.map_cons, List.append_assoc, List.singleton_append]

/-! ### the steps -/
theorem say_noise {n : Nat} {S : List Str} {a : AW} {i : Nat} {t : Str} (hn : 1 ≤ n ∧ n ≤ 6) (h : Quiet n S a) (hS : S.length ≤ 10000) (hi : i < n) (ht : t.length ≤ 150) :
    (sayM a (i : Int) t).2 = 0 ∧ ∃ q, NCx n S t i q ∧ FirstN n S t i q (sayM a (i : Int) t).1 := by
  obtain ⟨hW, hway⟩ := h
  obtain ⟨x, hx, hf, hp⟩ := hW.get hi
  have hb := hp.base
  have hw : who a (i : Int) = 0 := by unfold who; rw [hW.knw hi, hW.act hn.2 hi]; rfl
  have hfl : fullF x.from_ = false := by
    unfold fullF
    rw [hp.late, decide_eq_false (by simp), decide_eq_false (by simp; omega)]; rfl
  have hok : okN (noteM a.view 1 (i : Int) (sq a.view) (x.from_.Base + x.from_.Late.length) t) = true := by
    rw [hW.view, vn_sq hn, hp.late]
    refine ok_note rfl (by omega) (by omega) (by omega) ?_ (by omega)
    simp only [List.length_nil]
    omega
  have hs : sayM a (i : Int) t = ({ a with ps := a.ps.set i { x with from_ := ⟨x.from_.Base, [t]⟩ }, way := [noteM (VN n) 1 (i : Int) 0 x.from_.Base t] }, 0) := by
    unfold sayM
    rw [hw, hway, decide_eq_false (show ¬ t.length > 150 by omega), Int.toNat_natCast, hx]
    simp only [bne_self_eq_false, cond_false, hfl]
    unfold sendM
    have hok' : okN (noteM a.view 1 (i : Int) (sq a.view) (x.from_.Base + x.from_.Late.length) t) = true := hok
    simp only
    rw [hok']
    simp only [hp.late, hW.view, vn_sq hn]
    simp
  rw [hs]
  refine ⟨rfl, x.from_.Base, ⟨hn, hi, hb, ht, hS⟩, ?_, rfl⟩
  exact (hW.set (g := fun j y => (j = i → Pst S [t] 0 y ∧ y.from_.Base = x.from_.Base) ∧ (j ≠ i → Pst S [] 0 y)) hi (y := { x with from_ := ⟨x.from_.Base, [t]⟩ }) hf ⟨fun _ => ⟨⟨hp.log, hp.to, hb, rfl, hp.ords⟩, rfl⟩, fun c => absurd rfl c⟩ (fun j z c hz => ⟨fun e => absurd e c, fun _ => hz⟩)).way _
theorem say_long {n : Nat} {S : List Str} {a : AW} {i : Nat} {t : Str} (hn : 1 ≤ n ∧ n ≤ 6) (h : Quiet n S a) (hi : i < n) (ht : ¬ t.length ≤ 150) : sayM a (i : Int) t = (a, 2) := by
  obtain ⟨hW, hway⟩ := h
  have hw : who a (i : Int) = 0 := by unfold who; rw [hW.knw hi, hW.act hn.2 hi]; rfl
  unfold sayM
  rw [hw, decide_eq_true (show t.length > 150 by omega)]; rfl
theorem move_first {fu n : Nat} {S : List Str} {t : Str} {p : Nat} {q : Int} {a : AW} (hfu : 200 < fu) (c : NCx n S t p q) (h : FirstN n S t p q a) :
    a.way.length = 1 ∧ (moveM fu a 0 1).2 = 0 ∧ PhN n S t p q 0 (moveM fu a 0 1).1 := by
  obtain ⟨hW, hway⟩ := h
  have hcn := c.hn
  have hcp := c.hp
  have hcq := c.hq
  have hct := c.ht
  have hcs := c.hs
  obtain ⟨x, hx, hf, hp, _⟩ := hW.get c.hp
  obtain ⟨hp, hq⟩ := hp rfl
  refine ⟨by rw [hway]; rfl, ?_⟩
  have hact : act a (noteM (VN n) 1 (p : Int) 0 q t).To = true := hW.act hcn.2 (i := 0) (by omega)
  rw [move_take hway (by rw [hW.view]; rfl) hact]
  refine ⟨rfl, ?_⟩
  obtain ⟨b, hb⟩ : ∃ b : AW, b = { a with way := [] } := ⟨_, rfl⟩
  rw [← hb]
  have hWb := hW.way []
  rw [← hb] at hWb
  have hbw : b.way = [] := by rw [hb]
  have hbx : b.ps[p]? = some x := by rw [hb]; exact hx
  clear hb hW hway hact hx
  have ho : x.orders = ⟨q, []⟩ := by rw [hp.ords, hq, Int.add_zero]
  have e : delivM fu b (noteM (VN n) 1 (p : Int) 0 q t) = ordOne { b with ps := b.ps.set p { x with orders := ⟨q + 1, []⟩ } } (p : Int) q t := by
    unfold delivM
    have hk : knw b (noteM (VN n) 1 (p : Int) 0 q t).From = true := hWb.knw hcp
    rw [hk]
    show orderM fu b (noteM (VN n) 1 (p : Int) 0 q t) = _
    unfold orderM
    have e1 : b.ps[(noteM (VN n) 1 (p : Int) 0 q t).From.toNat]? = some x := hbx
    rw [e1]
    simp only
    have e2 : decide ((noteM (VN n) 1 (p : Int) 0 q t).Seq > 16777214) = false := decide_eq_false (by show ¬ q > _; omega)
    have e3 : takeV fu x.orders ⟨(noteM (VN n) 1 (p : Int) 0 q t).Seq, (noteM (VN n) 1 (p : Int) 0 q t).Text⟩ = (⟨q + 1, []⟩, [t]) := by rw [ho]; exact take_next (t := t) hfu (by omega) (by omega)
    rw [e2, cond_false, e3, ho]
    show ordOne _ (p : Int) (q + ((0 : Nat) : Int)) t = _
    rw [show q + ((0 : Nat) : Int) = q by omega]
    rfl
  rw [e]
  have hset := hWb.set (g := fun i x => (i < 0 → Pst (S ++ [t]) [] 0 x) ∧ (0 ≤ i → i = p → Pst S [t] 1 x ∧ x.from_.Base = q) ∧ (0 ≤ i → i ≠ p → Pst S [] 0 x)) hcp (y := { x with orders := ⟨q + 1, []⟩ }) hf
    ⟨fun k => absurd k (by omega), fun _ _ => ⟨⟨hp.log, hp.to, hp.base, hp.late, by simp only; rw [hq]⟩, hq⟩, fun _ k => absurd rfl k⟩ (fun j z k hz => ⟨fun k => absurd k (by omega), fun _ e => absurd e k, fun _ _ => hz.2 k⟩)
  generalize hd : ({ b with ps := b.ps.set p { x with orders := ⟨q + 1, []⟩ } } : AW) = d at hset ⊢
  have hdw : d.way = [] := by rw [← hd]; exact hbw
  have hs2 := WsN.push hset ((p : Int), q, t)
  have h3 : G3 ((p : Int), q, t) := ⟨by simp only; omega, by simp only; omega, hct⟩
  have hel := enc3_len h3
  have e4 : ordOne d (p : Int) q t = { d with ord := d.ord ++ [((p : Int), q, t)], way := (List.range' 0 n).map (noteJ n S t p q) } := by
    unfold ordOne
    rw [fold_send d.ps 0 { d with ord := d.ord ++ [((p : Int), q, t)] } (fun j _ hj => ⟨hs2.act hcn.2 (by rw [← hset.len]; omega), ?_⟩) (by simp only [hdw, List.length_nil, hset.len]; omega)]
    · simp only [hdw, List.nil_append, hset.len, hset.ord, hset.view, vn_sq hcn]
      rfl
    · have := hset.len
      refine ok_note (by simp only [hset.view]; rfl) (by omega) (by rw [hset.view, vn_sq hcn]; omega) (by omega) (by rw [hset.ord]; omega) (by omega)
  rw [e4]
  exact ⟨hs2.way _, by rw [Nat.sub_zero]⟩
theorem move_next {fu n : Nat} {S : List Str} {t : Str} {p : Nat} {q : Int} {a : AW} {k : Nat} (hfu : 200 < fu) (c : NCx n S t p q) (h : PhN n S t p q k a) (hk : k < n) :
    0 < a.way.length ∧ (moveM fu a 0 1).2 = 0 ∧ PhN n S t p q (k + 1) (moveM fu a 0 1).1 := by
  obtain ⟨hW, hway⟩ := h
  have hcn := c.hn
  have hcp := c.hp
  have hcq := c.hq
  have hct := c.ht
  have hcs := c.hs
  obtain ⟨x, hx, hf, _, hp1, hp2⟩ := hW.get hk
  have hp1 := hp1 (Nat.le_refl _)
  have hp2 := hp2 (Nat.le_refl _)
  rw [show n - k = (n - (k + 1)) + 1 by omega, List.range'_succ, List.map_cons] at hway
  refine ⟨by rw [hway]; simp, ?_⟩
  have hact : act a (noteJ n S t p q k).To = true := hW.act hcn.2 hk
  rw [move_take hway (by rw [hW.view]; rfl) hact]
  refine ⟨rfl, ?_⟩
  generalize hrest : (List.range' (k + 1) (n - (k + 1))).map (noteJ n S t p q) = rest at hway
  obtain ⟨b, hb⟩ : ∃ b : AW, b = { a with way := rest } := ⟨_, rfl⟩
  rw [← hb]
  have hWb := hW.way rest
  rw [← hb] at hWb
  have hbw : b.way = rest := by rw [hb]
  have hbx : b.ps[k]? = some x := by rw [hb]; exact hx
  clear hb hW hway hact hx
  have h3 : G3 ((p : Int), q, t) := ⟨by simp only; omega, by simp only; omega, hct⟩
  have hel := enc3_len h3
  have hto : x.to = ⟨S.length, []⟩ := by
    by_cases e : k = p
    · exact (hp1 e).1.to
    · exact (hp2 e).to
  have e : delivM fu b (noteJ n S t p q k) = { b with ps := b.ps.set k { x with to := ⟨(S.length : Int) + 1, []⟩, log := x.log ++ [⟨(p : Int), t⟩], from_ := bif (p : Int) == (k : Int) then heardV x.from_ (q + 1) else x.from_ } } := by
    unfold delivM
    have hk0 : knw b (noteJ n S t p q k).From = true := hWb.knw (i := 0) (by omega)
    rw [hk0]
    show takeM fu b (noteJ n S t p q k) = _
    unfold takeM
    have e1 : b.ps[(noteJ n S t p q k).To.toNat]? = some x := hbx
    rw [e1]
    simp only
    have e2 : decide ((noteJ n S t p q k).Seq > 16777214) = false := decide_eq_false (by show ¬ (S.length : Int) > _; omega)
    have e3 : takeV fu x.to ⟨(noteJ n S t p q k).Seq, (noteJ n S t p q k).Text⟩ = (⟨(S.length : Int) + 1, []⟩, [enc3 ((p : Int), q, t)]) := by rw [hto]; exact take_next (t := enc3 ((p : Int), q, t)) hfu (by omega) (by omega)
    rw [e2, cond_false, e3]
    show hearM _ (k : Int) (enc3 ((p : Int), q, t)) = _
    unfold hearM
    have hkl : k < b.ps.length := by rw [hWb.len]; exact hk
    have e4 : (b.ps.set k ({ x with to := ⟨(S.length : Int) + 1, []⟩ } : Procs))[((k : Int)).toNat]? = some { x with to := ⟨(S.length : Int) + 1, []⟩ } := by rw [Int.toNat_natCast, List.getElem?_set_self hkl]
    have e5 : ((noteJ n S t p q k).To).toNat = k := Int.toNat_natCast k
    simp only [e5]
    rw [e4]
    simp only [prs_enc h3, Int.toNat_natCast, List.set_set]
  rw [e]
  have hg : Pst (S ++ [t]) [] 0 ({ x with to := ⟨(S.length : Int) + 1, []⟩, log := x.log ++ [⟨(p : Int), t⟩], from_ := bif (p : Int) == (k : Int) then heardV x.from_ (q + 1) else x.from_ } : Procs) := by
    have hsl : ((S ++ [t]).length : Int) = (S.length : Int) + 1 := by simp
    by_cases e : k = p
    · obtain ⟨hp, hq⟩ := hp1 e
      have hfr : x.from_ = ⟨q, [t]⟩ := by rw [← hq, ← hp.late]
      rw [show ((p : Int) == (k : Int)) = true by simp [e], cond_true, hfr, heard_next]
      exact ⟨by simp only [List.map_append, hp.log]; rfl, by simp only; rw [hsl], by simp only; rw [hsl]; omega, rfl, by simp only; rw [hp.ords, hq]; simp⟩
    · have hp := hp2 e
      have hb := hp.base
      rw [show ((p : Int) == (k : Int)) = false by simp; omega, cond_false]
      exact ⟨by simp only [List.map_append, hp.log]; rfl, by simp only; rw [hsl], by simp only; rw [hsl]; omega, hp.late, hp.ords⟩
  refine ⟨hWb.set hk (y := { x with to := ⟨(S.length : Int) + 1, []⟩, log := x.log ++ [⟨(p : Int), t⟩], from_ := bif (p : Int) == (k : Int) then heardV x.from_ (q + 1) else x.from_ }) hf ⟨fun _ => hg, fun k => absurd k (by omega), fun k => absurd k (by omega)⟩ (fun j z hne hz => ⟨fun hj => hz.1 (by omega), fun hj => hz.2.1 (by omega), fun hj => hz.2.2 (by omega)⟩), hbw.trans hrest.symm⟩
theorem PhN.done {n : Nat} {S : List Str} {t : Str} {p : Nat} {q : Int} {a : AW} (h : PhN n S t p q n a) : Quiet n (S ++ [t]) a := by
  obtain ⟨hW, hway⟩ := h
  refine ⟨⟨hW.view, hW.len, hW.up, by rw [hW.ord]; simp, fun i x hx => ?_⟩, by rw [hway, Nat.sub_self]; rfl⟩
  have hi : i < n := by rw [← hW.len]; exact (List.getElem?_eq_some_iff.1 hx).1
  exact (hW.ps i x hx).1 hi
/-- At most m moves from quiet. -/
def MidN (n : Nat) (T : List Str) (m : Nat) (a : AW) : Prop :=
  Quiet n T a ∨ ∃ S t p q, T = S ++ [t] ∧ NCx n S t p q ∧ ((∃ k, k < n ∧ n - k ≤ m ∧ PhN n S t p q k a) ∨ (n + 1 ≤ m ∧ FirstN n S t p q a))
theorem MidN.mono {n : Nat} {T : List Str} {m k : Nat} {a : AW} (h : MidN n T m a) (hk : m ≤ k) : MidN n T k a := by
  rcases h with h | ⟨S, t, p, q, e, c, ⟨j, h1, h2, h3⟩ | ⟨h1, h2⟩⟩
  · exact .inl h
  · exact .inr ⟨S, t, p, q, e, c, .inl ⟨j, h1, by omega, h3⟩⟩
  · exact .inr ⟨S, t, p, q, e, c, .inr ⟨by omega, h2⟩⟩
theorem MidN.zero {n : Nat} {T : List Str} {a : AW} (h : MidN n T 0 a) : Quiet n T a := by
  rcases h with h | ⟨S, t, p, q, e, c, ⟨j, h1, h2, h3⟩ | ⟨h1, h2⟩⟩
  · exact h
  · omega
  · omega
theorem MidN.step {fu n : Nat} {T : List Str} {m : Nat} {a : AW} (hfu : 200 < fu) (h : MidN n T (m + 1) a) : (a.way = [] ∧ MidN n T m a) ∨ (0 < a.way.length ∧ (moveM fu a 0 1).2 = 0 ∧ MidN n T m (moveM fu a 0 1).1) := by
  rcases h with h | ⟨S, t, p, q, e, c, ⟨j, h1, h2, h3⟩ | ⟨h1, h2⟩⟩
  · exact .inl ⟨h.2, .inl h⟩
  · obtain ⟨m1, m2, m3⟩ := move_next hfu c h3 h1
    refine .inr ⟨m1, m2, ?_⟩
    by_cases d : j + 1 = n
    · rw [d] at m3
      rw [e]
      exact .inl m3.done
    · exact .inr ⟨S, t, p, q, e, c, .inl ⟨j + 1, by omega, by omega, m3⟩⟩
  · obtain ⟨m1, m2, m3⟩ := move_first hfu c h2
    have := c.hn
    exact .inr ⟨by omega, m2, .inr ⟨S, t, p, q, e, c, .inl ⟨0, by omega, by omega, m3⟩⟩⟩
theorem Quiet.new {n : Nat} : Quiet n [] (newA n) := by
  refine ⟨⟨rfl, by simp [newA], fun i x hx => ?_, rfl, fun i x hx => ?_⟩, rfl⟩
  · have := (List.mem_replicate.1 (List.mem_of_getElem? hx)).2
    rw [this]; rfl
  · have := (List.mem_replicate.1 (List.mem_of_getElem? hx)).2
    rw [this]
    exact ⟨rfl, rfl, ⟨Int.le_refl _, Int.le_refl _⟩, rfl, rfl⟩
end Go.Proofs.YtchmclllcdknjaaGreatDoor
