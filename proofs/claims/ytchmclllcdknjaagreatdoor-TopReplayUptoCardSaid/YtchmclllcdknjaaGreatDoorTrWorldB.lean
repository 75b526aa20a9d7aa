/-
  The code's world, told by plain functions: sayings, and sayings anew.
-/
import Derived.Test.YtchmclllcdknjaaGreatDoorTrWorldA
namespace Go.Proofs.YtchmclllcdknjaaGreatDoor
open Enc

/-! ### loops, told -/
def foldI {τ α : Type} (f : τ → Nat → α → τ) : Nat → List α → τ → τ
  | _, [], b => b
  | i, x :: l, b => foldI f (i + 1) l (f b i x)
theorem rangeF_emb {σ τ α : Type} {body : Nat → σ → Option σ} (e : τ → σ) (f : τ → Nat → α → τ) (I : Nat → τ → Prop) {l : List α} (h : ∀ (i : Nat) x b, l[i]? = some x → I i b → body i (e b) = some (e (f b i x)) ∧ I (i + 1) (f b i x)) :
    ∀ (k i : Nat) (b : τ), i + k = l.length → I i b → rangeF body k i (e b) = some (e (foldI f i (l.drop i) b)) ∧ I l.length (foldI f i (l.drop i) b)
  | 0, i, b, hk, hI => by
    rw [List.drop_of_length_le (by omega)]
    exact ⟨rfl, by rw [← hk]; exact hI⟩
  | k + 1, i, b, hk, hI => by
    have hi : i < l.length := by omega
    have hx : l[i]? = some l[i] := by simp [hi]
    obtain ⟨h1, h2⟩ := h i _ b hx hI
    obtain ⟨h3, h4⟩ := rangeF_emb e f I h k (i + 1) _ (by omega) h2
    rw [List.drop_eq_getElem_cons hi]
    refine ⟨?_, h4⟩
    unfold rangeF
    rw [h1, Option.bind_some, h3]
    rfl
theorem foldI_inv {τ α : Type} {f : τ → Nat → α → τ} (I : τ → Prop) : ∀ (l : List α) (i : Nat) (b : τ), (∀ b j x, x ∈ l → I b → I (f b j x)) → I b → I (foldI f i l b)
  | [], _, _, _, hb => hb
  | x :: l, i, b, h, hb => foldI_inv I l (i + 1) _ (fun b j y hy => h b j y (List.mem_cons_of_mem _ hy)) (h b i x (by simp) hb)

/-! ### the lane's sender -/
theorem lanyl_eq (l : List Str) : slices_ContainsFunc_string_string_lane_long l = some (l.any fun x => decide ((x.length : Int) > 200)) := by
  unfold slices_ContainsFunc_string_string_lane_long
  have : slices_IndexFunc_string_string_lane_long l = some (idxI (fun x => decide ((x.length : Int) > 200)) l) := by
    unfold slices_IndexFunc_string_string_lane_long
    refine index_loop _ fun j x hx => ?_
    unfold slices_IndexFunc_string_string_lane_long_B0 lane_long
    rw [lat_nat, hx, Option.bind_some, Option.bind_some]
    cases decide ((x.length : Int) > 200) <;> rfl
  rw [this, Option.bind_some]
  congr 1
  rw [Bool.eq_iff_iff, List.any_eq_true, decide_eq_true_eq]
  rcases idxI_cases (fun x : Str => decide ((x.length : Int) > 200)) l with ⟨h, h1⟩ | ⟨i, y, h, h1, h2, _⟩
  · rw [h]
    exact ⟨fun k => by omega, fun ⟨x, hx, k⟩ => by have := h1 x hx; rw [this] at k; cases k⟩
  · rw [h]
    exact ⟨fun _ => ⟨y, List.mem_of_getElem? h1, h2⟩, fun _ => by omega⟩
structure GF (f : From) : Prop where
  base : 0 ≤ f.Base ∧ f.Base + f.Late.length ≤ 16777215
  late : f.Late.length ≤ 16 ∧ ∀ t ∈ f.Late, t.length ≤ 150
theorem GP.gf {B : Nat} {x : Procs} (h : GP B x) : GF x.from_ := ⟨h.base, h.late⟩
theorem from_ok {f : From} (h : GF f) : lane_CheckFrom f = some 0 := by
  have h1 := h.base
  have h2 := h.late
  have ha : (f.Late.any fun x => decide ((x.length : Int) > 200)) = false := by
    rw [List.any_eq_false]
    intro x hx
    have := h2.2 x hx
    simp; omega
  unfold lane_CheckFrom
  rw [lin_eq, Option.bind_some, decide_eq_true (show f.Base ≥ 0 by omega), decide_eq_true (show f.Base ≤ 16777215 by omega), decide_eq_false (show ¬ (f.Late.length : Int) > 16 by omega), lanyl_eq, ha]
  rfl
theorem clone_strs {l : List Str} (h : l.length ≤ 2 ^ 40) : slices_Clone_string_string l = some l := by
  unfold slices_Clone_string_string
  rw [room_ok (by simpa using h)]
  rfl
theorem clone_says {l : List Saying} (h : l.length ≤ 2 ^ 40) : slices_Clone_api_Saying_api_Saying l = some l := by
  unfold slices_Clone_api_Saying_api_Saying
  rw [room_ok (by simpa using h)]
  rfl
def fullF (f : From) : Bool := decide (f.Late.length = 16) || decide (f.Base + f.Late.length ≥ 16777215)
theorem put_law {f : From} {t : Str} (h : GF f) (ht : t.length ≤ 150) : lane_Put f t = some (bif fullF f then ((⟨0, []⟩ : From), 8) else ((⟨f.Base, f.Late ++ [t]⟩ : From), 0)) := by
  have h1 := h.base
  have h2 := h.late
  unfold lane_Put
  rw [from_ok h, Option.bind_some, long_eq, Option.bind_some, decide_eq_false (show ¬ (t.length : Int) > 200 by omega), or_some, Option.bind_some, w64_id (show -9223372036854775808 ≤ f.Base + (f.Late.length : Int) by omega) (by omega), clone_strs (by omega), Option.bind_some, room_ok (by simp; omega), Option.bind_some, Let_eq]
  have e : (((f.Late.length : Int) == 16) || decide (f.Base + (f.Late.length : Int) ≥ 16777215)) = fullF f := by
    unfold fullF
    congr 1
    rw [Bool.eq_iff_iff]; simp; omega
  rw [e]
  cases fullF f <;> rfl
def heardV (f : From) (k : Int) : From := bif decide (k > f.Base + f.Late.length) then f else ⟨f.Base + max (k - f.Base) 0, f.Late.drop (max (k - f.Base) 0).toNat⟩
theorem heard_law {f : From} {k : Int} (h : GF f) (hk : -1000000000 ≤ k ∧ k ≤ 1000000000) : ∃ g c, lane_Heard f k = some (g, c) ∧ (bif c == 0 then g else f) = heardV f k := by
  have h1 := h.base
  have h2 := h.late
  unfold lane_Heard heardV
  rw [from_ok h, Option.bind_some]
  simp only [bne_self_eq_false, cond_false]
  rw [w64_id (show -9223372036854775808 ≤ f.Base + (f.Late.length : Int) by omega) (by omega)]
  by_cases c : k > f.Base + f.Late.length
  · rw [decide_eq_true c]
    exact ⟨_, _, rfl, rfl⟩
  · rw [decide_eq_false c, cond_false, cond_false, w64_id (show -9223372036854775808 ≤ k - f.Base by omega) (by omega)]
    obtain ⟨n, hn⟩ : ∃ n : Nat, max (k - f.Base) 0 = (n : Int) := int_nat (by omega)
    rw [hn]
    have hnl : n ≤ f.Late.length := by omega
    have ec : cutL f.Late (n : Int) (f.Late.length : Int) = some (f.Late.drop n) := by
      unfold cutL; rw [if_pos (by omega)]
      simp only [Int.toNat_natCast]
      rw [List.take_of_length_le (by simp)]
    rw [ec, Option.bind_some, clone_strs (by simp; omega), Option.bind_some, Let_eq, w64_id (show -9223372036854775808 ≤ f.Base + (n : Int) by omega) (by omega)]
    exact ⟨_, _, rfl, rfl⟩
theorem heardV_gf {f : From} {k : Int} (h : GF f) : GF (heardV f k) := by
  have h1 := h.base
  have h2 := h.late
  unfold heardV
  by_cases c : k > f.Base + f.Late.length
  · rw [decide_eq_true c]; exact h
  · rw [decide_eq_false c, cond_false]
    refine ⟨⟨by simp only; omega, ?_⟩, ?_, fun t ht => h2.2 t (List.mem_of_mem_drop ht)⟩
    · simp only [List.length_drop]; omega
    · simp only [List.length_drop]; omega

/-! ### sayings -/
def sayM (a : AW) (p : Int) (t : Str) : AW × Int :=
  bif who a p != 0 then (a, who a p) else
  bif decide (t.length > 150) then (a, 2) else
  bif decide (a.way.length = 60) then (a, 8) else
  match a.ps[p.toNat]? with
  | none => (a, 0)
  | some x => bif fullF x.from_ then (a, 8) else
    (sendM { a with ps := a.ps.set p.toNat { x with from_ := ⟨x.from_.Base, x.from_.Late ++ [t]⟩ } } 1 p (sq a.view) (x.from_.Base + x.from_.Late.length) t, 0)
theorem say_law {B : Nat} {a : AW} (h : GA B a) (p : Int) (t : Str) : world_World_Say a.w p t = some ((sayM a p t).1.w.all, (sayM a p t).1.w.way, (sayM a p t).1.w, (sayM a p t).2) := by
  unfold world_World_Say sayM
  rw [working_law h.n, Option.bind_some]
  cases hw : (who a p != 0) with
  | true => rfl
  | false =>
    obtain ⟨i, x, rfl, hx, ha⟩ := who_zero hw
    rw [cond_false, cond_false]
    by_cases ht : t.length > 150
    · rw [decide_eq_true ht, decide_eq_true (show (t.length : Int) > 150 by omega)]; rfl
    · rw [decide_eq_false ht, decide_eq_false (show ¬ (t.length : Int) > 150 by omega), cond_false, cond_false]
      have hl : (((a.w.way).length : Int) == 60) = decide (a.way.length = 60) := by
        have : a.w.way.length = a.way.length := List.length_map _
        rw [this, Bool.eq_iff_iff]; simp; omega
      rw [hl]
      by_cases h6 : a.way.length = 60
      · rw [decide_eq_true h6]; rfl
      · have e : a.w.all = a.ps := rfl
        have hg := (h.ps x (List.mem_of_getElem? hx)).gf
        have hb := hg.base
        rw [decide_eq_false h6, cond_false, cond_false, e, lat_nat, Int.toNat_natCast, hx, Option.bind_some, put_law hg (by omega), Option.bind_some]
        simp only
        cases hf : fullF x.from_ with
        | true => rfl
        | false =>
          simp only [cond_false, bne_self_eq_false, Option.bind_some, Let_eq]
          have ew : ({ a.w with all := a.ps.set i ({ x with from_ := (⟨x.from_.Base, x.from_.Late ++ [t]⟩ : From) } : Procs) } : Wld) = ({ a with ps := a.ps.set i { x with from_ := ⟨x.from_.Base, x.from_.Late ++ [t]⟩ } } : AW).w := rfl
          have eb : w64 ((w64 (x.from_.Base + ((x.from_.Late ++ [t]).length : Int))) - 1) = x.from_.Base + x.from_.Late.length := by
            have hl1 : ((x.from_.Late ++ [t]).length : Int) = (x.from_.Late.length : Int) + 1 := by simp
            rw [hl1, w64_id (x := x.from_.Base + ((x.from_.Late.length : Int) + 1)) (by omega) (by omega), w64_id (by omega) (by omega)]
            omega
          have sv : (({ a with ps := a.ps.set i { x with from_ := ⟨x.from_.Base, x.from_.Late ++ [t]⟩ } } : AW).w).view = a.view := rfl
          rw [ew, seq_law, Option.bind_some, eb, sv, send_law (a := { a with ps := a.ps.set i { x with from_ := ⟨x.from_.Base, x.from_.Late ++ [t]⟩ } }) h.way.1, Option.bind_some]
          refine congrArg some ?_
          generalize hb : sendM ({ a with ps := a.ps.set i { x with from_ := ⟨x.from_.Base, x.from_.Late ++ [t]⟩ } } : AW) 1 (i : Int) (sq a.view) (x.from_.Base + x.from_.Late.length) t = b
          have b1 : b.ps = a.ps.set i { x with from_ := ⟨x.from_.Base, x.from_.Late ++ [t]⟩ } := by rw [← hb, sendM_ps]
          have b2 : b.ord = a.ord := by rw [← hb, sendM_ord]
          show (a.ps.set i _, b.w.way, ({ b.w with all := a.ps.set i _, ordered := a.w.ordered, way := b.w.way } : Wld), (0 : Int)) = (b.w.all, b.w.way, b.w, 0)
          rw [← b1]
          unfold AW.w
          simp only
          rw [b2]
theorem GA.say {B : Nat} {a : AW} (h : GA B a) (p : Int) (t : Str) : GA B (sayM a p t).1 := by
  unfold sayM
  cases hw : (who a p != 0) with
  | true => exact h
  | false =>
    obtain ⟨i, x, rfl, hx, ha⟩ := who_zero hw
    rw [cond_false]
    by_cases ht : t.length > 150
    · rw [decide_eq_true ht]; exact h
    · rw [decide_eq_false ht, cond_false]
      by_cases h6 : a.way.length = 60
      · rw [decide_eq_true h6]; exact h
      · rw [decide_eq_false h6, cond_false, Int.toNat_natCast, hx]
        simp only
        have hp := h.ps x (List.mem_of_getElem? hx)
        cases hf : fullF x.from_ with
        | true => exact h
        | false =>
          rw [cond_false]
          unfold fullF at hf
          simp only [Bool.or_eq_false_iff, decide_eq_false_iff_not] at hf
          have h1 := hp.base
          have h2 := hp.late
          refine GA.send (k := 1) (x := t) (h.set i (x := { x with from_ := ⟨x.from_.Base, x.from_.Late ++ [t]⟩ }) ⟨hp.log, ⟨h1.1, ?_⟩, ⟨?_, fun u hu => ?_⟩, hp.to, hp.ords⟩) (fun _ => by omega) (fun q => absurd q (by decide))
          · simp only [List.length_append, List.length_cons, List.length_nil]; omega
          · simp only [List.length_append, List.length_cons, List.length_nil]; omega
          · rcases List.mem_append.1 hu with q | q
            · exact h2.2 u q
            · rw [List.mem_singleton.1 q]; omega

/-! ### who falls -/
def fallM (a : AW) (p : Int) : AW × Int :=
  bif !knw a p then (a, 1) else
  match a.ps[p.toNat]? with
  | none => (a, 0)
  | some x => ({ a with ps := a.ps.set p.toNat { x with fallen := true } }, 0)
theorem fall_law {B : Nat} {a : AW} (h : GA B a) (p : Int) : world_World_Fall a.w p = some ((fallM a p).1.w.all, (fallM a p).1.w, (fallM a p).2) := by
  unfold world_World_Fall fallM
  rw [known_law h.n, Option.bind_some]
  cases hk : knw a p with
  | false => rfl
  | true =>
    obtain ⟨i, rfl, hi⟩ := knw_iff.1 hk
    have hx : a.ps[i]? = some a.ps[i] := by simp [hi]
    generalize a.ps[i] = x at hx
    have e : a.w.all = a.ps := rfl
    simp only [Bool.not_true, cond_false, bne_self_eq_false]
    rw [e, lat_nat, Int.toNat_natCast, hx, Option.bind_some, Let_eq]
    rfl
theorem GA.fall {B : Nat} {a : AW} (h : GA B a) (p : Int) : GA B (fallM a p).1 := by
  unfold fallM
  cases hk : knw a p with
  | false => exact h
  | true =>
    obtain ⟨i, rfl, hi⟩ := knw_iff.1 hk
    have hx : a.ps[i]? = some a.ps[i] := by simp [hi]
    generalize a.ps[i] = x at hx
    rw [Int.toNat_natCast, hx]
    simp only [Bool.not_true, cond_false]
    have hp := h.ps x (List.mem_of_getElem? hx)
    exact h.set i ⟨hp.log, hp.base, hp.late, hp.to, hp.ords⟩

/-! ### sayings anew -/
def sndM (b : Int) : Nat → List Str → List Parcel
  | _, [] => []
  | i, t :: l => if i < 4 then ⟨b + i, t⟩ :: sndM b (i + 1) l else sndM b (i + 1) l
theorem sends_loop {f : From} (h : GF f) : ∀ (k i : Nat) (z : List Parcel), i + k = f.Late.length → z.length ≤ i → rangeF (lane_Sends_B0 f 4) k i z = some (z ++ sndM f.Base i (f.Late.drop i))
  | 0, i, z, hk, _ => by
    rw [List.drop_of_length_le (by omega)]
    show some z = some (z ++ [])
    rw [List.append_nil]
  | k + 1, i, z, hk, hz => by
    have hi : i < f.Late.length := by omega
    have hx : f.Late[i]? = some f.Late[i] := by simp [hi]
    have h1 := h.base
    have h2 := h.late.1
    rw [List.drop_eq_getElem_cons hi]
    generalize f.Late[i] = t at hx
    unfold rangeF
    by_cases c : i < 4
    · have hb : lane_Sends_B0 f 4 i z = some (z ++ [⟨f.Base + i, t⟩]) := by
        unfold lane_Sends_B0
        rw [lat_nat, hx, Option.bind_some, decide_eq_true (show (i : Int) < 4 by omega), cond_true, w64_id (show -9223372036854775808 ≤ f.Base + (i : Int) by omega) (by omega), room_ok (by simp; omega), Option.bind_some]
      rw [hb, Option.bind_some, sends_loop h k (i + 1) _ (by omega) (by simp; omega)]
      conv => rhs; unfold sndM
      rw [if_pos c, List.append_assoc]
      rfl
    · have hb : lane_Sends_B0 f 4 i z = some z := by
        unfold lane_Sends_B0
        rw [lat_nat, hx, Option.bind_some, decide_eq_false (show ¬ (i : Int) < 4 by omega), cond_false]
      rw [hb, Option.bind_some, sends_loop h k (i + 1) _ (by omega) (by omega)]
      conv => rhs; unfold sndM
      rw [if_neg c]
theorem sends_law {f : From} (h : GF f) : lane_Sends f 4 = some (sndM f.Base 0 f.Late, 0) := by
  unfold lane_Sends
  rw [from_ok h, Option.bind_some]
  simp only [bne_self_eq_false, cond_false]
  rw [sends_loop h f.Late.length 0 [] (by omega) (by simp), Option.bind_some]
  rfl
theorem sndM_mem {b : Int} : ∀ {i : Nat} {l : List Str} {q : Parcel}, q ∈ sndM b i l → q.Text ∈ l
  | _, [], _, h => by simp [sndM] at h
  | i, t :: l, q, h => by
    unfold sndM at h
    split at h
    · rcases List.mem_cons.1 h with e | e
      · rw [e]; simp
      · exact List.mem_cons_of_mem _ (sndM_mem e)
    · exact List.mem_cons_of_mem _ (sndM_mem h)
def againM (a : AW) (p : Int) : AW × Int :=
  bif who a p != 0 then (a, who a p) else
  match a.ps[p.toNat]? with
  | none => (a, 0)
  | some x => (sendM (foldI (fun b _ (q : Parcel) => sendM b 1 p (sq a.view) q.Seq q.Text) 0 (sndM x.from_.Base 0 x.from_.Late) a) 3 p (sq a.view) x.to.Next [], 0)
structure Like (a b : AW) : Prop where
  view : b.view = a.view
  ps : b.ps = a.ps
  ord : b.ord = a.ord
theorem Like.w {a b : AW} (h : Like a b) : ({ b.w with all := a.w.all, ordered := a.w.ordered, way := b.w.way } : Wld) = b.w := by
  unfold AW.w; simp only; rw [h.ps, h.ord]
theorem Like.send {a b : AW} (h : Like a b) (k f t s : Int) (x : Str) : Like a (sendM b k f t s x) := ⟨(sendM_view ..).trans h.view, (sendM_ps ..).trans h.ps, (sendM_ord ..).trans h.ord⟩
theorem again_law {B : Nat} {a : AW} (h : GA B a) (p : Int) : world_World_Again a.w p = some ((againM a p).1.w.way, (againM a p).1.w, (againM a p).2) := by
  unfold world_World_Again againM
  rw [working_law h.n, Option.bind_some]
  cases hw : (who a p != 0) with
  | true => rfl
  | false =>
    obtain ⟨i, x, rfl, hx, ha⟩ := who_zero hw
    have e : a.w.all = a.ps := rfl
    have hp := h.ps x (List.mem_of_getElem? hx)
    rw [cond_false, cond_false, e, lat_nat, Int.toNat_natCast, hx, Option.bind_some, sends_law hp.gf, Option.bind_some]
    simp only
    obtain ⟨l1, l2⟩ := rangeF_emb (body := world_World_Again_B0 a.w (i : Int) (sndM x.from_.Base 0 x.from_.Late, 0)) (fun b : AW => (b.w, b.w.way)) (fun b _ (q : Parcel) => sendM b 1 (i : Int) (sq a.view) q.Seq q.Text) (fun _ b => Like a b ∧ GA B b) (l := sndM x.from_.Base 0 x.from_.Late) (fun j q b hq hb => by
      obtain ⟨hl, hg⟩ := hb
      unfold world_World_Again_B0
      simp only
      rw [lat_nat, hq, Option.bind_some, hl.w, seq_law, Option.bind_some, show b.w.view = a.view from hl.view, send_law hg.way.1, Option.bind_some]
      have hl2 := hl.send 1 (i : Int) (sq a.view) q.Seq q.Text
      exact ⟨by rw [hl2.w], hl2, hg.send (fun _ => hp.late.2 _ (sndM_mem (List.mem_of_getElem? hq))) (fun c => absurd c (by decide))⟩) (sndM x.from_.Base 0 x.from_.Late).length 0 a (by omega) ⟨⟨rfl, rfl, rfl⟩, h⟩
    rw [List.drop_zero] at l1 l2
    generalize hb : foldI (fun b _ (q : Parcel) => sendM b 1 (i : Int) (sq a.view) q.Seq q.Text) 0 (sndM x.from_.Base 0 x.from_.Late) a = b at l1 l2
    have l1' : rangeF (world_World_Again_B0 a.w (i : Int) (sndM x.from_.Base 0 x.from_.Late, 0)) (sndM x.from_.Base 0 x.from_.Late).length 0 (a.w, a.w.way) = some (b.w, b.w.way) := l1
    obtain ⟨hl, hg⟩ := l2
    rw [l1', Option.bind_some]
    simp only
    have hlw : ({ b.w with all := a.ps, ordered := a.w.ordered, way := b.w.way } : Wld) = b.w := hl.w
    rw [hlw, seq_law, Option.bind_some, show b.w.view = a.view from hl.view, Option.bind_some, send_law hg.way.1, Option.bind_some]
    have hl2 := hl.send 3 (i : Int) (sq a.view) x.to.Next []
    have hlw2 : ({ (sendM b 3 (i : Int) (sq a.view) x.to.Next []).w with all := a.ps, ordered := a.w.ordered, way := (sendM b 3 (i : Int) (sq a.view) x.to.Next []).w.way } : Wld) = (sendM b 3 (i : Int) (sq a.view) x.to.Next []).w := hl2.w
    simp only
    rw [hlw2]
theorem GA.again {B : Nat} {a : AW} (h : GA B a) (p : Int) : GA B (againM a p).1 := by
  unfold againM
  cases hw : (who a p != 0) with
  | true => exact h
  | false =>
    obtain ⟨i, x, rfl, hx, ha⟩ := who_zero hw
    rw [cond_false, Int.toNat_natCast, hx]
    simp only
    have hp := h.ps x (List.mem_of_getElem? hx)
    refine GA.send (foldI_inv (GA B) _ 0 a (fun b j q hq hb => hb.send (fun _ => hp.late.2 _ (sndM_mem hq)) (fun c => absurd c (by decide))) h) (fun c => absurd c (by decide)) (fun c => absurd c (by decide))
end Go.Proofs.YtchmclllcdknjaaGreatDoor
