/-
  Matchings: both sides come to the same one.
-/
import Derived.Test.YticifbmaapnfbaaPpMatchSearch
namespace Go.Proofs.Yticifbmaapnfbaa
open Enc

/-- Two loops without a way out, beside one another. -/
theorem rangeF_par {σ σ' : Type} {f : Nat → σ → Option σ} {g : Nat → σ' → Option σ'} (R : Nat → σ → σ' → Prop) : ∀ (k i : Nat) (s : σ) (t : σ'), R i s t →
    (∀ j s t, i ≤ j → j < i + k → R j s t → ∃ s' t', f j s = some s' ∧ g j t = some t' ∧ R (j + 1) s' t') → ∃ s' t', rangeF f k i s = some s' ∧ rangeF g k i t = some t' ∧ R (i + k) s' t'
  | 0, i, s, t, h, _ => ⟨s, t, rfl, rfl, h⟩
  | k + 1, i, s, t, h, hb => by
    obtain ⟨s', t', h1, h2, h3⟩ := hb i s t (Nat.le_refl _) (by omega) h
    obtain ⟨s2, t2, q1, q2, q3⟩ := rangeF_par R k (i + 1) s' t' h3 fun j s t a b c => hb j s t (by omega) (by omega) c
    refine ⟨s2, t2, ?_, ?_, by rw [show i + (k + 1) = i + 1 + k by omega]; exact q3⟩
    · unfold rangeF; rw [h1]; exact q1
    · unfold rangeF; rw [h2]; exact q2
theorem rep_eq {n fu : Nat} (hn : n ≤ 1000) (hf : n < fu) : slices_Repeat_int_int fu [(-1 : Int)] (n : Int) = some (List.replicate n (-1)) := by
  rcases Nat.eq_zero_or_pos n with rfl | h
  · obtain ⟨k, rfl⟩ : ∃ k, fu = k + 1 := ⟨fu - 1, by omega⟩
    rfl
  · exact eq_slices_Repeat_int_int h (by omega) hf
theorem mkLen_nat {n : Nat} (h : n ≤ 1000) : mkLen (n : Int) = some n := by
  refine Tot.eq ?_
  rw [Tot.mkLen_iff]
  exact ⟨by omega, by simp⟩
structure POk (m n : Nat) (l : List Pair) : Prop where
  hm : m ≤ 40
  hn : n ≤ 40
  len : l.length ≤ 600
  ok : ∀ x ∈ l, (0 ≤ x.A ∧ x.A < m) ∧ (0 ≤ x.B ∧ x.B < n)
def MayIs (m n : Nat) (l : List Pair) (may : List (List Bool)) : Prop := may.length = m ∧ ∀ a, a < m → ∃ row, may[a]? = some row ∧ LIs row n fun b => l.contains ⟨(a : Int), (b : Int)⟩
theorem grid_eq {m n : Nat} (hm : m ≤ 40) (hn : n ≤ 40) (r : List Int) : rangeF (match_most_B0 (n : Int) r) m 0 (⟨[], r, []⟩ : Graph) = some ⟨List.replicate m (List.replicate n false), r, []⟩ := by
  refine Tot.eq ?_
  refine Tot.rangeF (fun i z => z = (⟨List.replicate i (List.replicate n false), r, []⟩ : Graph)) rfl ?_ ?_
  · rintro i z _ hi rfl
    unfold match_most_B0
    have hr : room (List.replicate i (List.replicate n false)) [List.replicate n false] = some () := by unfold room; rw [if_pos]; simp; omega
    rw [mkLen_nat (by omega), Option.bind_some, hr, Option.bind_some, Tot.let_iff, Tot.some_iff, List.replicate_succ']
  · rintro z rfl; rw [Nat.zero_add]
theorem edges_eq {m n : Nat} {l : List Pair} (h : POk m n l) (r : List Int) (y : Graph) (g : Graph) : Tot (rangeF (match_most_B2 l r y) l.length 0 (g, List.replicate m (List.replicate n false))) fun z => MayIs m n l z.2 := by
  refine Tot.rangeF (fun i z => MayIs m n (l.take i) z.2) ⟨by simp, fun a ha => ⟨List.replicate n false, by simp [ha], LIs.rep.to fun b hb => by simp⟩⟩ ?_ ?_
  · rintro i ⟨g1, may⟩ _ hi ⟨h1, h2⟩
    simp only at h1 h2
    have hi : i < l.length := by omega
    have hx : l[i]? = some l[i] := by simp [hi]
    have hok := h.ok l[i] (List.mem_of_getElem? hx)
    generalize l[i] = x at hx hok
    obtain ⟨a, ha⟩ := int_nat hok.1.1
    obtain ⟨b, hb⟩ := int_nat hok.2.1
    have ham : a < m := by omega
    have hbn : b < n := by omega
    obtain ⟨row, q1, q2⟩ := h2 a ham
    unfold match_most_B2
    rw [lat_nat, hx, Option.bind_some, ha, hb, lat_nat, q1, Option.bind_some, q2.lat hbn, Option.bind_some, Tot.let_iff, Tot.some_iff, Int.toNat_natCast, Int.toNat_natCast]
    refine ⟨by simpa using h1, fun c hc => ?_⟩
    simp only
    have hxe : x = ⟨(a : Int), (b : Int)⟩ := by cases x; simp only at ha hb; rw [ha, hb]
    by_cases e : c = a
    · subst e
      refine ⟨_, List.getElem?_set_self (by omega), (q2.set b true).to fun d hd => ?_⟩
      rw [List.take_add_one, hx, hxe]
      by_cases e : d = b
      · subst e; rw [upd_self]; simp
      · rw [upd_ne e]
        have : ¬ ((d : Int) = (b : Int)) := by omega
        simp [this]
    · obtain ⟨row', p1, p2⟩ := h2 c hc
      refine ⟨row', by rw [List.getElem?_set_ne (fun q => e q.symm)]; exact p1, p2.to fun d hd => ?_⟩
      rw [List.take_add_one, hx, hxe]
      have : ¬ ((c : Int) = (a : Int)) := by omega
      simp [this]
  · rintro z hz
    rwa [Nat.zero_add, List.take_length] at hz
theorem most_sim {m n fu : Nat} {l : List Pair} (h : POk m n l) (hfu : 100 < fu) : ∃ (g : Graph) (mate : List Int) (L M : Nat → Int), match_most fu (m : Int) (n : Int) l = some g ∧ partref_Most fu (m : Int) (n : Int) l = some mate ∧ LIs g.left n L ∧ LIs mate m M ∧ Coh n m L M (-1) ∧ MayIs m n l g.may := by
  have hm := h.hm
  have hn := h.hn
  unfold match_most partref_Most
  rw [rep_eq (by omega) (by omega), rep_eq (by omega) (by omega), Option.bind_some, Option.bind_some, upTo_nat (by omega), Option.bind_some, Option.bind_some]
  have hg := grid_eq hm hn (List.replicate n (-1))
  have hg' : rangeF (match_most_B0 (n : Int) (List.replicate n (-1))) m 0 ({ Graph.zero with may := ([] : List (List Bool)), left := List.replicate n (-1) } : Graph) = some ⟨List.replicate m (List.replicate n false), List.replicate n (-1), []⟩ := hg
  rw [hg', Option.bind_some]
  obtain ⟨⟨g1, may⟩, e1, e2⟩ := edges_eq h (List.replicate n (-1)) (⟨List.replicate m (List.replicate n false), List.replicate n (-1), []⟩ : Graph) (⟨List.replicate m (List.replicate n false), List.replicate n (-1), []⟩ : Graph)
  have e1' : rangeF (match_most_B2 l (List.replicate n (-1)) (⟨List.replicate m (List.replicate n false), List.replicate n (-1), []⟩ : Graph)) l.length 0 (({ (⟨List.replicate m (List.replicate n false), List.replicate n (-1), []⟩ : Graph) with left := List.replicate n (-1) } : Graph), (⟨List.replicate m (List.replicate n false), List.replicate n (-1), []⟩ : Graph).may) = some (g1, may) := e1
  rw [e1', Option.bind_some]
  simp only at e2
  simp only [Option.bind_some]
  obtain ⟨⟨g2, left⟩, mate, q1, q2, q3, L, M, q4, q5, q6, q7⟩ := rangeF_par (f := match_most_B4 fu (n : Int) may) (g := partref_Most_B0 fu (n : Int) l)
    (fun i (s : Graph × List Int) (t : List Int) => True ∧ ∃ L M, LIs s.2 n L ∧ LIs t m M ∧ Coh n m L M (-1) ∧ ∀ a, i ≤ a → a < m → M a = -1) m 0
    (({ g1 with may := may, left := List.replicate n (-1), seen := ([] : List Bool) } : Graph), List.replicate n (-1)) (List.replicate m (-1))
    ⟨trivial, fun _ => -1, fun _ => -1, LIs.rep, LIs.rep, ⟨fun b hb => by simp; omega, fun a ha => by simp; omega, fun b a hb ha _ => by omega⟩, fun _ _ _ => rfl⟩ (by
      rintro i ⟨g1, left⟩ mate _ hi ⟨_, L, M, h1, h2, h3, h4⟩
      simp only at h1
      have hi : i < m := by omega
      obtain ⟨left', seen', mate', ok, S', p1, p2, _, _, p5, p6⟩ := search_sim (n := n) (m := m) (l := l) (may := may) (by omega) e2.2 fu i left (List.replicate n false) mate L (fun _ => false) M hi h1 LIs.rep h2 h3 (by have := uns_le (fun _ => false) n; omega) (.inl (h4 i (by omega) hi))
      have p1' : match_graph_search fu ({ g1 with may := may, left := left, seen := List.replicate n false } : Graph) (i : Int) = some (left', seen', ⟨may, left', seen'⟩, ok) := p1
      unfold match_most_B4 partref_Most_B0
      rw [mkLen_nat (by omega), Option.bind_some, Option.bind_some, p1', Option.bind_some]
      simp only [Let, p2, Option.bind_some]
      refine ⟨_, _, rfl, rfl, trivial, ?_⟩
      cases ok
      · obtain ⟨rfl, rfl⟩ := p5 rfl
        exact ⟨L, M, h1, h2, h3, fun a ha ham => h4 a (by omega) ham⟩
      · obtain ⟨L', M', r1, r2, r3⟩ := p6 rfl
        have hc := r3.coh
        rw [h4 i (by omega) hi] at hc
        exact ⟨L', M', r1, r2, hc, fun a ha ham => by rw [r3.mkept a ham (by omega) (.inl (h4 a (by omega) ham))]; exact h4 a (by omega) ham⟩)
  rw [q1, q2]
  exact ⟨_, _, L, M, rfl, rfl, q4, q5, q6, e2⟩
end Go.Proofs.Yticifbmaapnfbaa
