/-
  The levels of an order.
-/
import Derived.Test.YticifbmaapnfbaaPsPosetOrd
namespace Go.Proofs.Yticifbmaapnfbaa
open Enc

def lv (z : List Int) (i : Nat) : Int := (z[i]?).getD 0
theorem lv_get {z : List Int} {i : Nat} (h : i < z.length) : z[i]? = some (lv z i) := by simp [lv, h]
theorem lv_lat {z : List Int} {i : Nat} (h : i < z.length) : lat z (i : Int) = some (lv z i) := by rw [lat_nat, lv_get h]
theorem lv_set {z : List Int} {i j : Nat} {x : Int} (h : i < z.length) : lv (z.set i x) j = if j = i then x else lv z j := by
  unfold lv
  by_cases e : j = i
  · subst e; rw [if_pos rfl, List.getElem?_set_self h]; rfl
  · rw [if_neg e, List.getElem?_set_ne (Ne.symm e)]
theorem lv_rep {n i : Nat} : lv (List.replicate n 0) i = 0 := by
  unfold lv
  by_cases h : i < n <;> simp [h]
theorem lv_ext {z y : List Int} {n : Nat} (h1 : z.length = n) (h2 : y.length = n) (h : ∀ i, i < n → lv z i = lv y i) : z = y := by
  apply List.ext_getElem?
  intro i
  by_cases hi : i < n
  · rw [lv_get (by omega), lv_get (by omega), h i hi]
  · rw [List.getElem?_eq_none (by omega), List.getElem?_eq_none (by omega)]
/-- The level of one element is right. -/
def LevAt (l : List Pair) (z : List Int) (b : Nat) : Prop := 0 ≤ lv z b ∧ (∀ a, Reach l a b → lv z a + 1 ≤ lv z b) ∧ (lv z b = 0 ∨ ∃ a, Reach l a b ∧ lv z b = lv z a + 1)
structure IsLev (l : List Pair) (n : Nat) (z : List Int) : Prop where
  len : z.length = n
  at' : ∀ b, b < n → LevAt l z b ∧ lv z b ≤ n
section
variable {l : List Pair} {n : Nat}
/-! the program's -/
theorem prog_row (h : Ordr l n) {V : Vector (Vector Bool 20) 20} (hV : IsV l V) {z : List Int} {b j : Nat} (hz : z.length = n) (hb : b < n) (h0 : lv z b = 0) (hj : j ≤ n) (hlo : ∀ a, Reach l a b → 0 ≤ lv z a ∧ lv z a ≤ j) :
    Tot (rangeF (poset_Levels_B2 V (b : Int)) n 0 z) fun y => ∃ t : Int, y = z.set b t ∧ 0 ≤ t ∧ t ≤ j + 1 ∧ (∀ a, Reach l a b → lv z a + 1 ≤ t) ∧ (t = 0 ∨ ∃ a, Reach l a b ∧ t = lv z a + 1) := by
  have hn := h.n20
  refine Tot.rangeF (fun k y => ∃ t : Int, y = z.set b t ∧ 0 ≤ t ∧ t ≤ j + 1 ∧ (∀ a, a < k → Reach l a b → lv z a + 1 ≤ t) ∧ (t = 0 ∨ ∃ a, Reach l a b ∧ t = lv z a + 1)) ⟨0, ?_, by omega, by omega, fun a ha => by omega, .inl rfl⟩ ?_ ?_
  · refine lv_ext hz (by simp [hz]) fun i hi => ?_
    rw [lv_set (by omega)]
    split
    · rename_i e; rw [e, h0]
    · rfl
  · rintro k y _ hk ⟨t, rfl, t0, t1, t2, t3⟩
    have hk : k < n := by omega
    unfold poset_Levels_B2
    rw [vat_lt _ (show k < 20 by omega), Option.bind_some, hV.at (by omega) (by omega), Option.bind_some, Tot.ite_iff]
    refine ⟨fun q => ?_, fun q => ?_⟩
    · have q := rch_iff.1 q
      have hkb : k ≠ b := fun e => h.irr b (e ▸ q)
      have hl := hlo k q
      rw [lv_lat (by simp; omega), lv_set (by omega), if_pos rfl, Option.bind_some, lv_lat (by simp; omega), lv_set (by omega), if_neg hkb, Option.bind_some, Option.bind_some, Tot.let_iff, Tot.some_iff, w64_id (by omega) (by omega), Int.toNat_natCast, List.set_set]
      refine ⟨_, rfl, by omega, by omega, fun a ha hr => ?_, ?_⟩
      · by_cases e : a = k
        · subst e; omega
        · have := t2 a (by omega) hr; omega
      · rcases Int.le_total t (lv z k + 1) with e | e
        · rw [Int.max_eq_right e]; exact .inr ⟨k, q, rfl⟩
        · rw [Int.max_eq_left e]; exact t3
    · rw [Tot.some_iff]
      refine ⟨t, rfl, t0, t1, fun a ha hr => ?_, t3⟩
      by_cases e : a = k
      · subst e; exact absurd hr (rch_false.1 q)
      · exact t2 a (by omega) hr
  · rintro y ⟨t, rfl, t0, t1, t2, t3⟩
    rw [Nat.zero_add] at t2
    exact ⟨t, rfl, t0, t1, fun a hr => t2 a (hr.lt h.inr).1 hr, t3⟩
theorem prog_levels (h : Ordr l n) {V : Vector (Vector Bool 20) 20} (hV : IsV l V) {p : Poset} (hp : p.N = (n : Int)) {e : Int} :
    Tot (rangeF (poset_Levels_B0 p (ordF l n n, e) V) (ordF l n n).length 0 (List.replicate n 0)) (IsLev l n) := by
  have hn := h.n20
  obtain ⟨hO, hlen⟩ := ordF_law h n (Nat.le_refl _)
  rw [hlen]
  have ezero : ∀ i : Nat, i < n → lv (List.replicate n 0) i = 0 := fun i _ => lv_rep
  refine Tot.rangeF (fun j (z : List Int) => z.length = n ∧ (∀ b : Nat, b < n → (b : Int) ∈ (ordF l n n).take j → LevAt l z b ∧ lv z b ≤ j) ∧ ∀ b : Nat, b < n → (b : Int) ∉ (ordF l n n).take j → lv z b = 0) ⟨by simp, fun b _ hm => by simp at hm, fun b hb _ => ezero b hb⟩ ?_ ?_
  · rintro j z _ hj ⟨h1, h2, h3⟩
    have hj : j < n := by omega
    have hjl : j < (ordF l n n).length := by omega
    obtain ⟨b, hb1, hb2⟩ := hO.inn _ (List.getElem_mem hjl)
    have hget : (ordF l n n)[j]? = some (b : Int) := by rw [List.getElem?_eq_getElem hjl, hb1]
    have hpre := hO.pre j b hget
    have htake : (ordF l n n).take (j + 1) = (ordF l n n).take j ++ [(b : Int)] := by rw [List.take_add_one, hget]; rfl
    have hbn : (b : Int) ∉ (ordF l n n).take j := by
      intro hm
      have hnd := hO.nd
      have hsub : ((ordF l n n).take (j + 1)).Nodup := List.Nodup.sublist (List.take_sublist _ _) hnd
      rw [htake] at hsub
      unfold List.Nodup at hsub
      rw [List.pairwise_append] at hsub
      exact hsub.2.2 _ hm _ (by simp) rfl
    unfold poset_Levels_B0
    rw [lat_nat, hget, Option.bind_some, hp, upTo_ok (by omega), Int.toNat_natCast, Option.bind_some, Tot.bind_iff]
    refine (prog_row h hV h1 hb2 (h3 b hb2 hbn) (j := j) (by omega) fun a ha => ?_).mono ?_
    · have hal := (ha.lt h.inr).1
      obtain ⟨k1, k2⟩ := h2 a hal (hpre a ha)
      exact ⟨k1.1, k2⟩
    · rintro _ ⟨t, rfl, t0, t1, t2, t3⟩
      rw [Tot.some_iff]
      have hne : ∀ a, Reach l a b → a ≠ b := fun a ha e => h.irr b (e ▸ ha)
      refine ⟨by simp [h1], fun i hi hm => ?_, fun i hi hm => ?_⟩
      · rw [htake, List.mem_append] at hm
        by_cases e : i = b
        · subst e
          refine ⟨⟨by rw [lv_set (by omega), if_pos rfl]; exact t0, fun a ha => ?_, ?_⟩, by rw [lv_set (by omega), if_pos rfl]; omega⟩
          · rw [lv_set (by omega), if_neg (hne a ha), lv_set (by omega), if_pos rfl]
            exact t2 a ha
          · rw [lv_set (by omega), if_pos rfl]
            refine t3.imp id fun ⟨a, ha, e⟩ => ⟨a, ha, ?_⟩
            rw [lv_set (by omega), if_neg (hne a ha)]; exact e
        · have hm' : (i : Int) ∈ (ordF l n n).take j := hm.resolve_right (by simp; omega)
          obtain ⟨⟨k1, k2, k3⟩, k4⟩ := h2 i hi hm'
          -- what is ahead of i is there before b
          have hab : ∀ a, Reach l a i → a ≠ b := by
            rintro a ha rfl
            obtain ⟨q, hq⟩ := List.getElem?_of_mem hm'
            have hqj : q < j := by
              have := (List.getElem?_eq_some_iff.1 hq).1
              simp at this; omega
            rw [List.getElem?_take, if_pos hqj] at hq
            have := hO.pre q i hq a ha
            exact hbn (List.take_subset_take_left _ (by omega) this)
          refine ⟨⟨by rw [lv_set (by omega), if_neg e]; exact k1, fun a ha => ?_, ?_⟩, by rw [lv_set (by omega), if_neg e]; omega⟩
          · rw [lv_set (by omega), if_neg (hab a ha), lv_set (by omega), if_neg e]
            exact k2 a ha
          · rw [lv_set (by omega), if_neg e]
            refine k3.imp id fun ⟨a, ha, e⟩ => ⟨a, ha, ?_⟩
            rw [lv_set (by omega), if_neg (hab a ha)]; exact e
      · rw [htake, List.mem_append, not_or] at hm
        have e : i ≠ b := fun e => hm.2 (by simp [e])
        rw [lv_set (by omega), if_neg e]
        exact h3 i hi hm.1
  · rintro z ⟨h1, h2, h3⟩
    rw [Nat.zero_add] at h2
    refine ⟨h1, fun b hb => h2 b hb ?_⟩
    rw [List.take_of_length_le (by omega)]
    refine Classical.byContradiction fun hm => ?_
    have hnd : ((b : Int) :: ordF l n n).Nodup := List.nodup_cons.2 ⟨hm, hO.nd⟩
    have := List.Nodup.length_le_of_subset hnd (l₂ := idn n) fun x hx => by
      rcases List.mem_cons.1 hx with rfl | hx
      · exact mem_idn.2 ⟨b, rfl, hb⟩
      · exact mem_idn.2 (hO.inn x hx)
    rw [idn_len, List.length_cons] at this
    omega
/-! the reference's -/
theorem ref_levels (h : Ordr l n) {M : List (List Bool)} (hM : IsClosure l n M) {p : Poset} (hp : p.N = (n : Int)) {L : List Int} (hL : IsLev l n L) :
    rangeF (partref_Levels_B0 p M) n 0 (List.replicate n 0) = some L := by
  have hn := h.n20
  have eu : upTo p.N = some n := by rw [hp, upTo_ok (by omega)]; rfl
  refine Tot.eq ?_
  refine Tot.rangeF (fun k (z : List Int) => z.length = n ∧ ∀ b, b < n → 0 ≤ lv z b ∧ lv z b ≤ lv L b ∧ (lv L b ≤ k → lv z b = lv L b)) ⟨by simp, fun b hb => ?_⟩ ?_ ?_
  · obtain ⟨⟨k1, _, _⟩, _⟩ := hL.at' b hb
    rw [lv_rep]
    exact ⟨by omega, k1, fun q => by omega⟩
  · rintro k z0 _ _ ⟨h1, h2⟩
    unfold partref_Levels_B0
    rw [eu, Option.bind_some, Tot.bind_iff]
    refine Tot.rangeF (fun a' (z : List Int) => z.length = n ∧ (∀ b, b < n → lv z0 b ≤ lv z b ∧ lv z b ≤ lv L b) ∧ ∀ a b, a < a' → b < n → Reach l a b → lv z0 a + 1 ≤ lv z b) ⟨h1, fun b hb => ⟨Int.le_refl _, (h2 b hb).2.1⟩, fun a b ha => by omega⟩ ?_ ?_
    · rintro a' z _ ha' ⟨g1, g2, g3⟩
      have ha' : a' < n := by omega
      unfold partref_Levels_B2
      rw [eu, Option.bind_some, Tot.bind_iff]
      refine Tot.rangeF (fun b' (z : List Int) => z.length = n ∧ (∀ b, b < n → lv z0 b ≤ lv z b ∧ lv z b ≤ lv L b) ∧ (∀ a b, a < a' → b < n → Reach l a b → lv z0 a + 1 ≤ lv z b) ∧ ∀ b, b < b' → b < n → Reach l a' b → lv z0 a' + 1 ≤ lv z b) ⟨g1, g2, g3, fun b hb => by omega⟩ ?_ ?_
      · rintro b' z _ hb' ⟨f1, f2, f3, f4⟩
        have hb' : b' < n := by omega
        unfold partref_Levels_B4
        rw [mm1 hM ha', Option.bind_some, mm2 hM ha' hb', Option.bind_some, Tot.ite_iff]
        refine ⟨fun q => ?_, fun q => ?_⟩
        · have q := rch_iff.1 q
          have q1 := (hL.at' b' hb').1.2.1 a' q
          have q2 := (hL.at' b' hb').2
          have q3 := f2 a' ha'
          have q4 := f2 b' hb'
          have q5 := (h2 a' ha').1
          have q6 := (hL.at' a' ha').1.1
          rw [lv_lat (by omega), lv_lat (by omega), Option.bind_some, Option.bind_some, Option.bind_some, Tot.let_iff, Tot.some_iff, w64_id (by omega) (by omega), Int.toNat_natCast]
          have st : ∀ b, lv z b ≤ lv (z.set b' (max (lv z b') (lv z a' + 1))) b := fun b => by
            rw [lv_set (by omega)]
            split
            · rename_i e; rw [e]; omega
            · exact Int.le_refl _
          refine ⟨by simp [f1], fun b hb => ⟨Int.le_trans (f2 b hb).1 (st b), ?_⟩, fun a b ha hb hr => Int.le_trans (f3 a b ha hb hr) (st b), fun b hb hbn hr => ?_⟩
          · rw [lv_set (by omega)]
            split
            · rename_i e; rw [e]; omega
            · exact (f2 b hb).2
          · by_cases e : b = b'
            · subst e
              rw [lv_set (by omega), if_pos rfl]; omega
            · exact Int.le_trans (f4 b (by omega) hbn hr) (st b)
        · rw [Tot.some_iff]
          refine ⟨f1, f2, f3, fun b hb hbn hr => ?_⟩
          by_cases e : b = b'
          · subst e; exact absurd hr (rch_false.1 q)
          · exact f4 b (by omega) hbn hr
      · rintro z ⟨f1, f2, f3, f4⟩
        rw [Tot.some_iff]
        rw [Nat.zero_add] at f4
        refine ⟨f1, f2, fun a b ha hb hr => ?_⟩
        by_cases e : a = a'
        · subst e; exact f4 b hb hb hr
        · exact f3 a b (by omega) hb hr
    · rintro z ⟨g1, g2, g3⟩
      rw [Tot.some_iff]
      rw [Nat.zero_add] at g3
      refine ⟨g1, fun b hb => ⟨Int.le_trans (h2 b hb).1 (g2 b hb).1, (g2 b hb).2, fun hk => ?_⟩⟩
      have gb := g2 b hb
      have zb := h2 b hb
      by_cases e : lv L b ≤ k
      · have := zb.2.2 e; omega
      · rcases (hL.at' b hb).1.2.2 with q | ⟨a, ha, q⟩
        · omega
        · have hal := (ha.lt h.inr).1
          have := (h2 a hal).2.2 (by omega)
          have := g3 a b hal hb ha
          omega
  · rintro z ⟨h1, h2⟩
    refine lv_ext h1 hL.len fun b hb => ?_
    rw [Nat.zero_add] at h2
    exact (h2 b hb).2.2 (hL.at' b hb).2
/-! the lists -/
def grp (L : List Int) (j : Nat) (k : Int) : List Int := ((List.range j).filter fun i => decide (lv L i = k)).map fun i : Nat => (i : Int)
theorem grp_succ {L : List Int} {j : Nat} {k : Int} : grp L (j + 1) k = if lv L j = k then grp L j k ++ [(j : Int)] else grp L j k := by
  unfold grp
  rw [List.range_succ, List.filter_append, List.map_append]
  split
  · rename_i h; simp [h]
  · rename_i h; simp [h]
theorem grp_len {L : List Int} {j : Nat} {k : Int} : (grp L j k).length ≤ j := by
  unfold grp
  rw [List.length_map]
  exact Nat.le_trans (List.length_filter_le _ _) (by simp)
def grps (L : List Int) (j m : Nat) : List (List Int) := (List.range m).map fun k : Nat => grp L j k
theorem grps_len {L : List Int} {j m : Nat} : (grps L j m).length = m := by simp [grps]
theorem grps_get {L : List Int} {j m k : Nat} (h : k < m) : (grps L j m)[k]? = some (grp L j k) := by simp [grps, h]
theorem grps_more {L : List Int} {j m : Nat} (h : ∀ i, i < j → lv L i < m) : grps L j (m + 1) = grps L j m ++ [[]] := by
  unfold grps
  rw [List.range_succ, List.map_append]
  congr 1
  simp only [List.map_cons, List.map_nil, List.cons.injEq, and_true]
  unfold grp
  rw [List.map_eq_nil_iff, List.filter_eq_nil_iff]
  intro i hi
  have := h i (List.mem_range.1 hi)
  simp only [decide_eq_true_eq]; omega
theorem prog_groups (h : Ordr l n) {L : List Int} (hL : IsLev l n L) {fu : Nat} (hfu : 100 ≤ fu) : Tot (rangeF (poset_Levels_B4 fu L) L.length 0 []) fun o => ∃ m : Nat, o = grps L n m ∧ (∀ i, i < n → lv L i < m) ∧ (m = 0 ∨ ∃ i, i < n ∧ lv L i + 1 = m) := by
  have hn := h.n20
  have hlen := hL.len
  rw [hlen]
  refine Tot.rangeF (fun j o => ∃ m : Nat, o = grps L j m ∧ m ≤ 30 ∧ (∀ i, i < j → lv L i < m) ∧ (m = 0 ∨ ∃ i, i < j ∧ lv L i + 1 = m)) ⟨0, rfl, by omega, fun i hi => by omega, .inl rfl⟩ ?_ ?_
  · rintro j _ _ hj ⟨m, rfl, m0, m1, m2⟩
    have hj : j < n := by omega
    obtain ⟨⟨j1, _, _⟩, j2⟩ := hL.at' j hj
    obtain ⟨k, hk⟩ := int_nat j1
    unfold poset_Levels_B4
    rw [lv_lat (by omega), Option.bind_some, hk, Tot.andThen_iff]
    refine (Tot.whileM (fun o => ∃ q : Nat, o = grps L j q ∧ m ≤ q ∧ q ≤ 30 ∧ (q = m ∨ q ≤ k + 1)) (fun o => 30 - o.length) (Q := fun o => ∃ q : Nat, o = .inl (grps L j q) ∧ m ≤ q ∧ q ≤ 30 ∧ k < q ∧ (q = m ∨ q = k + 1)) ⟨m, rfl, Nat.le_refl _, m0, .inl rfl⟩ (by omega) ?_).mono ?_
    · rintro _ ⟨q, rfl, q1, q2, q3⟩
      unfold poset_Levels_B6
      rw [grps_len, Tot.ite_iff]
      refine ⟨fun c => ?_, fun c => ?_⟩
      · have c : q ≤ k := by simpa using c
        rw [room_ok (by rw [grps_len]; simp; omega), Option.bind_some, Tot.some_iff, ← grps_more fun i hi => by have := m1 i hi; omega]
        exact ⟨⟨q + 1, rfl, by omega, by omega, .inr (by omega)⟩, by simp only [grps_len]; omega⟩
      · have c : k < q := by simpa using c
        exact Tot.some_iff.2 ⟨q, rfl, q1, q2, c, q3.imp id fun w => by omega⟩
    · rintro _ ⟨q, rfl, q1, q2, q3, q4⟩
      show Tot (Option.bind _ _) _
      have hg := grp_len (L := L) (j := j) (k := (k : Int))
      rw [lat_nat, grps_get q3, Option.bind_some, room_ok (by simp; omega), Option.bind_some, Option.bind_some, Tot.let_iff, Tot.some_iff, Int.toNat_natCast]
      refine ⟨q, ?_, q2, fun i hi => ?_, ?_⟩
      · apply List.ext_getElem?
        intro w
        by_cases hw : w < q
        · rw [grps_get hw, grp_succ, hk]
          by_cases e : w = k
          · subst e
            rw [List.getElem?_set_self (by rw [grps_len]; exact hw), if_pos rfl]
          · rw [List.getElem?_set_ne (Ne.symm e), grps_get hw, if_neg (by omega)]
        · rw [List.getElem?_eq_none (by rw [List.length_set, grps_len]; omega), List.getElem?_eq_none (by rw [grps_len]; omega)]
      · by_cases e : i = j
        · subst e; omega
        · have := m1 i (by omega); omega
      · rcases q4 with rfl | rfl
        · exact m2.imp id fun ⟨i, i1, i2⟩ => ⟨i, by omega, i2⟩
        · exact .inr ⟨j, by omega, by omega⟩
  · rintro o ⟨m, rfl, m0, m1, m2⟩
    rw [Nat.zero_add] at m1 m2
    rw [Nat.zero_add]
    exact ⟨m, rfl, m1, m2⟩
theorem lev_down {L : List Int} (h : Ordr l n) (hL : IsLev l n L) {y : Nat} : ∀ (c b : Nat), b < n → lv L b = (y : Int) + c → ∃ i, i < n ∧ lv L i = y
  | 0, b, hb, e => ⟨b, hb, by simpa using e⟩
  | c + 1, b, hb, e => by
    rcases (hL.at' b hb).1.2.2 with q | ⟨a, ha, q⟩
    · omega
    · exact lev_down h hL c a (ha.lt h.inr).1 (by omega)
theorem has_level {L : List Int} (hL : IsLev l n L) {y : Int} : L.contains y = true ↔ ∃ i, i < n ∧ lv L i = y := by
  rw [List.contains_iff_mem]
  constructor
  · intro hm
    obtain ⟨i, hi⟩ := List.getElem?_of_mem hm
    have hil := (List.getElem?_eq_some_iff.1 hi).1
    rw [lv_get hil] at hi
    exact ⟨i, by rw [← hL.len]; exact hil, Option.some.inj hi⟩
  · rintro ⟨i, hi, rfl⟩
    exact List.mem_of_getElem? (lv_get (by rw [hL.len]; exact hi))
theorem ref_groups (h : Ordr l n) {L : List Int} (hL : IsLev l n L) {fu m : Nat} (hfu : 100 ≤ fu) (m1 : ∀ i, i < n → lv L i < m) (m2 : m = 0 ∨ ∃ i, i < n ∧ lv L i + 1 = m) :
    andThen (whileM (partref_Levels_B6 L) fu ((0 : Int), [])) (fun z => some z.2) = some (grps L n m) := by
  have hn := h.n20
  have hm : m ≤ 21 := by
    rcases m2 with rfl | ⟨i, hi, e⟩
    · omega
    · have := (hL.at' i hi).2; omega
  refine Tot.eq ?_
  rw [Tot.andThen_iff]
  refine (Tot.whileM (fun z : Int × List (List Int) => ∃ y : Nat, z = ((y : Int), grps L n y) ∧ y ≤ m) (fun z => m - z.2.length) (Q := fun o => ∃ y : Int, o = .inl (y, grps L n m)) ⟨0, rfl, by omega⟩ (by simp only; omega) ?_).mono ?_
  · rintro _ ⟨y, rfl, hy⟩
    unfold partref_Levels_B6
    rw [eq_slices_Contains_int_int, Option.bind_some, Tot.ite_iff]
    refine ⟨fun c => ?_, fun c => ?_⟩
    · obtain ⟨i, hi, e⟩ := (has_level hL).1 c
      have := m1 i hi
      rw [Tot.bind_iff, hL.len]
      refine Tot.rangeF (fun j g => g = grp L j y) rfl ?_ ?_
      · rintro j _ _ hj rfl
        have hj : j < n := by omega
        have hg := grp_len (L := L) (j := j) (k := (y : Int))
        unfold partref_Levels_B8
        rw [lv_lat (by rw [hL.len]; exact hj), Option.bind_some, Tot.ite_iff, grp_succ]
        refine ⟨fun q => ?_, fun q => ?_⟩
        · have q : lv L j = y := by simpa using q
          rw [room_ok (by simp; omega), Option.bind_some, if_pos q]; exact Tot.some_iff.2 rfl
        · have q : lv L j ≠ y := by simpa using q
          rw [if_neg q]; exact Tot.some_iff.2 rfl
      · rintro _ rfl
        rw [Nat.zero_add, room_ok (by rw [grps_len]; simp; omega), Option.bind_some, Tot.some_iff, w64_id (by omega) (by omega)]
        refine ⟨⟨y + 1, ?_, by omega⟩, ?_⟩
        · congr 1
          unfold grps
          rw [List.range_succ, List.map_append]; rfl
        · simp only [List.length_append, grps_len, List.length_singleton]; omega
    · rw [Tot.some_iff]
      have : y = m := by
        refine Classical.byContradiction fun hne => ?_
        rcases m2 with rfl | ⟨i, hi, e⟩
        · omega
        · obtain ⟨k, hk, e2⟩ := lev_down h hL (y := y) ((lv L i).toNat - y) i hi (by have := (hL.at' i hi).1.1; omega)
          rw [(has_level hL).2 ⟨k, hk, e2⟩] at c; cases c
      subst this
      exact ⟨_, rfl⟩
  · rintro _ ⟨y, rfl⟩
    exact Tot.some_iff.2 rfl
end
end Go.Proofs.Yticifbmaapnfbaa
