/-
  PosetSays: the plain law.
-/
import Derived.Test.YticifbmaapnfbaaPsPosetLev
namespace Go.Proofs.Yticifbmaapnfbaa
open Enc

theorem eq_rows (a b : List (List Int)) : slices_EqualFunc_int_int_int_int_int_int a b = some (decide (a = b)) := by
  unfold slices_EqualFunc_int_int_int_int_int_int
  refine equal_loop (fun x y => !decide (x = y)) (fun x y => rfl) fun j => ?_
  unfold slices_EqualFunc_int_int_int_int_int_int_B0
  simp only [eq_slices_Equal_int_int, Option.bind_some]
section
variable {l : List Pair} {n : Nat} {V : Vector (Vector Bool 20) 20}
noncomputable def betw (l : List Pair) (n a b : Nat) : Bool := (List.range n).any fun k => rch l a k && rch l k b
theorem prog_close (h : Ordr l n) (hV : IsV l V) : poset_order_all V (n : Int) = some (prs (rch l) n n) := by
  have hn := h.n20
  unfold poset_order_all poset_order_pairs_all_1
  rw [pairs_loop (f := rch l) hn (B2 := poset_order_pairs_all_1_B2 V) (B0 := poset_order_pairs_all_1_B0 V (n : Int)) (fun a b z ha hb hz => ?_) (fun a z => rfl)]
  · rfl
  · unfold poset_order_pairs_all_1_B2 poset_order_all_1
    rw [vat_lt _ (show a < 20 by omega), Option.bind_some, hV.at (by omega) (by omega), Option.bind_some, Option.bind_some, and_some, Option.bind_some, room_ok (by simp; omega), Option.bind_some]
    cases rch l a b <;> rfl
theorem cover1 (h : Ordr l n) (hV : IsV l V) {p : Poset} (hp : p.N = (n : Int)) {a b : Nat} (ha : a < n) (hb : b < n) : poset_Cover_1 (a : Int) (b : Int) p V = some (!betw l n a b) := by
  have hn := h.n20
  unfold poset_Cover_1
  rw [hp, upTo_ok (by omega), Option.bind_some, Int.toNat_natCast]
  rcases rangeM_look (body := poset_Cover_1_B0 (a : Int) (b : Int) V) n 0 (fun j _ hj => by
    have hj : j < n := by omega
    unfold poset_Cover_1_B0
    rw [vat_lt _ (show a < 20 by omega), Option.bind_some, hV.at (by omega) (by omega), Option.bind_some, vat_lt _ (show j < 20 by omega), Option.bind_some, hV.at (by omega) (by omega), Option.bind_some]
    cases rch l a j <;> cases rch l j b <;> simp) with ⟨h1, h2⟩ | ⟨m, t, _, hm, _, h4, h5⟩
  · rw [h1, andThen_inl]
    have : betw l n a b = false := by
      unfold betw
      rw [List.any_eq_false]
      intro j hj
      have hj := List.mem_range.1 hj
      have := h2 j (by omega) (by omega)
      unfold poset_Cover_1_B0 at this
      rw [vat_lt _ (show a < 20 by omega), Option.bind_some, hV.at (by omega) (by omega), Option.bind_some, vat_lt _ (show j < 20 by omega), Option.bind_some, hV.at (by omega) (by omega), Option.bind_some] at this
      revert this
      cases rch l a j <;> cases rch l j b <;> simp
    rw [this]; rfl
  · rw [h5, andThen_inr]
    have hm : m < n := by omega
    unfold poset_Cover_1_B0 at h4
    rw [vat_lt _ (show a < 20 by omega), Option.bind_some, hV.at (by omega) (by omega), Option.bind_some, vat_lt _ (show m < 20 by omega), Option.bind_some, hV.at (by omega) (by omega), Option.bind_some] at h4
    have ht : t = false ∧ rch l a m = true ∧ rch l m b = true := by
      revert h4
      cases rch l a m <;> cases rch l m b <;> simp
    have : betw l n a b = true := by
      unfold betw
      rw [List.any_eq_true]
      exact ⟨m, List.mem_range.2 hm, by rw [ht.2.1, ht.2.2]; rfl⟩
    rw [this, ht.1]; rfl
theorem prog_cover (h : Ordr l n) (hV : IsV l V) {p : Poset} (hp : p.N = (n : Int)) : poset_order_pairs_Cover_1 V (n : Int) p V = some (prs (fun a b => rch l a b && !betw l n a b) n n) := by
  have hn := h.n20
  unfold poset_order_pairs_Cover_1
  rw [pairs_loop (f := fun a b => rch l a b && !betw l n a b) hn (B2 := poset_order_pairs_Cover_1_B2 V p V) (B0 := poset_order_pairs_Cover_1_B0 V (n : Int) p V) (fun a b z ha hb hz => ?_) (fun a z => rfl)]
  unfold poset_order_pairs_Cover_1_B2
  rw [vat_lt _ (show a < 20 by omega), Option.bind_some, hV.at (by omega) (by omega), Option.bind_some, cover1 h hV hp ha hb, Option.bind_some, room_ok (by simp; omega), Option.bind_some]
  cases rch l a b <;> cases betw l n a b <;> rfl
theorem ref_between (_ : Ordr l n) {M : List (List Bool)} (hM : IsClosure l n M) {a b : Nat} (ha : a < n) (hb : b < n) : rangeF (partref_AllPairs_B4 M a b) n 0 false = some (betw l n a b) := by
  refine Tot.eq ?_
  refine Tot.rangeF (fun k (z : Bool) => z = ((List.range k).any fun k => rch l a k && rch l k b)) rfl ?_ (by rintro z rfl; rw [Nat.zero_add]; rfl)
  rintro k z _ hk rfl
  have hk : k < n := by omega
  unfold partref_AllPairs_B4
  rw [mm1 hM ha, Option.bind_some, mm2 hM ha hk, Option.bind_some, mm1 hM hk, Option.bind_some, mm2 hM hk hb, Option.bind_some, List.range_succ, List.any_append]
  generalize (List.range k).any _ = w
  simp only [List.any_cons, List.any_nil, Bool.or_false]
  cases w <;> cases rch l a k <;> cases rch l k b <;> exact Tot.some_iff.2 rfl
theorem ref_pairs (h : Ordr l n) {M : List (List Bool)} (hM : IsClosure l n M) {p : Poset} (hp : p.N = (n : Int)) {fu : Nat} (e : partref_Closure fu (n : Int) p.Pairs = some M) (c : Bool) : partref_AllPairs fu p c = some (prs (fun a b => rch l a b && !(c && betw l n a b)) n n) := by
  have hn := h.n20
  unfold partref_AllPairs
  rw [hp, e, Option.bind_some]
  have eu : upTo (n : Int) = some n := by rw [upTo_ok (by omega)]; rfl
  refine pairs_loop (f := fun a b => rch l a b && !(c && betw l n a b)) hn (B2 := partref_AllPairs_B2 p c M) (B0 := partref_AllPairs_B0 p c M) (fun a b z ha hb hz => ?_) (fun a z => by unfold partref_AllPairs_B0; rw [hp])
  unfold partref_AllPairs_B2
  rw [hp, eu, Option.bind_some, ref_between h hM ha hb, Option.bind_some, mm1 hM ha, Option.bind_some, mm2 hM ha hb, Option.bind_some, and_some, Option.bind_some, room_ok (by simp; omega), Option.bind_some]
  cases rch l a b <;> cases c <;> cases betw l n a b <;> rfl
theorem prog_order (h : Ordr l n) (hV : IsV l V) {p : Poset} (hp : p.N = (n : Int)) {fu : Nat} (hfu : 30 ≤ fu) {e : Int} : whileM (poset_Order_B0 p (V, e)) fu [] = some (.inl (ordF l n n)) := by
  have hn := h.n20
  have eu : upTo (n : Int) = some n := by rw [upTo_ok (by omega)]; rfl
  refine order_loop h hfu (B2 := poset_Order_B2 p (V, e)) (fun i z hi hz => ?_) (fun z => by unfold poset_Order_B0; rw [hp])
  unfold poset_Order_B2
  rw [eq_slices_Contains_int_int, Option.bind_some, hp, eu, Option.bind_some, ready_loop (l := l) (i := i) (z := z) (fun k b hk => ?_)]
  · rw [Option.bind_some, room_ok (by simp; omega), Option.bind_some]
    cases z.contains (i : Int) <;> cases rdy l n z i <;> rfl
  · unfold poset_Order_B4
    simp only
    rw [vat_lt _ (show k < 20 by omega), Option.bind_some, hV.at (by omega) (by omega), Option.bind_some, eq_slices_Contains_int_int, Option.bind_some]
    cases b <;> cases rch l k i <;> rfl
theorem ref_order (h : Ordr l n) {M : List (List Bool)} (hM : IsClosure l n M) {p : Poset} (hp : p.N = (n : Int)) {fu : Nat} (hfu : 30 ≤ fu) : whileM (partref_Order_B0 p M) fu [] = some (.inl (ordF l n n)) := by
  have hn := h.n20
  have eu : upTo (n : Int) = some n := by rw [upTo_ok (by omega)]; rfl
  refine order_loop h hfu (B2 := partref_Order_B2 p M) (fun i z hi hz => ?_) (fun z => by unfold partref_Order_B0; rw [hp])
  unfold partref_Order_B2
  rw [eq_slices_Contains_int_int, Option.bind_some, hp, eu, Option.bind_some, ready_loop (l := l) (i := i) (z := z) (fun k b hk => ?_)]
  · rw [Option.bind_some, room_ok (by simp; omega), Option.bind_some]
    cases (!z.contains (i : Int) && rdy l n z i) <;> rfl
  · unfold partref_Order_B4
    rw [mm1 hM hk, Option.bind_some, mm2 hM hk hi, Option.bind_some, eq_slices_Contains_int_int, Option.bind_some]
    cases b <;> cases rch l k i <;> rfl
end
theorem posetsays_law (x : Poset) (_ : Rng.ok x) : ∃ fu, partlaw_PosetSays fu x = some true := by
  refine ⟨1000, ?_⟩
  obtain ⟨c, e1, h1⟩ := posetErr_law (p := x) (fu := 1000) (by omega) (by omega)
  obtain ⟨V, c', e2, h2, h3⟩ := posetCheck_law (p := x)
  obtain rfl := posetCode_one h1 h2
  unfold partlaw_PosetSays
  by_cases h0 : c = 0
  · subst h0
    rcases h1 with ⟨_, h⟩ | ⟨n, hn, hN, ⟨h, _⟩ | ⟨hc, ⟨_, h⟩ | ⟨hirr, _⟩⟩⟩
    · cases h
    · exact absurd rfl h
    · cases h
    obtain ⟨_, hin⟩ := pairsCode_zero hc
    have hO : Ordr x.Pairs n := ⟨hn, hin, fun i hi => hirr ⟨i, hi⟩⟩
    have hV : IsV x.Pairs V := h3 rfl
    obtain ⟨M, eM, hM⟩ := closure_law (fu := 1000) hin (by omega) (by omega) (by omega)
    have eu : upTo (n : Int) = some n := by rw [upTo_ok (by omega)]; rfl
    have em : mkLen (n : Int) = some n := by unfold mkLen; rw [if_pos (by omega)]; rfl
    have f1 : poset_Close x = some (prs (rch x.Pairs) n n, 0) := by
      unfold poset_Close
      rw [e2, Option.bind_some]
      simp only [bne_self_eq_false, cond_false]
      rw [hN, prog_close hO hV]; rfl
    have f2 : poset_Cover x = some (prs (fun a b => rch x.Pairs a b && !betw x.Pairs n a b) n n, 0) := by
      unfold poset_Cover
      rw [e2, Option.bind_some]
      simp only [bne_self_eq_false, cond_false]
      rw [hN, prog_cover hO hV hN]; rfl
    have f3 : poset_Order 1000 x = some (ordF x.Pairs n n, 0) := by
      unfold poset_Order
      rw [e2, Option.bind_some]
      simp only [bne_self_eq_false, cond_false]
      rw [prog_order hO hV hN (by omega)]; rfl
    obtain ⟨W, eW, hW⟩ := closed_law hN hn hin
    obtain ⟨L, eL, hL⟩ := prog_levels hO (V := W) hW hN (e := 0)
    obtain ⟨G, eG, m, rfl, m1, m2⟩ := prog_groups hO hL (fu := 1000) (by omega)
    have f4 : poset_Levels 1000 x = some (grps L n m, 0) := by
      unfold poset_Levels
      rw [f3, Option.bind_some]
      simp only [bne_self_eq_false, cond_false]
      rw [eW, Option.bind_some, hN, em, Option.bind_some]
      rw [eL, Option.bind_some, eG]; rfl
    have f5 : poset_Check x = some 0 := by unfold poset_Check; rw [e2]; rfl
    have g1 := ref_pairs hO hM hN eM false
    have g2 := ref_pairs hO hM hN eM true
    have g3 : partref_Order 1000 x = some (ordF x.Pairs n n) := by
      unfold partref_Order
      rw [hN, eM, Option.bind_some, ref_order hO hM hN (by omega)]; rfl
    have g4 : partref_Levels 1000 x = some (grps L n m) := by
      unfold partref_Levels
      rw [hN, eM, Option.bind_some, em, Option.bind_some, eu, Option.bind_some, ref_levels hO hM hN hL, Option.bind_some]
      exact ref_groups hO hL (by omega) m1 m2
    simp only [Bool.false_and, Bool.not_false, Bool.and_true] at g1
    simp only [Bool.true_and] at g2
    rw [e1, f1, f2, f3, f4, f5]
    simp only [Option.bind_some, bne_self_eq_false, cond_false, g1, g2, g3, g4, eq_slices_Equal_api_Pair_api_Pair, eq_slices_Equal_int_int, eq_rows, decide_true, cond_true, beq_self_eq_true]
  · have hne : (c != 0) = true := by simpa using h0
    have f1 : poset_Close x = some ([], c) := by
      unfold poset_Close
      rw [e2, Option.bind_some]
      simp only [hne, cond_true]
    have f2 : poset_Cover x = some ([], c) := by
      unfold poset_Cover
      rw [e2, Option.bind_some]
      simp only [hne, cond_true]
    have f3 : poset_Order 1000 x = some ([], c) := by
      unfold poset_Order
      rw [e2, Option.bind_some]
      simp only [hne, cond_true]
    have f4 : poset_Levels 1000 x = some ([], c) := by
      unfold poset_Levels
      rw [f3, Option.bind_some]
      simp only [hne, cond_true]
    have f5 : poset_Check x = some c := by unfold poset_Check; rw [e2]; rfl
    rw [e1, f1, f2, f3, f4, f5]
    simp [hne]
end Go.Proofs.Yticifbmaapnfbaa
