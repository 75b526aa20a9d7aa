/-
  Quorums: least sets, by both ways.
-/
import Derived.Test.YtnljiedichjagaaQmLeast
namespace Go.Proofs.Ytnljiedichjagaa
open Enc

theorem within_eq (a b : BitVec 16) : quorum_within a b = some (subB a b) := by unfold quorum_within; rw [andnot_sub]
theorem contains_law (s : BitVec 16) (l : List (BitVec 16)) : quorum_contains s l = some (l.any fun t => subB t s) := by
  unfold quorum_contains slices_ContainsFunc_uint16_uint16_contains_1 slices_IndexFunc_uint16_uint16_contains_1
  rw [any_loop (fun t => subB t s) fun j x hx => by
    unfold slices_IndexFunc_uint16_uint16_contains_1_B0 quorum_contains_1
    rw [lat_nat, hx, Option.bind_some, within_eq, Option.bind_some, Option.bind_some, cond_some]]
  rfl
theorem least_ct (l : List (BitVec 16)) (s : BitVec 16) : slices_ContainsFunc_uint16_uint16_LeastSets_1 l s = some (l.any fun t => subB t s) := by
  unfold slices_ContainsFunc_uint16_uint16_LeastSets_1 slices_IndexFunc_uint16_uint16_LeastSets_1
  exact any_loop (fun t => subB t s) fun j x hx => by
    unfold slices_IndexFunc_uint16_uint16_LeastSets_1_B0 partref_LeastSets_1
    rw [lat_nat, hx, Option.bind_some, or_sub, Option.bind_some, cond_some]
theorem sort_law {fu n : Nat} {good : BitVec 16 → Bool} (hn : n ≤ 10) (hfu : 5000 < fu) : slices_SortFunc_uint16_uint16_quorum_compare fu ((nums (2 ^ n)).filter good) = some (inOrder n good) := by
  have hp : 2 ^ n ≤ 2 ^ 10 := Nat.pow_le_pow_right (by omega) hn
  have hl := filter_len (m := 2 ^ n) good
  refine Tot.eq ?_
  unfold slices_SortFunc_uint16_uint16_quorum_compare
  obtain ⟨k, ek, _⟩ := len_inst (n := ((nums (2 ^ n)).filter good).length) (by omega)
  rw [ek, Option.bind_some, Tot.bind_iff]
  refine (pdq_inst qlt_swo (by omega) (by omega)).mono ?_
  rintro r ⟨h1, h2⟩
  exact Tot.some_iff.2 (sorted_inOrder hn h1 h2)
theorem pick_law {r : List (BitVec 16)} (hr : r.length ≤ 2 ^ 20) {body : Nat → List (BitVec 16) → Option (List (BitVec 16))}
    (hbody : ∀ i z, body i z = (lat r (i : Int)).bind fun x24 => (quorum_contains x24 z).bind fun r27 => bif !r27 then ((room z ([x24] : List (BitVec 16))).bind fun _ => some (z ++ ([x24] : List (BitVec 16)))) else some z) :
    rangeF body r.length 0 [] = some (r.foldl gstep []) := by
  refine Tot.eq ?_
  refine Tot.rangeF (fun i z => z = (r.take i).foldl gstep []) rfl ?_ ?_
  · rintro i z _ hi rfl
    have hi : i < r.length := by omega
    have hg := gfold_len (r.take i) []
    have ht : (r.take i).length ≤ i := by rw [List.length_take]; omega
    have hs : (r.take (i + 1)).foldl gstep [] = gstep ((r.take i).foldl gstep []) r[i] := by
      rw [List.take_add_one, List.foldl_append, List.getElem?_eq_getElem hi]; rfl
    rw [hbody, lat_i hi, Option.bind_some, contains_law, Option.bind_some, hs]
    generalize (r.take i).foldl gstep [] = acc at *
    unfold gstep
    cases acc.any (fun t => subB t r[i]) with
    | true => exact Tot.some_iff.2 rfl
    | false =>
      rw [Bool.not_false, cond_true, room_ok (by simp at hg ⊢; omega), Option.bind_some, Tot.some_iff]; rfl
  · intro z hz
    rw [Nat.zero_add, List.take_length] at hz
    exact hz
/-- The least sets, in order. -/
def leastSets (n : Nat) (good : BitVec 16 → Bool) : List (BitVec 16) := (inOrder n good).foldl gstep []
theorem inOrder_len {n : Nat} {good : BitVec 16 → Bool} (hn : n ≤ 10) : ∀ k, ((List.range k).flatMap fun k => (nums (2 ^ n)).filter fun s => decide (pc s = k) && good s).length ≤ k * 1024
  | 0 => by simp
  | k + 1 => by
    have hp : 2 ^ n ≤ 2 ^ 10 := Nat.pow_le_pow_right (by omega) hn
    have := inOrder_len (good := good) hn k
    have := filter_len (m := 2 ^ n) fun s => decide (pc s = k) && good s
    rw [List.range_succ, List.flatMap_append, List.length_append]
    simp only [List.flatMap_cons, List.flatMap_nil, List.append_nil]
    omega
theorem ref_rounds {n fu : Nat} {good : BitVec 16 → Bool} (hn : n ≤ 10) (hfu : 2 ^ 17 < fu) {gd : BitVec 16 → Option Bool} (hgd : ∀ s, gd s = some (good s))
    {b2 : Nat → (BitVec 16) × (List (BitVec 16)) → Option (Ctl ((BitVec 16) × (List (BitVec 16))) (List (BitVec 16)))}
    (hb2 : ∀ k z13, b2 k z13 = bif decide ((z13.1.toNat : Int) < (((1 : BitVec 16) <<< n).toNat : Int)) then ((partref_size fu z13.1).bind fun r22 => bif r22 == (k : Int) then ((gd z13.1).bind fun r27 => bif r27 then ((slices_ContainsFunc_uint16_uint16_LeastSets_1 z13.2 z13.1).bind fun r32 => bif !r32 then ((room z13.2 ([z13.1] : List (BitVec 16))).bind fun _ => some (.go (z13.1 + (1 : BitVec 16), z13.2 ++ ([z13.1] : List (BitVec 16))))) else
      some (.go (z13.1 + (1 : BitVec 16), z13.2))) else some (.go (z13.1 + (1 : BitVec 16), z13.2))) else some (.go (z13.1 + (1 : BitVec 16), z13.2))) else some (.brk (z13.1, z13.2)))
    {b0 : Nat → List (BitVec 16) → Option (List (BitVec 16))} (hb0 : ∀ k z, b0 k z = andThen (whileM (b2 k) fu ((0 : BitVec 16), z)) fun (_, l16) => some l16) :
    rangeF b0 (n + 1) 0 [] = some (leastSets n good) := by
  refine Tot.eq ?_
  refine Tot.rangeF (fun k z => z = ((List.range k).flatMap fun k => (nums (2 ^ n)).filter fun s => decide (pc s = k) && good s).foldl gstep []) rfl ?_ ?_
  · rintro k z _ hk rfl
    have hl := inOrder_len (good := good) hn k
    have hg := gfold_len ((List.range k).flatMap fun k => (nums (2 ^ n)).filter fun s => decide (pc s = k) && good s) []
    rw [hb0, Tot.andThen_iff]
    refine (round_law (k := k) hn (by omega) (by rw [List.length_nil, Nat.zero_add] at hg; omega) hgd (fun s => size_law (by omega) s) (fun l s => least_ct l s) (hb2 k)).mono ?_
    rintro o ⟨s, rfl⟩
    refine Tot.some_iff.2 ?_
    rw [List.range_succ, List.flatMap_append, List.foldl_append]
    simp
  · rintro z rfl
    rw [Nat.zero_add]; rfl
end Go.Proofs.Ytnljiedichjagaa
