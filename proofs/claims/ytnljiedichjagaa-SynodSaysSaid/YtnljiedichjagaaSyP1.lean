/-
  The functions compute their specs; printed by a program.
-/
import Derived.Test.YtnljiedichjagaaSySp
import Derived.Test.YtnljiedichjagaaGoL
import Derived.Test.YtnljiedichjagaaGoK
import Derived.Test.YtnljiedichjagaaGoI
import Derived.Test.YtnljiedichjagaaGoU
import Derived.Test.YtnljiedichjagaaGoS
import Derived.Test.YtnljiedichjagaaGoR
import Derived.Test.YtnljiedichjagaaProg
namespace Go.Proofs.Ytnljiedichjagaa
open Go.RowKit Enc
set_option linter.unusedVariables false
set_option linter.unusedSimpArgs false
structure SynodR where
  v : Synod
  h0 : Sl
  h1 : Sl
instance : Enc SynodR := ⟨fun p => enc p.h0 ++ (enc p.h1), 2, fun p => by simp only [List.length_append, Enc.len]; rfl, fun p => by simp only [List.all_append, Enc.one, Bool.and_self]⟩
theorem SynodR.get_Voters {p : SynodR} {k : Nat} {ch : List Value} (h : Get (enc p.h0) k ch) : Get (enc p) (0 + k) ch := Get.off (Get.left h) (by omega)
theorem SynodR.put_Voters {p : SynodR} {k : Nat} {vs : List Value} {y : Sl} {l : List Voter} (h : Put (enc p.h0) k vs (enc y)) : Put (enc p) (0 + k) vs (enc ({ p with v := { p.v with Voters := l }, h0 := y } : SynodR)) := Put.off (cs' := enc ({ p with v := { p.v with Voters := l }, h0 := y } : SynodR)) (Put.left h) (by omega)
theorem SynodR.get_Rounds {p : SynodR} {k : Nat} {ch : List Value} (h : Get (enc p.h1) k ch) : Get (enc p) (1 + k) ch := Get.off (Get.right (m := 1) (Enc.len _) h) (by omega)
theorem SynodR.put_Rounds {p : SynodR} {k : Nat} {vs : List Value} {y : Sl} {l : List Round} (h : Put (enc p.h1) k vs (enc y)) : Put (enc p) (1 + k) vs (enc ({ p with v := { p.v with Rounds := l }, h1 := y } : SynodR)) := Put.off (cs' := enc ({ p with v := { p.v with Rounds := l }, h1 := y } : SynodR)) (Put.right (m := 1) (Enc.len _) h) (by omega)
def SynodR.rel (w0 : World) (F : Frz) (L : List Item) (x : SynodR) : Prop := Rd w0 F L x.h0 x.v.Voters ∧ Rd w0 F L x.h1 x.v.Rounds
theorem SynodR.mono {w0 : World} {F F' : Frz} {L L' : List Item} {x : SynodR} (h : SynodR.rel w0 F L x) (hF : FLe F F') (hL : L.Sublist L') : SynodR.rel w0 F' L' x :=
  let ⟨h0, h1⟩ := h
  ⟨h0.mono hF hL, h1.mono hF hL⟩
theorem All.monoSynod {w0 : World} {F F' : Frz} {L L' : List Item} {rs : List SynodR} (h : All SynodR.rel w0 F L rs) (hF : FLe F F') (hL : L.Sublist L') : All SynodR.rel w0 F' L' rs := fun x hx => SynodR.mono (h x hx) hF hL
set_option maxRecDepth 20000 in
theorem eq91 (x y : Round) : ∀ w, (Op.equal 91 (.agg (enc x).toArray) (.agg (enc y).toArray)).run Try.prog w = .ok (decide (x = y)) w :=
  EqT.top (d := 10000) Try.isAgg91 Try.sizeOf91 rfl rfl (EqT.struct Try.isAgg91 Try.sizeOf91 rfl Try.runUnderlying91 (by kernel_rfl) (fun x y w => by
  refine Eq.trans (eqField (p := x.Ballot) (q := y.Ballot) rfl (EqT.int Try.isAgg3 Try.runUnderlying3) rfl ((Round.get_Ballot (Get.here _)).off rfl) ((Round.get_Ballot (Get.here _)).off rfl) (eqField (p := x.Best) (q := y.Best) rfl (EqT.int Try.isAgg3 Try.runUnderlying3) rfl ((Round.get_Best (Get.here _)).off rfl) ((Round.get_Best (Get.here _)).off rfl) (eqField (p := x.Promised) (q := y.Promised) rfl (EqT.u8 Try.isAgg5 Try.runUnderlying5) rfl ((Round.get_Promised (Get.here _)).off rfl) ((Round.get_Promised (Get.here _)).off rfl) (eqField (p := x.Voted) (q := y.Voted) rfl (EqT.u8 Try.isAgg5 Try.runUnderlying5) rfl ((Round.get_Voted (Get.here _)).off rfl) ((Round.get_Voted (Get.here _)).off rfl) (eqField (p := x.Asked) (q := y.Asked) rfl (EqT.bool Try.isAgg4 Try.runUnderlying4) rfl ((Round.get_Asked (Get.here _)).off rfl) ((Round.get_Asked (Get.here _)).off rfl) (eqField (p := x.Text) (q := y.Text) rfl (EqT.str Try.isAgg9 Try.runUnderlying9) rfl ((Round.get_Text (Get.here _)).off rfl) ((Round.get_Text (Get.here _)).off rfl) (by rfl))))))) ?_
  congr 1
  rw [Bool.eq_iff_iff]; cases x; cases y; simp)) x y
set_option maxRecDepth 20000 in
theorem eq93 (x y : Voter) : ∀ w, (Op.equal 93 (.agg (enc x).toArray) (.agg (enc y).toArray)).run Try.prog w = .ok (decide (x = y)) w :=
  EqT.top (d := 10000) Try.isAgg93 Try.sizeOf93 rfl rfl (EqT.struct Try.isAgg93 Try.sizeOf93 rfl Try.runUnderlying93 (by kernel_rfl) (fun x y w => by
  refine Eq.trans (eqField (p := x.Promised) (q := y.Promised) rfl (EqT.int Try.isAgg3 Try.runUnderlying3) rfl ((Voter.get_Promised (Get.here _)).off rfl) ((Voter.get_Promised (Get.here _)).off rfl) (eqField (p := x.Voted) (q := y.Voted) rfl (EqT.int Try.isAgg3 Try.runUnderlying3) rfl ((Voter.get_Voted (Get.here _)).off rfl) ((Voter.get_Voted (Get.here _)).off rfl) (eqField (p := x.Text) (q := y.Text) rfl (EqT.str Try.isAgg9 Try.runUnderlying9) rfl ((Voter.get_Text (Get.here _)).off rfl) ((Voter.get_Text (Get.here _)).off rfl) (by rfl)))) ?_
  congr 1
  rw [Bool.eq_iff_iff]; cases x; cases y; simp)) x y
set_option maxRecDepth 20000 in
theorem partref_size_sim {fu : Nat} {a0 : BitVec 16} {r : Int} (H : partref_size fu a0 = some r) (w0 : World) (F : Frz) (M L : List Item) (hM : M.Sublist L) : Ok Try.prog w0 45 [.int .u16 a0.toNat] F (L) (Is (iv r) (L)) := by
 unfold partref_size at H
 refine Ok.enter (m := 1) (n := 14) Try.func45 rfl rfl rfl (by decide) ?_
 refine Cd.env (e' := [(0, .int .u16 a0.toNat)]) rfl ?_
 refine Cd.seq ?_
 refine Cd.region ?_
 refine Lst.r (Ev.assign rfl) ?_
 refine Lst.nil ?_
 refine At.then ?_
 refine Cd.seq ?_
 refine Cd.region ?_
 refine Lst.r (Ev.assign rfl) ?_
 refine Lst.nil ?_
 refine At.then ?_
 refine Cd.seq ?_
 refine Cd.block ?_
 obtain ⟨ol1, H, HKl1⟩ := andThen_some H
 refine Cd.loop (σ := Nat × (BitVec 16) × Int) (fun (k1, y2, y3) => [(0, .int .u16 y2.toNat), (3, iv y3)]) (fun (k1, y2, y3) => L) (fun _ => (fun (k1, y2, y3) => whileM (partref_size_B0) k1 (y2, y3) = some ol1)) (fun (k1, y2, y3) => k1) (fu, a0, (0 : Int)) ⟨rfl, rfl, trivial⟩ rfl H ?_
 rintro F4 ⟨k1, y2, y3⟩ hF5 H
 refine Cd.as (e' := [(0, .int .u16 y2.toNat), (3, iv y3)]) (L' := L) ⟨rfl, rfl, trivial⟩ rfl ?_
 rcases k1 with _ | k1
 ·cases H
 obtain ⟨c1, H, hgo1, hbrk1, hret1⟩ := whileM_go H
 unfold partref_size_B0 at H
 try dsimp only at H
 refine Cd.seq ?_
 refine Cd.seq ?_
 refine Cd.region ?_
 refine Lst.r (Ev.move rfl) ?_
 refine Lst.r (Ev.gtr rfl rfl) ?_
 refine Lst.nil ?_
 refine At.then ?_
 rcases (Bool.eq_false_or_eq_true (decide ((y2.toNat : Int) > ((0 : BitVec 16).toNat : Int)))).symm with hb6 | hb6
 ·replace H := ite_f hb6 H
  refine Cd.condF rfl hb6 ?_
  refine Cd.exit ?_
  refine At.then_exit ?_
  refine At.then_exit ?_
  refine At.in_exit ?_
  have H := hbrk1 _ (some_inj H).symm
  subst H
  replace H := HKl1
  refine At.then ?_
  refine Cd.seq ?_
  refine Cd.region ?_
  refine Lst.r (Ev.move rfl) ?_
  refine Lst.r (Ev.assign rfl) ?_
  refine Lst.nil ?_
  refine At.then ?_
  obtain rfl := some_inj H
  refine Cd.ret ?_
  exact At.ret1 rfl (Res.tmp rfl) hF5 (.refl _) ⟨rfl, rfl⟩
 replace H := ite_t hb6 H
 refine Cd.condT rfl hb6 ?_
 refine Cd.skip ?_
 refine At.then ?_
 refine Cd.seq ?_
 refine Cd.block ?_
 refine Cd.region ?_
 refine Lst.r (Ev.move rfl) ?_
 refine Lst.r (Ev.move rfl) ?_
 refine Lst.r (Ev.remU16 (i := y2) (j := (2 : BitVec 16)) rfl rfl (by decide)) ?_
 refine Lst.r (Ev.convIS (j := ((y2 % (2 : BitVec 16)).toNat : Int)) rfl Try.runUnderlying23 Try.runUnderlying3 (w64_id (by omega) (by omega))) ?_
 refine Lst.r (Ev.add rfl rfl) ?_
 refine Lst.r (Ev.assign rfl) ?_
 refine Lst.nil ?_
 refine At.in_normal ?_
 refine At.then ?_
 refine Cd.region ?_
 refine Lst.r (Ev.move rfl) ?_
 refine Lst.r (Ev.quoU16 (i := y2) (j := (2 : BitVec 16)) rfl rfl (by decide)) ?_
 refine Lst.r (Ev.assign rfl) ?_
 refine Lst.nil ?_
 exact At.meet (k1, y2 / (2 : BitVec 16), w64 (y3 + ((y2 % (2 : BitVec 16)).toNat : Int))) hF5 ⟨rfl, rfl, trivial⟩ rfl ⟨hgo1 _ (some_inj H).symm, Nat.lt_succ_self _⟩
set_option maxHeartbeats 2000000 in
set_option maxRecDepth 20000 in
theorem partref_SynodErr_sim {fu : Nat} {a0 : Synod} {s_a0_0 : Sl} {s_a0_1 : Sl} {r : Int} (H : partref_SynodErr fu a0 = some r) (w0 : World) (F : Frz) (M L : List Item) (hM : M.Sublist L) (hs_a0_0 : Rd w0 F M s_a0_0 a0.Voters) (hs_a0_1 : Rd w0 F M s_a0_1 a0.Rounds) : Ok Try.prog w0 22 [.agg (enc (SynodR.mk a0 s_a0_0 s_a0_1)).toArray] F (L) (Is (iv r) (L)) := by
 unfold partref_SynodErr at H
 refine Ok.enter (m := 1) (n := 207) Try.func22 rfl rfl rfl (by decide) ?_
 refine Cd.env (e' := [(0, .agg (enc (SynodR.mk a0 s_a0_0 s_a0_1)).toArray)]) rfl ?_
 refine Cd.seq ?_
 refine Cd.region ?_
 refine Lst.box rfl rfl (by decide) rfl (cs := enc (SynodR.mk a0 s_a0_0 s_a0_1)) rfl (fun b1 => ?_)
 refine Lst.r (Ev.assign rfl) ?_
 refine Lst.nil ?_
 refine At.then ?_
 refine Cd.seq ?_
 refine Cd.region ?_
 refine Lst.r (Ev.fieldAddr (off' := 0) rfl Try.runUnderlying44 rfl Try.sizeOf41 rfl rfl) ?_
 refine Lst.r (Ev.load (i := 0) rfl rfl Try.isAgg41 (v := Sl.v s_a0_0) ((SynodR.get_Voters (Get.here _)).off (by rfl))) ?_
 refine Lst.r (Ev.lenS (α := Voter) (xs := a0.Voters) (by decide) rfl rfl Try.runUnderlying41 (hs_a0_0.mono (FLe.refl _) (sc1 hM))) ?_
 refine Lst.r (Ev.assign rfl) ?_
 refine Lst.nil ?_
 refine At.then ?_
 refine Cd.seq ?_
 refine Cd.seq ?_
 refine Cd.region ?_
 refine Lst.r (Ev.move rfl) ?_
 refine Lst.r (Ev.lss rfl rfl) ?_
 refine Lst.r (Ev.move rfl) ?_
 obtain ⟨o3, H, HKo3⟩ := bind_some H
 refine Lst.join (σ := Bool) 3 (fun y4 => [(1, pv b1 0), (3, iv (a0.Voters.length : Int)), (25, .bool y4)]) (fun y4 => (.blk b1 (enc (SynodR.mk a0 s_a0_0 s_a0_1)) 44) :: L) (fun _ y4 => y4 = o3) ?_ ?_
 ·rcases Bool.eq_false_or_eq_true (decide ((a0.Voters.length : Int) < (1 : Int))) with hb5 | hb5
  ·replace H := ite_t hb5 H
   refine Lst.skip rfl rfl rfl hb5 rfl (by decide) ?_
   refine Lst.skip rfl rfl rfl hb5 rfl (by decide) ?_
   refine Lst.r (Ev.pickT rfl hb5 rfl) ?_
   refine Lst.nil ?_
   exact At.meet true (FLe.refl _) ⟨rfl, rfl, rfl, trivial⟩ rfl (some_inj H)
  replace H := ite_f hb5 H
  refine Lst.rG hb5 (Ev.move rfl) ?_
  refine Lst.rG hb5 (Ev.gtr rfl rfl) ?_
  refine Lst.r (Ev.pickF rfl hb5 rfl) ?_
  refine Lst.nil ?_
  exact At.meet (decide ((a0.Voters.length : Int) > (6 : Int))) (FLe.refl _) ⟨rfl, rfl, rfl, trivial⟩ rfl (some_inj H)
 rintro F6 y4 hF7 hy
 subst hy
 refine Lst.as (e' := [(1, pv b1 0), (3, iv (a0.Voters.length : Int)), (25, .bool y4)]) (L' := (.blk b1 (enc (SynodR.mk a0 s_a0_0 s_a0_1)) 44) :: L) ⟨rfl, rfl, rfl, trivial⟩ rfl ?_
 replace H := HKo3
 refine Lst.r (Ev.move rfl) ?_
 obtain ⟨o8, H, HKo8⟩ := bind_some H
 refine Lst.join (σ := Bool) 5 (fun y9 => [(1, pv b1 0), (3, iv (a0.Voters.length : Int)), (31, .bool y9)]) (fun y9 => (.blk b1 (enc (SynodR.mk a0 s_a0_0 s_a0_1)) 44) :: L) (fun _ y9 => y9 = o8) ?_ ?_
 ·rcases Bool.eq_false_or_eq_true y4 with hb10 | hb10
  ·replace H := ite_t hb10 H
   refine Lst.skip rfl rfl rfl hb10 rfl (by decide) ?_
   refine Lst.skip rfl rfl rfl hb10 rfl (by decide) ?_
   refine Lst.skip rfl rfl rfl hb10 rfl (by decide) ?_
   refine Lst.skip rfl rfl rfl hb10 rfl (by decide) ?_
   refine Lst.r (Ev.pickT rfl hb10 rfl) ?_
   refine Lst.nil ?_
   exact At.meet true (FLe.refl _) ⟨rfl, rfl, rfl, trivial⟩ rfl (some_inj H)
  replace H := ite_f hb10 H
  refine Lst.rG hb10 (Ev.fieldAddr (off' := 1) rfl Try.runUnderlying44 rfl Try.sizeOf42 rfl rfl) ?_
  refine Lst.rG hb10 (Ev.load (i := 0) rfl rfl Try.isAgg42 (v := Sl.v s_a0_1) ((SynodR.get_Rounds (Get.here _)).off (by rfl))) ?_
  refine Lst.rG hb10 (Ev.lenS (α := Round) (xs := a0.Rounds) (by decide) rfl rfl Try.runUnderlying42 (hs_a0_1.mono hF7 (sc1 hM))) ?_
  refine Lst.rG hb10 (Ev.gtr rfl rfl) ?_
  refine Lst.r (Ev.pickF rfl hb10 rfl) ?_
  refine Lst.nil ?_
  exact At.meet (decide ((a0.Rounds.length : Int) > (30 : Int))) (FLe.refl _) ⟨rfl, rfl, rfl, trivial⟩ rfl (some_inj H)
 rintro F11 y9 hF12 hy
 subst hy
 refine Lst.as (e' := [(1, pv b1 0), (3, iv (a0.Voters.length : Int)), (31, .bool y9)]) (L' := (.blk b1 (enc (SynodR.mk a0 s_a0_0 s_a0_1)) 44) :: L) ⟨rfl, rfl, rfl, trivial⟩ rfl ?_
 replace H := HKo8
 refine Lst.nil ?_
 refine At.then ?_
 rcases Bool.eq_false_or_eq_true y9 with hb13 | hb13
 ·replace H := ite_t hb13 H
  refine Cd.condT rfl hb13 ?_
  refine Cd.seq ?_
  refine Cd.region ?_
  refine Lst.r (Ev.assign rfl) ?_
  refine Lst.nil ?_
  refine At.then ?_
  obtain rfl := some_inj H
  refine Cd.ret ?_
  refine At.then_ret ?_
  exact At.ret1 rfl (Res.tmp rfl) (FLe.trans hF7 hF12) (sc1 (.refl _)) ⟨rfl, rfl⟩
 replace H := ite_f hb13 H
 refine Cd.condF rfl hb13 ?_
 refine Cd.skip ?_
 refine At.then ?_
 refine Cd.seq ?_
 refine Cd.seq ?_
 refine Cd.region ?_
 refine Lst.r (Ev.fieldAddr (off' := 1) rfl Try.runUnderlying44 rfl Try.sizeOf42 rfl rfl) ?_
 refine Lst.r (Ev.load (i := 0) rfl rfl Try.isAgg42 (v := Sl.v s_a0_1) ((SynodR.get_Rounds (Get.here _)).off (by rfl))) ?_
 refine Lst.r (Ev.lenS (α := Round) (xs := a0.Rounds) (by decide) rfl rfl Try.runUnderlying42 (hs_a0_1.mono (FLe.trans hF7 hF12) (sc1 hM))) ?_
 refine Lst.r (Ev.move rfl) ?_
 refine Lst.nil ?_
 refine At.then ?_
 refine Cd.block ?_
 refine Cd.bound (Rd.le (α := Round) (xs := a0.Rounds) (by decide) (hs_a0_1.mono (FLe.trans hF7 hF12) (sc1 hM))) (fun hN160 => ?_)
 obtain ⟨ol14, H, HKl14⟩ := andThen_some H
 refine Cd.loop (σ := Nat × Nat × Unit) (fun (i14, k14, _u) => [(1, pv b1 0), (3, iv (a0.Voters.length : Int)), (33, Sl.v s_a0_1), (34, iv (a0.Rounds.length : Int)), (35, iv (i14 : Int))]) (fun (i14, k14, _u) => (.blk b1 (enc (SynodR.mk a0 s_a0_0 s_a0_1)) 44) :: L) (fun _ => (fun (i14, k14, _u) => rangeM (partref_SynodErr_B0 fu a0) k14 i14 () = some ol14 ∧ i14 + k14 = a0.Rounds.length)) (fun (i14, k14, _u) => k14) (0, a0.Rounds.length, ()) ⟨rfl, rfl, rfl, rfl, rfl, trivial⟩ rfl ⟨H, by omega⟩ ?_
 rintro F15 ⟨i14, k14, _u⟩ hF16 ⟨H, hik14⟩
 refine Cd.as (e' := [(1, pv b1 0), (3, iv (a0.Voters.length : Int)), (33, Sl.v s_a0_1), (34, iv (a0.Rounds.length : Int)), (35, iv (i14 : Int))]) (L' := (.blk b1 (enc (SynodR.mk a0 s_a0_0 s_a0_1)) 44) :: L) ⟨rfl, rfl, rfl, rfl, rfl, trivial⟩ rfl ?_
 rcases k14 with _ | k14
 ·have hc14 : decide ((i14 : Int) < (a0.Rounds.length : Int)) = false := decide_eq_false (by omega)
  replace H := rangeM_end H
  refine Cd.seq ?_
  refine Cd.region ?_
  refine Lst.r (Ev.lss rfl rfl) ?_
  refine Lst.nil ?_
  refine At.then ?_
  refine Cd.seq ?_
  refine Cd.condF rfl hc14 ?_
  refine Cd.exit ?_
  refine At.then_exit ?_
  refine At.then_exit ?_
  refine At.in_exit ?_
  subst H
  replace H := HKl14
  refine At.then ?_
  refine Cd.seq ?_
  refine Cd.seq ?_
  refine Cd.region ?_
  refine Lst.r (Ev.fieldAddr (off' := 0) rfl Try.runUnderlying44 rfl Try.sizeOf41 rfl rfl) ?_
  refine Lst.r (Ev.load (i := 0) rfl rfl Try.isAgg41 (v := Sl.v s_a0_0) ((SynodR.get_Voters (Get.here _)).off (by rfl))) ?_
  refine Lst.r (Ev.lenS (α := Voter) (xs := a0.Voters) (by decide) rfl rfl Try.runUnderlying41 (hs_a0_0.mono (FLe.trans (FLe.trans hF7 hF12) hF16) (sc1 hM))) ?_
  refine Lst.r (Ev.move rfl) ?_
  refine Lst.nil ?_
  refine At.then ?_
  refine Cd.block ?_
  refine Cd.bound (Rd.le (α := Voter) (xs := a0.Voters) (by decide) (hs_a0_0.mono (FLe.trans (FLe.trans hF7 hF12) hF16) (sc1 hM))) (fun hN159 => ?_)
  obtain ⟨ol84, H, HKl84⟩ := andThen_some H
  refine Cd.loop (σ := Nat × Nat × Unit) (fun (i84, k84, _u) => [(1, pv b1 0), (118, Sl.v s_a0_0), (119, iv (a0.Voters.length : Int)), (120, iv (i84 : Int))]) (fun (i84, k84, _u) => (.blk b1 (enc (SynodR.mk a0 s_a0_0 s_a0_1)) 44) :: L) (fun _ => (fun (i84, k84, _u) => rangeM (partref_SynodErr_B4 a0) k84 i84 () = some ol84 ∧ i84 + k84 = a0.Voters.length)) (fun (i84, k84, _u) => k84) (0, a0.Voters.length, ()) ⟨rfl, rfl, rfl, rfl, trivial⟩ rfl ⟨H, by omega⟩ ?_
  rintro F85 ⟨i84, k84, _u⟩ hF86 ⟨H, hik84⟩
  refine Cd.as (e' := [(1, pv b1 0), (118, Sl.v s_a0_0), (119, iv (a0.Voters.length : Int)), (120, iv (i84 : Int))]) (L' := (.blk b1 (enc (SynodR.mk a0 s_a0_0 s_a0_1)) 44) :: L) ⟨rfl, rfl, rfl, rfl, trivial⟩ rfl ?_
  rcases k84 with _ | k84
  ·have hc84 : decide ((i84 : Int) < (a0.Voters.length : Int)) = false := decide_eq_false (by omega)
   replace H := rangeM_end H
   refine Cd.seq ?_
   refine Cd.region ?_
   refine Lst.r (Ev.lss rfl rfl) ?_
   refine Lst.nil ?_
   refine At.then ?_
   refine Cd.seq ?_
   refine Cd.condF rfl hc84 ?_
   refine Cd.exit ?_
   refine At.then_exit ?_
   refine At.then_exit ?_
   refine At.in_exit ?_
   subst H
   replace H := HKl84
   refine At.then ?_
   refine Cd.seq ?_
   refine Cd.region ?_
   refine Lst.r (Ev.assign rfl) ?_
   refine Lst.nil ?_
   refine At.then ?_
   obtain rfl := some_inj H
   refine Cd.ret ?_
   exact At.ret1 rfl (Res.tmp rfl) (FLe.trans (FLe.trans (FLe.trans hF7 hF12) hF16) hF86) (sc1 (.refl _)) ⟨rfl, rfl⟩
  have hc84 : decide ((i84 : Int) < (a0.Voters.length : Int)) = true := decide_eq_true (by omega)
  obtain ⟨c84, H, hgo84, hbrk84, hret84⟩ := rangeM_go H
  unfold partref_SynodErr_B4 at H
  try dsimp only at H
  refine Cd.seq ?_
  refine Cd.region ?_
  refine Lst.r (Ev.lss rfl rfl) ?_
  refine Lst.nil ?_
  refine At.then ?_
  refine Cd.seq ?_
  refine Cd.condT rfl hc84 ?_
  refine Cd.skip ?_
  refine At.then ?_
  refine Cd.seq ?_
  refine Cd.block ?_
  refine Cd.seq ?_
  refine Cd.region ?_
  refine Lst.r (Ev.move rfl) ?_
  obtain ⟨x87, h88, H⟩ := bind_some H
  have g89 := lat_some h88
  refine Lst.r (Ev.indexS (α := Voter) (xs := a0.Voters) rfl rfl Try.runUnderlying41 Try.sizeOf93 rfl (by decide) (hs_a0_0.mono (FLe.trans (FLe.trans (FLe.trans hF7 hF12) hF16) hF86) (sc1 hM)) g89.1 g89.2.1) ?_
  refine Lst.r (Ev.loadSA (α := Voter) rfl (hs_a0_0.mono (FLe.trans (FLe.trans (FLe.trans hF7 hF12) hF16) hF86) (sc1 hM)) Try.isAgg93 Try.sizeOf93 (ch := enc x87) (Enc.len _) (by decide) ((Get.elemN (s := 3) (x := x87) rfl g89.2.2 (Get.here _)).off (by omega))) ?_
  refine Lst.alloc (cs := enc Voter.zero) rfl rfl (by decide) Try.zeroValue93 rfl (fun b90 => ?_)
  refine Lst.r (Ev.assign rfl) ?_
  refine Lst.store (i := 0) rfl rfl rfl rfl rfl Try.sizeOf93 (vs := enc x87) rfl (Enc.len _) (Enc.one _) (cs' := enc x87) (Put.here ((Enc.len _).trans (Enc.len _).symm)) (L' := (.blk b90 (enc x87) 93) :: (.blk b1 (enc (SynodR.mk a0 s_a0_0 s_a0_1)) 44) :: L) rfl ?_
  refine Lst.nil ?_
  refine At.then ?_
  refine Cd.seq ?_
  refine Cd.seq ?_
  refine Cd.region ?_
  refine Lst.r (Ev.fieldAddr (off' := 0) rfl Try.runUnderlying93 rfl Try.sizeOf3 rfl rfl) ?_
  refine Lst.r (Ev.load (i := 0) rfl rfl Try.isAgg3 (v := iv x87.Promised) ((Voter.get_Promised (Get.here _)).off (by rfl))) ?_
  refine Lst.r (Ev.lss rfl rfl) ?_
  refine Lst.r (Ev.move rfl) ?_
  obtain ⟨o92, H, HKo92⟩ := bind_some H
  refine Lst.join (σ := Bool) 4 (fun y93 => [(1, pv b1 0), (9, iv (i84 : Int)), (10, pv b90 0), (118, Sl.v s_a0_0), (119, iv (a0.Voters.length : Int)), (120, iv (i84 : Int)), (132, .bool y93)]) (fun y93 => (.blk b90 (enc x87) 93) :: (.blk b1 (enc (SynodR.mk a0 s_a0_0 s_a0_1)) 44) :: L) (fun _ y93 => y93 = o92) ?_ ?_
  ·rcases Bool.eq_false_or_eq_true (decide (x87.Promised < (0 : Int))) with hb94 | hb94
   ·replace H := ite_t hb94 H
    refine Lst.skip rfl rfl rfl hb94 rfl (by decide) ?_
    refine Lst.skip rfl rfl rfl hb94 rfl (by decide) ?_
    refine Lst.skip rfl rfl rfl hb94 rfl (by decide) ?_
    refine Lst.r (Ev.pickT rfl hb94 rfl) ?_
    refine Lst.nil ?_
    exact At.meet true (FLe.refl _) ⟨rfl, rfl, rfl, rfl, rfl, rfl, rfl, trivial⟩ rfl (some_inj H)
   replace H := ite_f hb94 H
   refine Lst.rG hb94 (Ev.fieldAddr (off' := 1) rfl Try.runUnderlying93 rfl Try.sizeOf3 rfl rfl) ?_
   refine Lst.rG hb94 (Ev.load (i := 0) rfl rfl Try.isAgg3 (v := iv x87.Voted) ((Voter.get_Voted (Get.here _)).off (by rfl))) ?_
   refine Lst.rG hb94 (Ev.lss rfl rfl) ?_
   refine Lst.r (Ev.pickF rfl hb94 rfl) ?_
   refine Lst.nil ?_
   exact At.meet (decide (x87.Voted < (0 : Int))) (FLe.refl _) ⟨rfl, rfl, rfl, rfl, rfl, rfl, rfl, trivial⟩ rfl (some_inj H)
  rintro F95 y93 hF96 hy
  subst hy
  refine Lst.as (e' := [(1, pv b1 0), (9, iv (i84 : Int)), (10, pv b90 0), (118, Sl.v s_a0_0), (119, iv (a0.Voters.length : Int)), (120, iv (i84 : Int)), (132, .bool y93)]) (L' := (.blk b90 (enc x87) 93) :: (.blk b1 (enc (SynodR.mk a0 s_a0_0 s_a0_1)) 44) :: L) ⟨rfl, rfl, rfl, rfl, rfl, rfl, rfl, trivial⟩ rfl ?_
  replace H := HKo92
  refine Lst.r (Ev.move rfl) ?_
  obtain ⟨o97, H, HKo97⟩ := bind_some H
  refine Lst.join (σ := Bool) 6 (fun y98 => [(1, pv b1 0), (9, iv (i84 : Int)), (10, pv b90 0), (118, Sl.v s_a0_0), (119, iv (a0.Voters.length : Int)), (120, iv (i84 : Int)), (139, .bool y98)]) (fun y98 => (.blk b90 (enc x87) 93) :: (.blk b1 (enc (SynodR.mk a0 s_a0_0 s_a0_1)) 44) :: L) (fun _ y98 => y98 = o97) ?_ ?_
  ·rcases Bool.eq_false_or_eq_true y93 with hb99 | hb99
   ·replace H := ite_t hb99 H
    refine Lst.skip rfl rfl rfl hb99 rfl (by decide) ?_
    refine Lst.skip rfl rfl rfl hb99 rfl (by decide) ?_
    refine Lst.skip rfl rfl rfl hb99 rfl (by decide) ?_
    refine Lst.skip rfl rfl rfl hb99 rfl (by decide) ?_
    refine Lst.skip rfl rfl rfl hb99 rfl (by decide) ?_
    refine Lst.r (Ev.pickT rfl hb99 rfl) ?_
    refine Lst.nil ?_
    exact At.meet true (FLe.refl _) ⟨rfl, rfl, rfl, rfl, rfl, rfl, rfl, trivial⟩ rfl (some_inj H)
   replace H := ite_f hb99 H
   refine Lst.rG hb99 (Ev.fieldAddr (off' := 1) rfl Try.runUnderlying93 rfl Try.sizeOf3 rfl rfl) ?_
   refine Lst.rG hb99 (Ev.load (i := 0) rfl rfl Try.isAgg3 (v := iv x87.Voted) ((Voter.get_Voted (Get.here _)).off (by rfl))) ?_
   refine Lst.rG hb99 (Ev.fieldAddr (off' := 0) rfl Try.runUnderlying93 rfl Try.sizeOf3 rfl rfl) ?_
   refine Lst.rG hb99 (Ev.load (i := 0) rfl rfl Try.isAgg3 (v := iv x87.Promised) ((Voter.get_Promised (Get.here _)).off (by rfl))) ?_
   refine Lst.rG hb99 (Ev.gtr rfl rfl) ?_
   refine Lst.r (Ev.pickF rfl hb99 rfl) ?_
   refine Lst.nil ?_
   exact At.meet (decide (x87.Voted > x87.Promised)) (FLe.refl _) ⟨rfl, rfl, rfl, rfl, rfl, rfl, rfl, trivial⟩ rfl (some_inj H)
  rintro F100 y98 hF101 hy
  subst hy
  refine Lst.as (e' := [(1, pv b1 0), (9, iv (i84 : Int)), (10, pv b90 0), (118, Sl.v s_a0_0), (119, iv (a0.Voters.length : Int)), (120, iv (i84 : Int)), (139, .bool y98)]) (L' := (.blk b90 (enc x87) 93) :: (.blk b1 (enc (SynodR.mk a0 s_a0_0 s_a0_1)) 44) :: L) ⟨rfl, rfl, rfl, rfl, rfl, rfl, rfl, trivial⟩ rfl ?_
  replace H := HKo97
  refine Lst.nil ?_
  refine At.then ?_
  rcases Bool.eq_false_or_eq_true y98 with hb102 | hb102
  ·replace H := ite_t hb102 H
   refine Cd.condT rfl hb102 ?_
   refine Cd.seq ?_
   refine Cd.region ?_
   refine Lst.r (Ev.assign rfl) ?_
   refine Lst.nil ?_
   refine At.then ?_
   have H := hret84 _ (some_inj H).symm
   subst H
   replace H := HKl84
   obtain rfl := some_inj H
   refine Cd.ret ?_
   refine At.then_ret ?_
   refine At.in_ret ?_
   refine At.then_ret ?_
   refine At.then_ret ?_
   refine At.in_ret ?_
   refine At.then_ret ?_
   exact At.ret1 rfl (Res.tmp rfl) (FLe.trans (FLe.trans (FLe.trans (FLe.trans (FLe.trans hF7 hF12) hF16) hF86) hF96) hF101) (sc1 (sc1 (.refl _))) ⟨rfl, rfl⟩
  replace H := ite_f hb102 H
  refine Cd.condF rfl hb102 ?_
  refine Cd.skip ?_
  refine At.then ?_
  refine Cd.seq ?_
  refine Cd.quiet (by kernel_rfl) (by kernel_rfl) ?_
  refine Qt.r (Ev.fieldAddr (off' := 0) rfl Try.runUnderlying93 rfl Try.sizeOf3 rfl rfl) ?_
  refine Qt.r (Ev.load (i := 0) rfl rfl Try.isAgg3 (v := iv x87.Promised) ((Voter.get_Promised (Get.here _)).off (by rfl))) ?_
  refine Qt.r (Ev.eql rfl rfl) ?_
  refine Qt.r (Ev.assign rfl) ?_
  refine Qt.r (Ev.assign rfl) ?_
  refine Qt.r (Ev.assign rfl) ?_
  refine Qt.done ?_
  refine At.then ?_
  refine Cd.seq ?_
  refine Cd.seq ?_
  refine Cd.region ?_
  refine Lst.r (Ev.fieldAddr (off' := 1) rfl Try.runUnderlying44 rfl Try.sizeOf42 rfl rfl) ?_
  refine Lst.r (Ev.load (i := 1) rfl rfl Try.isAgg42 (v := Sl.v s_a0_1) ((SynodR.get_Rounds (Get.here _)).off (by rfl))) ?_
  refine Lst.r (Ev.lenS (α := Round) (xs := a0.Rounds) (by decide) rfl rfl Try.runUnderlying42 (hs_a0_1.mono (FLe.trans (FLe.trans (FLe.trans (FLe.trans (FLe.trans hF7 hF12) hF16) hF86) hF96) hF101) (sc2 hM))) ?_
  refine Lst.r (Ev.move rfl) ?_
  refine Lst.nil ?_
  refine At.then ?_
  refine Cd.block ?_
  refine Cd.bound (Rd.le (α := Round) (xs := a0.Rounds) (by decide) (hs_a0_1.mono (FLe.trans (FLe.trans (FLe.trans (FLe.trans (FLe.trans hF7 hF12) hF16) hF86) hF96) hF101) (sc2 hM))) (fun hN158 => ?_)
  obtain ⟨ol103, H, HKl103⟩ := andThen_some H
  refine Cd.loop (σ := Nat × Nat × Int × Str × Bool) (fun (i103, k103, y104, y105, y106) => [(1, pv b1 0), (9, iv (i84 : Int)), (10, pv b90 0), (11, iv y104), (12, Str.v y105), (13, .bool y106), (118, Sl.v s_a0_0), (119, iv (a0.Voters.length : Int)), (120, iv (i84 : Int)), (144, Sl.v s_a0_1), (145, iv (a0.Rounds.length : Int)), (146, iv (i103 : Int))]) (fun (i103, k103, y104, y105, y106) => (.blk b90 (enc x87) 93) :: (.blk b1 (enc (SynodR.mk a0 s_a0_0 s_a0_1)) 44) :: L) (fun _ => (fun (i103, k103, y104, y105, y106) => rangeM (partref_SynodErr_B6 a0 i84 x87) k103 i103 (y104, y105, y106) = some ol103 ∧ i103 + k103 = a0.Rounds.length)) (fun (i103, k103, y104, y105, y106) => k103) (0, a0.Rounds.length, (0 : Int), ([] : Str), x87.Promised == (0 : Int)) ⟨rfl, rfl, rfl, rfl, rfl, rfl, rfl, rfl, rfl, rfl, rfl, rfl, trivial⟩ rfl ⟨H, by omega⟩ ?_
  rintro F107 ⟨i103, k103, y104, y105, y106⟩ hF108 ⟨H, hik103⟩
  refine Cd.as (e' := [(1, pv b1 0), (9, iv (i84 : Int)), (10, pv b90 0), (11, iv y104), (12, Str.v y105), (13, .bool y106), (118, Sl.v s_a0_0), (119, iv (a0.Voters.length : Int)), (120, iv (i84 : Int)), (144, Sl.v s_a0_1), (145, iv (a0.Rounds.length : Int)), (146, iv (i103 : Int))]) (L' := (.blk b90 (enc x87) 93) :: (.blk b1 (enc (SynodR.mk a0 s_a0_0 s_a0_1)) 44) :: L) ⟨rfl, rfl, rfl, rfl, rfl, rfl, rfl, rfl, rfl, rfl, rfl, rfl, trivial⟩ rfl ?_
  rcases k103 with _ | k103
  ·have hc103 : decide ((i103 : Int) < (a0.Rounds.length : Int)) = false := decide_eq_false (by omega)
   replace H := rangeM_end H
   refine Cd.seq ?_
   refine Cd.region ?_
   refine Lst.r (Ev.lss rfl rfl) ?_
   refine Lst.nil ?_
   refine At.then ?_
   refine Cd.seq ?_
   refine Cd.condF rfl hc103 ?_
   refine Cd.exit ?_
   refine At.then_exit ?_
   refine At.then_exit ?_
   refine At.in_exit ?_
   subst H
   replace H := HKl103
   refine At.then ?_
   refine Cd.seq ?_
   refine Cd.region ?_
   refine Lst.r (Ev.move rfl) ?_
   refine Lst.r (Ev.not rfl) ?_
   refine Lst.r (Ev.move rfl) ?_
   obtain ⟨o147, H, HKo147⟩ := bind_some H
   refine Lst.join (σ := Bool) 5 (fun y148 => [(1, pv b1 0), (10, pv b90 0), (12, Str.v y105), (118, Sl.v s_a0_0), (119, iv (a0.Voters.length : Int)), (120, iv (i84 : Int)), (199, .bool y148)]) (fun y148 => (.blk b90 (enc x87) 93) :: (.blk b1 (enc (SynodR.mk a0 s_a0_0 s_a0_1)) 44) :: L) (fun _ y148 => y148 = o147) ?_ ?_
   ·rcases Bool.eq_false_or_eq_true (!y106) with hb149 | hb149
    ·replace H := ite_t hb149 H
     refine Lst.skip rfl rfl rfl hb149 rfl (by decide) ?_
     refine Lst.skip rfl rfl rfl hb149 rfl (by decide) ?_
     refine Lst.skip rfl rfl rfl hb149 rfl (by decide) ?_
     refine Lst.skip rfl rfl rfl hb149 rfl (by decide) ?_
     refine Lst.r (Ev.pickT rfl hb149 rfl) ?_
     refine Lst.nil ?_
     exact At.meet true (FLe.refl _) ⟨rfl, rfl, rfl, rfl, rfl, rfl, rfl, trivial⟩ rfl (some_inj H)
    replace H := ite_f hb149 H
    refine Lst.rG hb149 (Ev.move rfl) ?_
    refine Lst.rG hb149 (Ev.fieldAddr (off' := 1) rfl Try.runUnderlying93 rfl Try.sizeOf3 rfl rfl) ?_
    refine Lst.rG hb149 (Ev.load (i := 0) rfl rfl Try.isAgg3 (v := iv x87.Voted) ((Voter.get_Voted (Get.here _)).off (by rfl))) ?_
    refine Lst.rG hb149 (Ev.neq rfl rfl) ?_
    refine Lst.r (Ev.pickF rfl hb149 rfl) ?_
    refine Lst.nil ?_
    exact At.meet (y104 != x87.Voted) (FLe.refl _) ⟨rfl, rfl, rfl, rfl, rfl, rfl, rfl, trivial⟩ rfl (some_inj H)
   rintro F150 y148 hF151 hy
   subst hy
   refine Lst.as (e' := [(1, pv b1 0), (10, pv b90 0), (12, Str.v y105), (118, Sl.v s_a0_0), (119, iv (a0.Voters.length : Int)), (120, iv (i84 : Int)), (199, .bool y148)]) (L' := (.blk b90 (enc x87) 93) :: (.blk b1 (enc (SynodR.mk a0 s_a0_0 s_a0_1)) 44) :: L) ⟨rfl, rfl, rfl, rfl, rfl, rfl, rfl, trivial⟩ rfl ?_
   replace H := HKo147
   refine Lst.r (Ev.move rfl) ?_
   obtain ⟨o152, H, HKo152⟩ := bind_some H
   refine Lst.join (σ := Bool) 5 (fun y153 => [(1, pv b1 0), (118, Sl.v s_a0_0), (119, iv (a0.Voters.length : Int)), (120, iv (i84 : Int)), (205, .bool y153)]) (fun y153 => (.blk b90 (enc x87) 93) :: (.blk b1 (enc (SynodR.mk a0 s_a0_0 s_a0_1)) 44) :: L) (fun _ y153 => y153 = o152) ?_ ?_
   ·rcases Bool.eq_false_or_eq_true y148 with hb154 | hb154
    ·replace H := ite_t hb154 H
     refine Lst.skip rfl rfl rfl hb154 rfl (by decide) ?_
     refine Lst.skip rfl rfl rfl hb154 rfl (by decide) ?_
     refine Lst.skip rfl rfl rfl hb154 rfl (by decide) ?_
     refine Lst.skip rfl rfl rfl hb154 rfl (by decide) ?_
     refine Lst.r (Ev.pickT rfl hb154 rfl) ?_
     refine Lst.nil ?_
     exact At.meet true (FLe.refl _) ⟨rfl, rfl, rfl, rfl, rfl, trivial⟩ rfl (some_inj H)
    replace H := ite_f hb154 H
    refine Lst.rG hb154 (Ev.move rfl) ?_
    refine Lst.rG hb154 (Ev.fieldAddr (off' := 2) rfl Try.runUnderlying93 rfl Try.sizeOf9 rfl rfl) ?_
    refine Lst.rG hb154 (Ev.load (i := 0) rfl rfl Try.isAgg9 (v := Str.v x87.Text) ((Voter.get_Text (Get.here _)).off (by rfl))) ?_
    refine Lst.rG hb154 (Ev.neqStr (s := y105) (m := x87.Text) rfl rfl) ?_
    refine Lst.r (Ev.pickF rfl hb154 rfl) ?_
    refine Lst.nil ?_
    exact At.meet (!(decide (y105 = x87.Text))) (FLe.refl _) ⟨rfl, rfl, rfl, rfl, rfl, trivial⟩ rfl (some_inj H)
   rintro F155 y153 hF156 hy
   subst hy
   refine Lst.as (e' := [(1, pv b1 0), (118, Sl.v s_a0_0), (119, iv (a0.Voters.length : Int)), (120, iv (i84 : Int)), (205, .bool y153)]) (L' := (.blk b90 (enc x87) 93) :: (.blk b1 (enc (SynodR.mk a0 s_a0_0 s_a0_1)) 44) :: L) ⟨rfl, rfl, rfl, rfl, rfl, trivial⟩ rfl ?_
   replace H := HKo152
   refine Lst.nil ?_
   refine At.then ?_
   rcases Bool.eq_false_or_eq_true y153 with hb157 | hb157
   ·replace H := ite_t hb157 H
    refine Cd.condT rfl hb157 ?_
    refine Cd.seq ?_
    refine Cd.region ?_
    refine Lst.r (Ev.assign rfl) ?_
    refine Lst.nil ?_
    refine At.then ?_
    have H := hret84 _ (some_inj H).symm
    subst H
    replace H := HKl84
    obtain rfl := some_inj H
    refine Cd.ret ?_
    refine At.in_ret ?_
    refine At.then_ret ?_
    refine At.then_ret ?_
    refine At.in_ret ?_
    refine At.then_ret ?_
    exact At.ret1 rfl (Res.tmp rfl) (FLe.trans (FLe.trans (FLe.trans (FLe.trans (FLe.trans (FLe.trans (FLe.trans (FLe.trans hF7 hF12) hF16) hF86) hF96) hF101) hF108) hF151) hF156) (sc1 (sc1 (.refl _))) ⟨rfl, rfl⟩
   replace H := ite_f hb157 H
   refine Cd.condF rfl hb157 ?_
   refine Cd.skip ?_
   refine At.in_normal ?_
   refine At.then ?_
   refine Cd.region ?_
   refine Lst.r (Ev.incr (by omega) rfl rfl) ?_
   refine Lst.r (Ev.move rfl) ?_
   refine Lst.nil ?_
   refine At.less (L' := (.blk b1 (enc (SynodR.mk a0 s_a0_0 s_a0_1)) 44) :: L) (sc1 (sk1 (.refl _))) ?_
   exact At.meet (i84 + 1, k84, ()) (FLe.trans (FLe.trans (FLe.trans (FLe.trans (FLe.trans hF86 hF96) hF101) hF108) hF151) hF156) ⟨rfl, rfl, rfl, rfl, trivial⟩ rfl ⟨⟨hgo84 _ (some_inj H).symm, by omega⟩, Nat.lt_succ_self _⟩
  have hc103 : decide ((i103 : Int) < (a0.Rounds.length : Int)) = true := decide_eq_true (by omega)
  obtain ⟨c103, H, hgo103, hbrk103, hret103⟩ := rangeM_go H
  unfold partref_SynodErr_B6 at H
  try dsimp only at H
  refine Cd.seq ?_
  refine Cd.region ?_
  refine Lst.r (Ev.lss rfl rfl) ?_
  refine Lst.nil ?_
  refine At.then ?_
  refine Cd.seq ?_
  refine Cd.condT rfl hc103 ?_
  refine Cd.skip ?_
  refine At.then ?_
  refine Cd.seq ?_
  refine Cd.block ?_
  refine Cd.seq ?_
  refine Cd.region ?_
  obtain ⟨x109, h110, H⟩ := bind_some H
  have g111 := lat_some h110
  refine Lst.r (Ev.indexS (α := Round) (xs := a0.Rounds) rfl rfl Try.runUnderlying42 Try.sizeOf91 rfl (by decide) (hs_a0_1.mono (FLe.trans (FLe.trans (FLe.trans (FLe.trans (FLe.trans (FLe.trans hF7 hF12) hF16) hF86) hF96) hF101) hF108) (sc2 hM)) g111.1 g111.2.1) ?_
  refine Lst.r (Ev.loadSA (α := Round) rfl (hs_a0_1.mono (FLe.trans (FLe.trans (FLe.trans (FLe.trans (FLe.trans (FLe.trans hF7 hF12) hF16) hF86) hF96) hF101) hF108) (sc2 hM)) Try.isAgg91 Try.sizeOf91 (ch := enc x109) (Enc.len _) (by decide) ((Get.elemN (s := 6) (x := x109) rfl g111.2.2 (Get.here _)).off (by omega))) ?_
  refine Lst.alloc (cs := enc Round.zero) rfl rfl (by decide) Try.zeroValue91 rfl (fun b112 => ?_)
  refine Lst.store (i := 0) rfl rfl rfl rfl rfl Try.sizeOf91 (vs := enc x109) rfl (Enc.len _) (Enc.one _) (cs' := enc x109) (Put.here ((Enc.len _).trans (Enc.len _).symm)) (L' := (.blk b112 (enc x109) 91) :: (.blk b90 (enc x87) 93) :: (.blk b1 (enc (SynodR.mk a0 s_a0_0 s_a0_1)) 44) :: L) rfl ?_
  refine Lst.nil ?_
  refine At.then ?_
  refine Cd.seq ?_
  refine Cd.region ?_
  refine Lst.r (Ev.fieldAddr (off' := 3) rfl Try.runUnderlying91 rfl Try.sizeOf5 rfl rfl) ?_
  refine Lst.r (Ev.load (i := 0) rfl rfl Try.isAgg5 (v := .int .u8 x109.Voted.toNat) ((Round.get_Voted (Get.here _)).off (by rfl))) ?_
  refine Lst.r (Ev.move rfl) ?_
  obtain ⟨n114, h115, H⟩ := bind_some H
  refine Lst.r (Ev.shrU8 (i := x109.Voted) (m := n114) rfl (congrArg some (congrArg (Value.int .i64) (cnt_some h115)))) ?_
  refine Lst.r (Ev.remU8 (i := x109.Voted >>> n114) (j := (2 : BitVec 8)) rfl rfl (by decide)) ?_
  refine Lst.r (Ev.eql rfl rfl) ?_
  refine Lst.r (Ev.assign rfl) ?_
  refine Lst.nil ?_
  refine At.then ?_
  refine Cd.seq ?_
  refine Cd.seq ?_
  refine Cd.region ?_
  refine Lst.r (Ev.move rfl) ?_
  refine Lst.r (Ev.move rfl) ?_
  obtain ⟨o117, H, HKo117⟩ := bind_some H
  refine Lst.join (σ := Bool) 7 (fun y118 => [(1, pv b1 0), (9, iv (i84 : Int)), (10, pv b90 0), (11, iv y104), (12, Str.v y105), (13, .bool y106), (15, pv b112 0), (16, .bool ((((x109.Voted >>> n114) % (2 : BitVec 8)).toNat : Int) == ((1 : BitVec 8).toNat : Int))), (118, Sl.v s_a0_0), (119, iv (a0.Voters.length : Int)), (120, iv (i84 : Int)), (144, Sl.v s_a0_1), (145, iv (a0.Rounds.length : Int)), (146, iv (i103 : Int)), (164, .bool y118)]) (fun y118 => (.blk b112 (enc x109) 91) :: (.blk b90 (enc x87) 93) :: (.blk b1 (enc (SynodR.mk a0 s_a0_0 s_a0_1)) 44) :: L) (fun _ y118 => y118 = o117) ?_ ?_
  ·rcases Bool.eq_false_or_eq_true ((((x109.Voted >>> n114) % (2 : BitVec 8)).toNat : Int) == ((1 : BitVec 8).toNat : Int)) with hb119 | hb119
   ·replace H := ite_t hb119 H
    refine Lst.skip rfl rfl rfl hb119 rfl (by decide) ?_
    refine Lst.skip rfl rfl rfl hb119 rfl (by decide) ?_
    refine Lst.skip rfl rfl rfl hb119 rfl (by decide) ?_
    refine Lst.skip rfl rfl rfl hb119 rfl (by decide) ?_
    refine Lst.skip rfl rfl rfl hb119 rfl (by decide) ?_
    refine Lst.skip rfl rfl rfl hb119 rfl (by decide) ?_
    refine Lst.r (Ev.pickT rfl hb119 rfl) ?_
    refine Lst.nil ?_
    exact At.meet true (FLe.refl _) ⟨rfl, rfl, rfl, rfl, rfl, rfl, rfl, rfl, rfl, rfl, rfl, rfl, rfl, rfl, rfl, trivial⟩ rfl (some_inj H)
   replace H := ite_f hb119 H
   refine Lst.rG hb119 (Ev.fieldAddr (off' := 2) rfl Try.runUnderlying91 rfl Try.sizeOf5 rfl rfl) ?_
   refine Lst.rG hb119 (Ev.load (i := 0) rfl rfl Try.isAgg5 (v := .int .u8 x109.Promised.toNat) ((Round.get_Promised (Get.here _)).off (by rfl))) ?_
   refine Lst.rG hb119 (Ev.move rfl) ?_
   obtain ⟨n120, h121, H⟩ := bind_some H
   refine Lst.rG hb119 (Ev.shrU8 (i := x109.Promised) (m := n120) rfl (congrArg some (congrArg (Value.int .i64) (cnt_some h121)))) ?_
   refine Lst.rG hb119 (Ev.remU8 (i := x109.Promised >>> n120) (j := (2 : BitVec 8)) rfl rfl (by decide)) ?_
   refine Lst.rG hb119 (Ev.eql rfl rfl) ?_
   refine Lst.r (Ev.pickF rfl hb119 rfl) ?_
   refine Lst.nil ?_
   exact At.meet ((((x109.Promised >>> n120) % (2 : BitVec 8)).toNat : Int) == ((1 : BitVec 8).toNat : Int)) (FLe.refl _) ⟨rfl, rfl, rfl, rfl, rfl, rfl, rfl, rfl, rfl, rfl, rfl, rfl, rfl, rfl, rfl, trivial⟩ rfl (some_inj H)
  rintro F123 y118 hF124 hy
  subst hy
  refine Lst.as (e' := [(1, pv b1 0), (9, iv (i84 : Int)), (10, pv b90 0), (11, iv y104), (12, Str.v y105), (13, .bool y106), (15, pv b112 0), (16, .bool ((((x109.Voted >>> n114) % (2 : BitVec 8)).toNat : Int) == ((1 : BitVec 8).toNat : Int))), (118, Sl.v s_a0_0), (119, iv (a0.Voters.length : Int)), (120, iv (i84 : Int)), (144, Sl.v s_a0_1), (145, iv (a0.Rounds.length : Int)), (146, iv (i103 : Int)), (164, .bool y118)]) (L' := (.blk b112 (enc x109) 91) :: (.blk b90 (enc x87) 93) :: (.blk b1 (enc (SynodR.mk a0 s_a0_0 s_a0_1)) 44) :: L) ⟨rfl, rfl, rfl, rfl, rfl, rfl, rfl, rfl, rfl, rfl, rfl, rfl, rfl, rfl, rfl, trivial⟩ rfl ?_
  replace H := HKo117
  refine Lst.r (Ev.move rfl) ?_
  obtain ⟨o125, H, HKo125⟩ := bind_some H
  refine Lst.join (σ := Bool) 6 (fun y126 => [(1, pv b1 0), (9, iv (i84 : Int)), (10, pv b90 0), (11, iv y104), (12, Str.v y105), (13, .bool y106), (15, pv b112 0), (16, .bool ((((x109.Voted >>> n114) % (2 : BitVec 8)).toNat : Int) == ((1 : BitVec 8).toNat : Int))), (118, Sl.v s_a0_0), (119, iv (a0.Voters.length : Int)), (120, iv (i84 : Int)), (144, Sl.v s_a0_1), (145, iv (a0.Rounds.length : Int)), (146, iv (i103 : Int)), (171, .bool y126)]) (fun y126 => (.blk b112 (enc x109) 91) :: (.blk b90 (enc x87) 93) :: (.blk b1 (enc (SynodR.mk a0 s_a0_0 s_a0_1)) 44) :: L) (fun _ y126 => y126 = o125) ?_ ?_
  ·rcases (Bool.eq_false_or_eq_true y118).symm with hb127 | hb127
   ·replace H := ite_f hb127 H
    refine Lst.skip rfl rfl rfl hb127 rfl (by decide) ?_
    refine Lst.skip rfl rfl rfl hb127 rfl (by decide) ?_
    refine Lst.skip rfl rfl rfl hb127 rfl (by decide) ?_
    refine Lst.skip rfl rfl rfl hb127 rfl (by decide) ?_
    refine Lst.skip rfl rfl rfl hb127 rfl (by decide) ?_
    refine Lst.r (Ev.pickF rfl hb127 rfl) ?_
    refine Lst.nil ?_
    exact At.meet false (FLe.refl _) ⟨rfl, rfl, rfl, rfl, rfl, rfl, rfl, rfl, rfl, rfl, rfl, rfl, rfl, rfl, rfl, trivial⟩ rfl (some_inj H)
   replace H := ite_t hb127 H
   refine Lst.rG hb127 (Ev.fieldAddr (off' := 0) rfl Try.runUnderlying91 rfl Try.sizeOf3 rfl rfl) ?_
   refine Lst.rG hb127 (Ev.load (i := 0) rfl rfl Try.isAgg3 (v := iv x109.Ballot) ((Round.get_Ballot (Get.here _)).off (by rfl))) ?_
   refine Lst.rG hb127 (Ev.fieldAddr (off' := 0) rfl Try.runUnderlying93 rfl Try.sizeOf3 rfl rfl) ?_
   refine Lst.rG hb127 (Ev.load (i := 1) rfl rfl Try.isAgg3 (v := iv x87.Promised) ((Voter.get_Promised (Get.here _)).off (by rfl))) ?_
   refine Lst.rG hb127 (Ev.gtr rfl rfl) ?_
   refine Lst.r (Ev.pickT rfl hb127 rfl) ?_
   refine Lst.nil ?_
   exact At.meet (decide (x109.Ballot > x87.Promised)) (FLe.refl _) ⟨rfl, rfl, rfl, rfl, rfl, rfl, rfl, rfl, rfl, rfl, rfl, rfl, rfl, rfl, rfl, trivial⟩ rfl (some_inj H)
  rintro F128 y126 hF129 hy
  subst hy
  refine Lst.as (e' := [(1, pv b1 0), (9, iv (i84 : Int)), (10, pv b90 0), (11, iv y104), (12, Str.v y105), (13, .bool y106), (15, pv b112 0), (16, .bool ((((x109.Voted >>> n114) % (2 : BitVec 8)).toNat : Int) == ((1 : BitVec 8).toNat : Int))), (118, Sl.v s_a0_0), (119, iv (a0.Voters.length : Int)), (120, iv (i84 : Int)), (144, Sl.v s_a0_1), (145, iv (a0.Rounds.length : Int)), (146, iv (i103 : Int)), (171, .bool y126)]) (L' := (.blk b112 (enc x109) 91) :: (.blk b90 (enc x87) 93) :: (.blk b1 (enc (SynodR.mk a0 s_a0_0 s_a0_1)) 44) :: L) ⟨rfl, rfl, rfl, rfl, rfl, rfl, rfl, rfl, rfl, rfl, rfl, rfl, rfl, rfl, rfl, trivial⟩ rfl ?_
  replace H := HKo125
  refine Lst.nil ?_
  refine At.then ?_
  rcases Bool.eq_false_or_eq_true y126 with hb130 | hb130
  ·replace H := ite_t hb130 H
   refine Cd.condT rfl hb130 ?_
   refine Cd.seq ?_
   refine Cd.as (e' := []) (L' := (.blk b112 (enc x109) 91) :: (.blk b90 (enc x87) 93) :: (.blk b1 (enc (SynodR.mk a0 s_a0_0 s_a0_1)) 44) :: L) trivial rfl ?_
   refine Cd.region ?_
   refine Lst.r (Ev.assign rfl) ?_
   refine Lst.nil ?_
   refine At.then ?_
   have H := hret103 _ (some_inj H).symm
   subst H
   replace H := HKl103
   have H := hret84 _ (some_inj H).symm
   subst H
   replace H := HKl84
   obtain rfl := some_inj H
   refine Cd.ret ?_
   refine At.then_ret ?_
   refine At.in_ret ?_
   refine At.then_ret ?_
   refine At.then_ret ?_
   refine At.in_ret ?_
   refine At.then_ret ?_
   refine At.in_ret ?_
   refine At.then_ret ?_
   refine At.then_ret ?_
   refine At.in_ret ?_
   refine At.then_ret ?_
   exact At.ret1 rfl (Res.tmp rfl) (FLe.trans (FLe.trans (FLe.trans (FLe.trans (FLe.trans (FLe.trans (FLe.trans (FLe.trans hF7 hF12) hF16) hF86) hF96) hF101) hF108) hF124) hF129) (sc1 (sc1 (sc1 (.refl _)))) ⟨rfl, rfl⟩
  replace H := ite_f hb130 H
  refine Cd.condF rfl hb130 ?_
  refine Cd.skip ?_
  refine At.then ?_
  obtain ⟨o133, H, HKo133⟩ := bind_some H
  refine Cd.join (σ := Int × Str) (fun (y131, y132) => [(1, pv b1 0), (9, iv (i84 : Int)), (10, pv b90 0), (11, iv y131), (12, Str.v y132), (13, .bool y106), (15, pv b112 0), (118, Sl.v s_a0_0), (119, iv (a0.Voters.length : Int)), (120, iv (i84 : Int)), (144, Sl.v s_a0_1), (145, iv (a0.Rounds.length : Int)), (146, iv (i103 : Int))]) (fun (y131, y132) => (.blk b112 (enc x109) 91) :: (.blk b90 (enc x87) 93) :: (.blk b1 (enc (SynodR.mk a0 s_a0_0 s_a0_1)) 44) :: L) (fun _ (y131, y132) => (y131, y132) = o133) ?_ ?_
  ·refine Cd.seq ?_
   refine Cd.region ?_
   refine Lst.r (Ev.move rfl) ?_
   refine Lst.r (Ev.move rfl) ?_
   obtain ⟨o134, H, HKo134⟩ := bind_some H
   refine Lst.join (σ := Bool) 5 (fun y135 => [(1, pv b1 0), (9, iv (i84 : Int)), (10, pv b90 0), (11, iv y104), (12, Str.v y105), (13, .bool y106), (15, pv b112 0), (118, Sl.v s_a0_0), (119, iv (a0.Voters.length : Int)), (120, iv (i84 : Int)), (144, Sl.v s_a0_1), (145, iv (a0.Rounds.length : Int)), (146, iv (i103 : Int)), (178, .bool y135)]) (fun y135 => (.blk b112 (enc x109) 91) :: (.blk b90 (enc x87) 93) :: (.blk b1 (enc (SynodR.mk a0 s_a0_0 s_a0_1)) 44) :: L) (fun _ y135 => y135 = o134) ?_ ?_
   ·rcases (Bool.eq_false_or_eq_true ((((x109.Voted >>> n114) % (2 : BitVec 8)).toNat : Int) == ((1 : BitVec 8).toNat : Int))).symm with hb136 | hb136
    ·replace H := ite_f hb136 H
     refine Lst.skip rfl rfl rfl hb136 rfl (by decide) ?_
     refine Lst.skip rfl rfl rfl hb136 rfl (by decide) ?_
     refine Lst.skip rfl rfl rfl hb136 rfl (by decide) ?_
     refine Lst.skip rfl rfl rfl hb136 rfl (by decide) ?_
     refine Lst.r (Ev.pickF rfl hb136 rfl) ?_
     refine Lst.nil ?_
     exact At.meet false (FLe.refl _) ⟨rfl, rfl, rfl, rfl, rfl, rfl, rfl, rfl, rfl, rfl, rfl, rfl, rfl, rfl, trivial⟩ rfl (some_inj H)
    replace H := ite_t hb136 H
    refine Lst.rG hb136 (Ev.fieldAddr (off' := 0) rfl Try.runUnderlying91 rfl Try.sizeOf3 rfl rfl) ?_
    refine Lst.rG hb136 (Ev.load (i := 0) rfl rfl Try.isAgg3 (v := iv x109.Ballot) ((Round.get_Ballot (Get.here _)).off (by rfl))) ?_
    refine Lst.rG hb136 (Ev.move rfl) ?_
    refine Lst.rG hb136 (Ev.gtr rfl rfl) ?_
    refine Lst.r (Ev.pickT rfl hb136 rfl) ?_
    refine Lst.nil ?_
    exact At.meet (decide (x109.Ballot > y104)) (FLe.refl _) ⟨rfl, rfl, rfl, rfl, rfl, rfl, rfl, rfl, rfl, rfl, rfl, rfl, rfl, rfl, trivial⟩ rfl (some_inj H)
   rintro F137 y135 hF138 hy
   subst hy
   refine Lst.as (e' := [(1, pv b1 0), (9, iv (i84 : Int)), (10, pv b90 0), (11, iv y104), (12, Str.v y105), (13, .bool y106), (15, pv b112 0), (118, Sl.v s_a0_0), (119, iv (a0.Voters.length : Int)), (120, iv (i84 : Int)), (144, Sl.v s_a0_1), (145, iv (a0.Rounds.length : Int)), (146, iv (i103 : Int)), (178, .bool y135)]) (L' := (.blk b112 (enc x109) 91) :: (.blk b90 (enc x87) 93) :: (.blk b1 (enc (SynodR.mk a0 s_a0_0 s_a0_1)) 44) :: L) ⟨rfl, rfl, rfl, rfl, rfl, rfl, rfl, rfl, rfl, rfl, rfl, rfl, rfl, rfl, trivial⟩ rfl ?_
   replace H := HKo134
   refine Lst.nil ?_
   refine At.then ?_
   rcases (Bool.eq_false_or_eq_true y135).symm with hb139 | hb139
   ·replace H := ite_f hb139 H
    refine Cd.condF rfl hb139 ?_
    refine Cd.skip ?_
    exact At.meet (y104, y105) hF138 ⟨rfl, rfl, rfl, rfl, rfl, rfl, rfl, rfl, rfl, rfl, rfl, rfl, rfl, trivial⟩ rfl (some_inj H)
   replace H := ite_t hb139 H
   refine Cd.condT rfl hb139 ?_
   refine Cd.quiet (by kernel_rfl) (by kernel_rfl) ?_
   refine Qt.r (Ev.fieldAddr (off' := 0) rfl Try.runUnderlying91 rfl Try.sizeOf3 rfl rfl) ?_
   refine Qt.r (Ev.load (i := 0) rfl rfl Try.isAgg3 (v := iv x109.Ballot) ((Round.get_Ballot (Get.here _)).off (by rfl))) ?_
   refine Qt.r (Ev.fieldAddr (off' := 5) rfl Try.runUnderlying91 rfl Try.sizeOf9 rfl rfl) ?_
   refine Qt.r (Ev.load (i := 0) rfl rfl Try.isAgg9 (v := Str.v x109.Text) ((Round.get_Text (Get.here _)).off (by rfl))) ?_
   refine Qt.r (Ev.assign rfl) ?_
   refine Qt.r (Ev.assign rfl) ?_
   refine Qt.done ?_
   exact At.meet (x109.Ballot, x109.Text) hF138 ⟨rfl, rfl, rfl, rfl, rfl, rfl, rfl, rfl, rfl, rfl, rfl, rfl, rfl, trivial⟩ rfl (some_inj H)
  rintro F140 ⟨y131, y132⟩ hF141 hy
  subst hy
  refine Cd.as (e' := [(1, pv b1 0), (9, iv (i84 : Int)), (10, pv b90 0), (11, iv y131), (12, Str.v y132), (13, .bool y106), (15, pv b112 0), (118, Sl.v s_a0_0), (119, iv (a0.Voters.length : Int)), (120, iv (i84 : Int)), (144, Sl.v s_a0_1), (145, iv (a0.Rounds.length : Int)), (146, iv (i103 : Int))]) (L' := (.blk b112 (enc x109) 91) :: (.blk b90 (enc x87) 93) :: (.blk b1 (enc (SynodR.mk a0 s_a0_0 s_a0_1)) 44) :: L) ⟨rfl, rfl, rfl, rfl, rfl, rfl, rfl, rfl, rfl, rfl, rfl, rfl, rfl, trivial⟩ rfl ?_
  replace H := HKo133
  refine Cd.region ?_
  refine Lst.r (Ev.move rfl) ?_
  refine Lst.r (Ev.move rfl) ?_
  obtain ⟨o142, H, HKo142⟩ := bind_some H
  refine Lst.join (σ := Bool) 6 (fun y143 => [(1, pv b1 0), (9, iv (i84 : Int)), (10, pv b90 0), (11, iv y131), (12, Str.v y132), (13, .bool y106), (118, Sl.v s_a0_0), (119, iv (a0.Voters.length : Int)), (120, iv (i84 : Int)), (144, Sl.v s_a0_1), (145, iv (a0.Rounds.length : Int)), (146, iv (i103 : Int)), (190, .bool y143)]) (fun y143 => (.blk b112 (enc x109) 91) :: (.blk b90 (enc x87) 93) :: (.blk b1 (enc (SynodR.mk a0 s_a0_0 s_a0_1)) 44) :: L) (fun _ y143 => y143 = o142) ?_ ?_
  ·rcases Bool.eq_false_or_eq_true y106 with hb144 | hb144
   ·replace H := ite_t hb144 H
    refine Lst.skip rfl rfl rfl hb144 rfl (by decide) ?_
    refine Lst.skip rfl rfl rfl hb144 rfl (by decide) ?_
    refine Lst.skip rfl rfl rfl hb144 rfl (by decide) ?_
    refine Lst.skip rfl rfl rfl hb144 rfl (by decide) ?_
    refine Lst.skip rfl rfl rfl hb144 rfl (by decide) ?_
    refine Lst.r (Ev.pickT rfl hb144 rfl) ?_
    refine Lst.nil ?_
    exact At.meet true (FLe.refl _) ⟨rfl, rfl, rfl, rfl, rfl, rfl, rfl, rfl, rfl, rfl, rfl, rfl, rfl, trivial⟩ rfl (some_inj H)
   replace H := ite_f hb144 H
   refine Lst.rG hb144 (Ev.fieldAddr (off' := 0) rfl Try.runUnderlying91 rfl Try.sizeOf3 rfl rfl) ?_
   refine Lst.rG hb144 (Ev.load (i := 0) rfl rfl Try.isAgg3 (v := iv x109.Ballot) ((Round.get_Ballot (Get.here _)).off (by rfl))) ?_
   refine Lst.rG hb144 (Ev.fieldAddr (off' := 0) rfl Try.runUnderlying93 rfl Try.sizeOf3 rfl rfl) ?_
   refine Lst.rG hb144 (Ev.load (i := 1) rfl rfl Try.isAgg3 (v := iv x87.Promised) ((Voter.get_Promised (Get.here _)).off (by rfl))) ?_
   refine Lst.rG hb144 (Ev.eql rfl rfl) ?_
   refine Lst.r (Ev.pickF rfl hb144 rfl) ?_
   refine Lst.nil ?_
   exact At.meet (x109.Ballot == x87.Promised) (FLe.refl _) ⟨rfl, rfl, rfl, rfl, rfl, rfl, rfl, rfl, rfl, rfl, rfl, rfl, rfl, trivial⟩ rfl (some_inj H)
  rintro F145 y143 hF146 hy
  subst hy
  refine Lst.as (e' := [(1, pv b1 0), (9, iv (i84 : Int)), (10, pv b90 0), (11, iv y131), (12, Str.v y132), (13, .bool y106), (118, Sl.v s_a0_0), (119, iv (a0.Voters.length : Int)), (120, iv (i84 : Int)), (144, Sl.v s_a0_1), (145, iv (a0.Rounds.length : Int)), (146, iv (i103 : Int)), (190, .bool y143)]) (L' := (.blk b112 (enc x109) 91) :: (.blk b90 (enc x87) 93) :: (.blk b1 (enc (SynodR.mk a0 s_a0_0 s_a0_1)) 44) :: L) ⟨rfl, rfl, rfl, rfl, rfl, rfl, rfl, rfl, rfl, rfl, rfl, rfl, rfl, trivial⟩ rfl ?_
  replace H := HKo142
  refine Lst.r (Ev.assign rfl) ?_
  refine Lst.nil ?_
  refine At.in_normal ?_
  refine At.then ?_
  refine Cd.region ?_
  refine Lst.r (Ev.incr (by omega) rfl rfl) ?_
  refine Lst.r (Ev.move rfl) ?_
  refine Lst.nil ?_
  refine At.less (L' := (.blk b90 (enc x87) 93) :: (.blk b1 (enc (SynodR.mk a0 s_a0_0 s_a0_1)) 44) :: L) (sc1 (sk1 (sk1 (.refl _)))) ?_
  exact At.meet (i103 + 1, k103, y131, y132, y143) (FLe.trans (FLe.trans (FLe.trans (FLe.trans hF108 hF124) hF129) hF141) hF146) ⟨rfl, rfl, rfl, rfl, rfl, rfl, rfl, rfl, rfl, rfl, rfl, rfl, trivial⟩ rfl ⟨⟨hgo103 _ (some_inj H).symm, by omega⟩, Nat.lt_succ_self _⟩
 have hc14 : decide ((i14 : Int) < (a0.Rounds.length : Int)) = true := decide_eq_true (by omega)
 obtain ⟨c14, H, hgo14, hbrk14, hret14⟩ := rangeM_go H
 unfold partref_SynodErr_B0 at H
 try dsimp only at H
 refine Cd.seq ?_
 refine Cd.region ?_
 refine Lst.r (Ev.lss rfl rfl) ?_
 refine Lst.nil ?_
 refine At.then ?_
 refine Cd.seq ?_
 refine Cd.condT rfl hc14 ?_
 refine Cd.skip ?_
 refine At.then ?_
 refine Cd.seq ?_
 refine Cd.block ?_
 refine Cd.seq ?_
 refine Cd.region ?_
 refine Lst.r (Ev.move rfl) ?_
 obtain ⟨x17, h18, H⟩ := bind_some H
 have g19 := lat_some h18
 refine Lst.r (Ev.indexS (α := Round) (xs := a0.Rounds) rfl rfl Try.runUnderlying42 Try.sizeOf91 rfl (by decide) (hs_a0_1.mono (FLe.trans (FLe.trans hF7 hF12) hF16) (sc1 hM)) g19.1 g19.2.1) ?_
 refine Lst.r (Ev.loadSA (α := Round) rfl (hs_a0_1.mono (FLe.trans (FLe.trans hF7 hF12) hF16) (sc1 hM)) Try.isAgg91 Try.sizeOf91 (ch := enc x17) (Enc.len _) (by decide) ((Get.elemN (s := 6) (x := x17) rfl g19.2.2 (Get.here _)).off (by omega))) ?_
 refine Lst.alloc (cs := enc Round.zero) rfl rfl (by decide) Try.zeroValue91 rfl (fun b20 => ?_)
 refine Lst.r (Ev.assign rfl) ?_
 refine Lst.store (i := 0) rfl rfl rfl rfl rfl Try.sizeOf91 (vs := enc x17) rfl (Enc.len _) (Enc.one _) (cs' := enc x17) (Put.here ((Enc.len _).trans (Enc.len _).symm)) (L' := (.blk b20 (enc x17) 91) :: (.blk b1 (enc (SynodR.mk a0 s_a0_0 s_a0_1)) 44) :: L) rfl ?_
 refine Lst.nil ?_
 refine At.then ?_
 refine Cd.seq ?_
 refine Cd.seq ?_
 refine Cd.region ?_
 refine Lst.r (Ev.fieldAddr (off' := 0) rfl Try.runUnderlying91 rfl Try.sizeOf3 rfl rfl) ?_
 refine Lst.r (Ev.load (i := 0) rfl rfl Try.isAgg3 (v := iv x17.Ballot) ((Round.get_Ballot (Get.here _)).off (by rfl))) ?_
 refine Lst.r (Ev.lss rfl rfl) ?_
 refine Lst.r (Ev.move rfl) ?_
 obtain ⟨o22, H, HKo22⟩ := bind_some H
 refine Lst.join (σ := Bool) 4 (fun y23 => [(1, pv b1 0), (3, iv (a0.Voters.length : Int)), (4, iv (i14 : Int)), (5, pv b20 0), (33, Sl.v s_a0_1), (34, iv (a0.Rounds.length : Int)), (35, iv (i14 : Int)), (47, .bool y23)]) (fun y23 => (.blk b20 (enc x17) 91) :: (.blk b1 (enc (SynodR.mk a0 s_a0_0 s_a0_1)) 44) :: L) (fun _ y23 => y23 = o22) ?_ ?_
 ·rcases Bool.eq_false_or_eq_true (decide (x17.Ballot < (1 : Int))) with hb24 | hb24
  ·replace H := ite_t hb24 H
   refine Lst.skip rfl rfl rfl hb24 rfl (by decide) ?_
   refine Lst.skip rfl rfl rfl hb24 rfl (by decide) ?_
   refine Lst.skip rfl rfl rfl hb24 rfl (by decide) ?_
   refine Lst.r (Ev.pickT rfl hb24 rfl) ?_
   refine Lst.nil ?_
   exact At.meet true (FLe.refl _) ⟨rfl, rfl, rfl, rfl, rfl, rfl, rfl, rfl, trivial⟩ rfl (some_inj H)
  replace H := ite_f hb24 H
  refine Lst.rG hb24 (Ev.fieldAddr (off' := 0) rfl Try.runUnderlying91 rfl Try.sizeOf3 rfl rfl) ?_
  refine Lst.rG hb24 (Ev.load (i := 0) rfl rfl Try.isAgg3 (v := iv x17.Ballot) ((Round.get_Ballot (Get.here _)).off (by rfl))) ?_
  refine Lst.rG hb24 (Ev.gtr rfl rfl) ?_
  refine Lst.r (Ev.pickF rfl hb24 rfl) ?_
  refine Lst.nil ?_
  exact At.meet (decide (x17.Ballot > (16777215 : Int))) (FLe.refl _) ⟨rfl, rfl, rfl, rfl, rfl, rfl, rfl, rfl, trivial⟩ rfl (some_inj H)
 rintro F25 y23 hF26 hy
 subst hy
 refine Lst.as (e' := [(1, pv b1 0), (3, iv (a0.Voters.length : Int)), (4, iv (i14 : Int)), (5, pv b20 0), (33, Sl.v s_a0_1), (34, iv (a0.Rounds.length : Int)), (35, iv (i14 : Int)), (47, .bool y23)]) (L' := (.blk b20 (enc x17) 91) :: (.blk b1 (enc (SynodR.mk a0 s_a0_0 s_a0_1)) 44) :: L) ⟨rfl, rfl, rfl, rfl, rfl, rfl, rfl, rfl, trivial⟩ rfl ?_
 replace H := HKo22
 refine Lst.r (Ev.move rfl) ?_
 obtain ⟨o27, H, HKo27⟩ := bind_some H
 refine Lst.join (σ := Bool) 4 (fun y28 => [(1, pv b1 0), (3, iv (a0.Voters.length : Int)), (4, iv (i14 : Int)), (5, pv b20 0), (33, Sl.v s_a0_1), (34, iv (a0.Rounds.length : Int)), (35, iv (i14 : Int)), (52, .bool y28)]) (fun y28 => (.blk b20 (enc x17) 91) :: (.blk b1 (enc (SynodR.mk a0 s_a0_0 s_a0_1)) 44) :: L) (fun _ y28 => y28 = o27) ?_ ?_
 ·rcases Bool.eq_false_or_eq_true y23 with hb29 | hb29
  ·replace H := ite_t hb29 H
   refine Lst.skip rfl rfl rfl hb29 rfl (by decide) ?_
   refine Lst.skip rfl rfl rfl hb29 rfl (by decide) ?_
   refine Lst.skip rfl rfl rfl hb29 rfl (by decide) ?_
   refine Lst.r (Ev.pickT rfl hb29 rfl) ?_
   refine Lst.nil ?_
   exact At.meet true (FLe.refl _) ⟨rfl, rfl, rfl, rfl, rfl, rfl, rfl, rfl, trivial⟩ rfl (some_inj H)
  replace H := ite_f hb29 H
  refine Lst.rG hb29 (Ev.fieldAddr (off' := 1) rfl Try.runUnderlying91 rfl Try.sizeOf3 rfl rfl) ?_
  refine Lst.rG hb29 (Ev.load (i := 0) rfl rfl Try.isAgg3 (v := iv x17.Best) ((Round.get_Best (Get.here _)).off (by rfl))) ?_
  refine Lst.rG hb29 (Ev.lss rfl rfl) ?_
  refine Lst.r (Ev.pickF rfl hb29 rfl) ?_
  refine Lst.nil ?_
  exact At.meet (decide (x17.Best < (0 : Int))) (FLe.refl _) ⟨rfl, rfl, rfl, rfl, rfl, rfl, rfl, rfl, trivial⟩ rfl (some_inj H)
 rintro F30 y28 hF31 hy
 subst hy
 refine Lst.as (e' := [(1, pv b1 0), (3, iv (a0.Voters.length : Int)), (4, iv (i14 : Int)), (5, pv b20 0), (33, Sl.v s_a0_1), (34, iv (a0.Rounds.length : Int)), (35, iv (i14 : Int)), (52, .bool y28)]) (L' := (.blk b20 (enc x17) 91) :: (.blk b1 (enc (SynodR.mk a0 s_a0_0 s_a0_1)) 44) :: L) ⟨rfl, rfl, rfl, rfl, rfl, rfl, rfl, rfl, trivial⟩ rfl ?_
 replace H := HKo27
 refine Lst.r (Ev.move rfl) ?_
 obtain ⟨o32, H, HKo32⟩ := bind_some H
 refine Lst.join (σ := Bool) 6 (fun y33 => [(1, pv b1 0), (3, iv (a0.Voters.length : Int)), (4, iv (i14 : Int)), (5, pv b20 0), (33, Sl.v s_a0_1), (34, iv (a0.Rounds.length : Int)), (35, iv (i14 : Int)), (59, .bool y33)]) (fun y33 => (.blk b20 (enc x17) 91) :: (.blk b1 (enc (SynodR.mk a0 s_a0_0 s_a0_1)) 44) :: L) (fun _ y33 => y33 = o32) ?_ ?_
 ·rcases Bool.eq_false_or_eq_true y28 with hb34 | hb34
  ·replace H := ite_t hb34 H
   refine Lst.skip rfl rfl rfl hb34 rfl (by decide) ?_
   refine Lst.skip rfl rfl rfl hb34 rfl (by decide) ?_
   refine Lst.skip rfl rfl rfl hb34 rfl (by decide) ?_
   refine Lst.skip rfl rfl rfl hb34 rfl (by decide) ?_
   refine Lst.skip rfl rfl rfl hb34 rfl (by decide) ?_
   refine Lst.r (Ev.pickT rfl hb34 rfl) ?_
   refine Lst.nil ?_
   exact At.meet true (FLe.refl _) ⟨rfl, rfl, rfl, rfl, rfl, rfl, rfl, rfl, trivial⟩ rfl (some_inj H)
  replace H := ite_f hb34 H
  refine Lst.rG hb34 (Ev.fieldAddr (off' := 1) rfl Try.runUnderlying91 rfl Try.sizeOf3 rfl rfl) ?_
  refine Lst.rG hb34 (Ev.load (i := 0) rfl rfl Try.isAgg3 (v := iv x17.Best) ((Round.get_Best (Get.here _)).off (by rfl))) ?_
  refine Lst.rG hb34 (Ev.fieldAddr (off' := 0) rfl Try.runUnderlying91 rfl Try.sizeOf3 rfl rfl) ?_
  refine Lst.rG hb34 (Ev.load (i := 0) rfl rfl Try.isAgg3 (v := iv x17.Ballot) ((Round.get_Ballot (Get.here _)).off (by rfl))) ?_
  refine Lst.rG hb34 (Ev.geq rfl rfl) ?_
  refine Lst.r (Ev.pickF rfl hb34 rfl) ?_
  refine Lst.nil ?_
  exact At.meet (decide (x17.Best ≥ x17.Ballot)) (FLe.refl _) ⟨rfl, rfl, rfl, rfl, rfl, rfl, rfl, rfl, trivial⟩ rfl (some_inj H)
 rintro F35 y33 hF36 hy
 subst hy
 refine Lst.as (e' := [(1, pv b1 0), (3, iv (a0.Voters.length : Int)), (4, iv (i14 : Int)), (5, pv b20 0), (33, Sl.v s_a0_1), (34, iv (a0.Rounds.length : Int)), (35, iv (i14 : Int)), (59, .bool y33)]) (L' := (.blk b20 (enc x17) 91) :: (.blk b1 (enc (SynodR.mk a0 s_a0_0 s_a0_1)) 44) :: L) ⟨rfl, rfl, rfl, rfl, rfl, rfl, rfl, rfl, trivial⟩ rfl ?_
 replace H := HKo32
 refine Lst.nil ?_
 refine At.then ?_
 rcases Bool.eq_false_or_eq_true y33 with hb37 | hb37
 ·replace H := ite_t hb37 H
  refine Cd.condT rfl hb37 ?_
  refine Cd.seq ?_
  refine Cd.region ?_
  refine Lst.r (Ev.assign rfl) ?_
  refine Lst.nil ?_
  refine At.then ?_
  have H := hret14 _ (some_inj H).symm
  subst H
  replace H := HKl14
  obtain rfl := some_inj H
  refine Cd.ret ?_
  refine At.then_ret ?_
  refine At.in_ret ?_
  refine At.then_ret ?_
  refine At.then_ret ?_
  refine At.in_ret ?_
  refine At.then_ret ?_
  exact At.ret1 rfl (Res.tmp rfl) (FLe.trans (FLe.trans (FLe.trans (FLe.trans (FLe.trans hF7 hF12) hF16) hF26) hF31) hF36) (sc1 (sc1 (.refl _))) ⟨rfl, rfl⟩
 replace H := ite_f hb37 H
 refine Cd.condF rfl hb37 ?_
 refine Cd.skip ?_
 refine At.then ?_
 refine Cd.seq ?_
 refine Cd.quiet (by kernel_rfl) (by kernel_rfl) ?_
 refine Qt.r (Ev.fieldAddr (off' := 2) rfl Try.runUnderlying91 rfl Try.sizeOf5 rfl rfl) ?_
 refine Qt.r (Ev.load (i := 0) rfl rfl Try.isAgg5 (v := .int .u8 x17.Promised.toNat) ((Round.get_Promised (Get.here _)).off (by rfl))) ?_
 refine Qt.r (Ev.convIS (j := (x17.Promised.toNat : Int)) rfl Try.runUnderlying5 Try.runUnderlying3 (w64_id (by omega) (by omega))) ?_
 refine Qt.r (Ev.move rfl) ?_
 obtain ⟨n38, h39, H⟩ := bind_some H
 refine Qt.r (Ev.shl64 (i := (1 : Int)) (m := n38) rfl (congrArg some (congrArg (Value.int .i64) (cnt_some h39)))) ?_
 refine Qt.r (Ev.geq rfl rfl) ?_
 refine Qt.r (Ev.move rfl) ?_
 obtain ⟨o41, H, HKo41⟩ := bind_some H
 refine Qt.join (σ := Bool) 7 (fun y42 => [(1, pv b1 0), (3, iv (a0.Voters.length : Int)), (4, iv (i14 : Int)), (5, pv b20 0), (33, Sl.v s_a0_1), (34, iv (a0.Rounds.length : Int)), (35, iv (i14 : Int)), (73, .bool y42)]) (fun y42 => y42 = o41) ?_ ?_
 ·rcases Bool.eq_false_or_eq_true (decide ((x17.Promised.toNat : Int) ≥ (w64 ((1 : Int) * 2 ^ (min n38 64))))) with hb43 | hb43
  ·replace H := ite_t hb43 H
   refine Qt.skip rfl rfl rfl hb43 rfl (by decide) ?_
   refine Qt.skip rfl rfl rfl hb43 rfl (by decide) ?_
   refine Qt.skip rfl rfl rfl hb43 rfl (by decide) ?_
   refine Qt.skip rfl rfl rfl hb43 rfl (by decide) ?_
   refine Qt.skip rfl rfl rfl hb43 rfl (by decide) ?_
   refine Qt.skip rfl rfl rfl hb43 rfl (by decide) ?_
   refine Qt.r (Ev.pickT rfl hb43 rfl) ?_
   exact Qt.meet true ⟨rfl, rfl, rfl, rfl, rfl, rfl, rfl, rfl, trivial⟩ (some_inj H)
  replace H := ite_f hb43 H
  refine Qt.rG hb43 (Ev.fieldAddr (off' := 3) rfl Try.runUnderlying91 rfl Try.sizeOf5 rfl rfl) ?_
  refine Qt.rG hb43 (Ev.load (i := 0) rfl rfl Try.isAgg5 (v := .int .u8 x17.Voted.toNat) ((Round.get_Voted (Get.here _)).off (by rfl))) ?_
  refine Qt.rG hb43 (Ev.convIS (j := (x17.Voted.toNat : Int)) rfl Try.runUnderlying5 Try.runUnderlying3 (w64_id (by omega) (by omega))) ?_
  refine Qt.rG hb43 (Ev.move rfl) ?_
  obtain ⟨n44, h45, H⟩ := bind_some H
  refine Qt.rG hb43 (Ev.shl64 (i := (1 : Int)) (m := n44) rfl (congrArg some (congrArg (Value.int .i64) (cnt_some h45)))) ?_
  refine Qt.rG hb43 (Ev.geq rfl rfl) ?_
  refine Qt.r (Ev.pickF rfl hb43 rfl) ?_
  exact Qt.meet (decide ((x17.Voted.toNat : Int) ≥ (w64 ((1 : Int) * 2 ^ (min n44 64))))) ⟨rfl, rfl, rfl, rfl, rfl, rfl, rfl, rfl, trivial⟩ (some_inj H)
 rintro y42 hy
 subst hy
 refine Qt.as (e' := [(1, pv b1 0), (3, iv (a0.Voters.length : Int)), (4, iv (i14 : Int)), (5, pv b20 0), (33, Sl.v s_a0_1), (34, iv (a0.Rounds.length : Int)), (35, iv (i14 : Int)), (73, .bool y42)]) ⟨rfl, rfl, rfl, rfl, rfl, rfl, rfl, rfl, trivial⟩ ?_
 replace H := HKo41
 refine Qt.r (Ev.move rfl) ?_
 obtain ⟨o47, H, HKo47⟩ := bind_some H
 refine Qt.join (σ := Bool) 9 (fun y48 => [(1, pv b1 0), (3, iv (a0.Voters.length : Int)), (4, iv (i14 : Int)), (5, pv b20 0), (33, Sl.v s_a0_1), (34, iv (a0.Rounds.length : Int)), (35, iv (i14 : Int)), (83, .bool y48)]) (fun y48 => y48 = o47) ?_ ?_
 ·rcases Bool.eq_false_or_eq_true y42 with hb49 | hb49
  ·replace H := ite_t hb49 H
   refine Qt.skip rfl rfl rfl hb49 rfl (by decide) ?_
   refine Qt.skip rfl rfl rfl hb49 rfl (by decide) ?_
   refine Qt.skip rfl rfl rfl hb49 rfl (by decide) ?_
   refine Qt.skip rfl rfl rfl hb49 rfl (by decide) ?_
   refine Qt.skipU rfl rfl rfl rfl (by decide) ?_
   refine Qt.skipU rfl rfl rfl rfl (by decide) ?_
   refine Qt.skipU rfl rfl rfl rfl (by decide) ?_
   refine Qt.skip rfl rfl rfl hb49 rfl (by decide) ?_
   refine Qt.r (Ev.pickT rfl hb49 rfl) ?_
   exact Qt.meet true ⟨rfl, rfl, rfl, rfl, rfl, rfl, rfl, rfl, trivial⟩ (some_inj H)
  replace H := ite_f hb49 H
  refine Qt.rG hb49 (Ev.fieldAddr (off' := 3) rfl Try.runUnderlying91 rfl Try.sizeOf5 rfl rfl) ?_
  refine Qt.rG hb49 (Ev.load (i := 0) rfl rfl Try.isAgg5 (v := .int .u8 x17.Voted.toNat) ((Round.get_Voted (Get.here _)).off (by rfl))) ?_
  refine Qt.rG hb49 (Ev.gtr rfl rfl) ?_
  refine Qt.rG hb49 (Ev.move rfl) ?_
  obtain ⟨o50, H, HKo50⟩ := bind_some H
  refine Qt.join (σ := Bool) 4 (fun y51 => [(1, pv b1 0), (3, iv (a0.Voters.length : Int)), (4, iv (i14 : Int)), (5, pv b20 0), (33, Sl.v s_a0_1), (34, iv (a0.Rounds.length : Int)), (35, iv (i14 : Int)), (74, .bool y42), (82, .bool y51)]) (fun y51 => y51 = o50) ?_ ?_
  ·rcases (Bool.eq_false_or_eq_true (decide ((x17.Voted.toNat : Int) > ((0 : BitVec 8).toNat : Int)))).symm with hb52 | hb52
   ·replace H := ite_f hb52 H
    refine Qt.skip rfl rfl rfl hb52 rfl (by decide) ?_
    refine Qt.skip rfl rfl rfl hb52 rfl (by decide) ?_
    refine Qt.skip rfl rfl rfl hb52 rfl (by decide) ?_
    refine Qt.rG hb49 (Ev.pickF rfl hb52 rfl) ?_
    exact Qt.meet false ⟨rfl, rfl, rfl, rfl, rfl, rfl, rfl, rfl, rfl, trivial⟩ (some_inj H)
   replace H := ite_t hb52 H
   refine Qt.rG hb52 (Ev.fieldAddr (off' := 4) rfl Try.runUnderlying91 rfl Try.sizeOf4 rfl rfl) ?_
   refine Qt.rG hb52 (Ev.load (i := 0) rfl rfl Try.isAgg4 (v := .bool x17.Asked) ((Round.get_Asked (Get.here _)).off (by rfl))) ?_
   refine Qt.rG hb52 (Ev.not rfl) ?_
   refine Qt.rG hb49 (Ev.pickT rfl hb52 rfl) ?_
   exact Qt.meet (!x17.Asked) ⟨rfl, rfl, rfl, rfl, rfl, rfl, rfl, rfl, rfl, trivial⟩ (some_inj H)
  rintro y51 hy
  subst hy
  refine Qt.as (e' := [(1, pv b1 0), (3, iv (a0.Voters.length : Int)), (4, iv (i14 : Int)), (5, pv b20 0), (33, Sl.v s_a0_1), (34, iv (a0.Rounds.length : Int)), (35, iv (i14 : Int)), (74, .bool y42), (82, .bool y51)]) ⟨rfl, rfl, rfl, rfl, rfl, rfl, rfl, rfl, rfl, trivial⟩ ?_
  replace H := HKo50
  refine Qt.r (Ev.pickF rfl hb49 rfl) ?_
  exact Qt.meet y51 ⟨rfl, rfl, rfl, rfl, rfl, rfl, rfl, rfl, trivial⟩ (some_inj H)
 rintro y48 hy
 subst hy
 refine Qt.as (e' := [(1, pv b1 0), (3, iv (a0.Voters.length : Int)), (4, iv (i14 : Int)), (5, pv b20 0), (33, Sl.v s_a0_1), (34, iv (a0.Rounds.length : Int)), (35, iv (i14 : Int)), (83, .bool y48)]) ⟨rfl, rfl, rfl, rfl, rfl, rfl, rfl, rfl, trivial⟩ ?_
 replace H := HKo47
 refine Qt.r (Ev.move rfl) ?_
 obtain ⟨o53, H, HKo53⟩ := bind_some H
 refine Qt.join (σ := Bool) 12 (fun y54 => [(1, pv b1 0), (3, iv (a0.Voters.length : Int)), (4, iv (i14 : Int)), (5, pv b20 0), (33, Sl.v s_a0_1), (34, iv (a0.Rounds.length : Int)), (35, iv (i14 : Int)), (96, .bool y54)]) (fun y54 => y54 = o53) ?_ ?_
 ·rcases Bool.eq_false_or_eq_true y48 with hb55 | hb55
  ·replace H := ite_t hb55 H
   refine Qt.skip rfl rfl rfl hb55 rfl (by decide) ?_
   refine Qt.skip rfl rfl rfl hb55 rfl (by decide) ?_
   refine Qt.skip rfl rfl rfl hb55 rfl (by decide) ?_
   refine Qt.skipU rfl rfl rfl rfl (by decide) ?_
   refine Qt.skipU rfl rfl rfl rfl (by decide) ?_
   refine Qt.skipU rfl rfl rfl rfl (by decide) ?_
   refine Qt.skipU rfl rfl rfl rfl (by decide) ?_
   refine Qt.skipU rfl rfl rfl rfl (by decide) ?_
   refine Qt.skipU rfl rfl rfl rfl (by decide) ?_
   refine Qt.skipU rfl rfl rfl rfl (by decide) ?_
   refine Qt.skip rfl rfl rfl hb55 rfl (by decide) ?_
   refine Qt.r (Ev.pickT rfl hb55 rfl) ?_
   exact Qt.meet true ⟨rfl, rfl, rfl, rfl, rfl, rfl, rfl, rfl, trivial⟩ (some_inj H)
  replace H := ite_f hb55 H
  refine Qt.rG hb55 (Ev.fieldAddr (off' := 4) rfl Try.runUnderlying91 rfl Try.sizeOf4 rfl rfl) ?_
  refine Qt.rG hb55 (Ev.load (i := 0) rfl rfl Try.isAgg4 (v := .bool x17.Asked) ((Round.get_Asked (Get.here _)).off (by rfl))) ?_
  refine Qt.rG hb55 (Ev.move rfl) ?_
  obtain ⟨o56, H, HKo56⟩ := bind_some H
  refine Qt.join (σ := Bool) 8 (fun y57 => [(1, pv b1 0), (3, iv (a0.Voters.length : Int)), (4, iv (i14 : Int)), (5, pv b20 0), (33, Sl.v s_a0_1), (34, iv (a0.Rounds.length : Int)), (35, iv (i14 : Int)), (84, .bool y48), (95, .bool y57)]) (fun y57 => y57 = o56) ?_ ?_
  ·rcases (Bool.eq_false_or_eq_true x17.Asked).symm with hb58 | hb58
   ·replace H := ite_f hb58 H
    refine Qt.skip rfl rfl rfl hb58 rfl (by decide) ?_
    refine Qt.skip rfl rfl rfl hb58 rfl (by decide) ?_
    refine Qt.skip rfl rfl rfl hb58 rfl (by decide) ?_
    refine Qt.skip rfl rfl rfl hb58 rfl (by decide) ?_
    refine Qt.skip rfl rfl rfl hb58 rfl (by decide) ?_
    refine Qt.skip rfl rfl rfl hb58 rfl (by decide) ?_
    refine Qt.skip rfl rfl rfl hb58 rfl (by decide) ?_
    refine Qt.rG hb55 (Ev.pickF rfl hb58 rfl) ?_
    exact Qt.meet false ⟨rfl, rfl, rfl, rfl, rfl, rfl, rfl, rfl, rfl, trivial⟩ (some_inj H)
   replace H := ite_t hb58 H
   refine Qt.rG hb58 (Ev.fieldAddr (off' := 2) rfl Try.runUnderlying91 rfl Try.sizeOf5 rfl rfl) ?_
   refine Qt.rG hb58 (Ev.load (i := 0) rfl rfl Try.isAgg5 (v := .int .u8 x17.Promised.toNat) ((Round.get_Promised (Get.here _)).off (by rfl))) ?_
   refine Qt.rG hb58 (Ev.convTo16 rfl Try.runUnderlying5 Try.runUnderlying23) ?_
   obtain ⟨r59, h60, H⟩ := bind_some H
   refine Qt.callG rfl rfl rfl hb58 rfl (by decide) (vs := [.int .u16 (BitVec.ofInt 16 (x17.Promised.toNat : Int)).toNat]) ⟨rfl, trivial⟩ Try.call45 (partref_size_sim h60 w0 _ M _ (sc2 hM)) ?_
   refine Qt.rG hb58 (Ev.mul rfl rfl) ?_
   refine Qt.rG hb58 (Ev.move rfl) ?_
   refine Qt.rG hb58 (Ev.leq rfl rfl) ?_
   refine Qt.rG hb55 (Ev.pickT rfl hb58 rfl) ?_
   exact Qt.meet (decide ((w64 ((2 : Int) * r59)) ≤ (a0.Voters.length : Int))) ⟨rfl, rfl, rfl, rfl, rfl, rfl, rfl, rfl, rfl, trivial⟩ (some_inj H)
  rintro y57 hy
  subst hy
  refine Qt.as (e' := [(1, pv b1 0), (3, iv (a0.Voters.length : Int)), (4, iv (i14 : Int)), (5, pv b20 0), (33, Sl.v s_a0_1), (34, iv (a0.Rounds.length : Int)), (35, iv (i14 : Int)), (84, .bool y48), (95, .bool y57)]) ⟨rfl, rfl, rfl, rfl, rfl, rfl, rfl, rfl, rfl, trivial⟩ ?_
  replace H := HKo56
  refine Qt.r (Ev.pickF rfl hb55 rfl) ?_
  exact Qt.meet y57 ⟨rfl, rfl, rfl, rfl, rfl, rfl, rfl, rfl, trivial⟩ (some_inj H)
 rintro y54 hy
 subst hy
 refine Qt.as (e' := [(1, pv b1 0), (3, iv (a0.Voters.length : Int)), (4, iv (i14 : Int)), (5, pv b20 0), (33, Sl.v s_a0_1), (34, iv (a0.Rounds.length : Int)), (35, iv (i14 : Int)), (96, .bool y54)]) ⟨rfl, rfl, rfl, rfl, rfl, rfl, rfl, rfl, trivial⟩ ?_
 replace H := HKo53
 refine Qt.r (Ev.assign rfl) ?_
 refine Qt.done ?_
 refine At.then ?_
 refine Cd.seq ?_
 refine Cd.seq ?_
 refine Cd.region ?_
 refine Lst.r (Ev.fieldAddr (off' := 1) rfl Try.runUnderlying44 rfl Try.sizeOf42 rfl rfl) ?_
 refine Lst.r (Ev.load (i := 1) rfl rfl Try.isAgg42 (v := Sl.v s_a0_1) ((SynodR.get_Rounds (Get.here _)).off (by rfl))) ?_
 refine Lst.r (Ev.move rfl) ?_
 obtain ⟨m63, h64, H⟩ := bind_some H
 obtain ⟨g65, gl66⟩ := cutL_some h64
 try dsimp only at g65
 have hq67 : Rd w0 F M (s_a0_1.cut (0 : Int).toNat ((i14 : Int) : Int).toNat 6) m63 := by rw [← gl66]; exact Rd.cut (by decide) hs_a0_1 (by omega) (by omega)
 refine Lst.r (Ev.cut (α := Round) (xs := a0.Rounds) (i := 0) (j := (i14 : Int)) rfl rfl rfl Try.runUnderlying42 Try.sizeOf91 rfl (by decide) (hs_a0_1.mono (FLe.trans (FLe.trans (FLe.trans (FLe.trans (FLe.trans hF7 hF12) hF16) hF26) hF31) hF36) (sc2 hM)) g65.1 g65.2.1 g65.2.2) ?_
 refine Lst.r (Ev.lenS (α := Round) (xs := m63) (by decide) rfl rfl Try.runUnderlying42 (hq67.mono (FLe.trans (FLe.trans (FLe.trans (FLe.trans (FLe.trans hF7 hF12) hF16) hF26) hF31) hF36) (sc2 hM))) ?_
 refine Lst.r (Ev.move rfl) ?_
 refine Lst.nil ?_
 refine At.then ?_
 refine Cd.block ?_
 refine Cd.bound (Rd.le (α := Round) (xs := m63) (by decide) (hq67.mono (FLe.trans (FLe.trans (FLe.trans (FLe.trans (FLe.trans hF7 hF12) hF16) hF26) hF31) hF36) (sc2 hM))) (fun hN83 => ?_)
 obtain ⟨ol68, H, HKl68⟩ := bind_some H
 refine Cd.loop (σ := Nat × Nat × Bool) (fun (i68, k68, y69) => [(1, pv b1 0), (3, iv (a0.Voters.length : Int)), (5, pv b20 0), (6, .bool y69), (33, Sl.v s_a0_1), (34, iv (a0.Rounds.length : Int)), (35, iv (i14 : Int)), (100, Sl.v (s_a0_1.cut (0 : Int).toNat ((i14 : Int) : Int).toNat 6)), (101, iv (m63.length : Int)), (102, iv (i68 : Int))]) (fun (i68, k68, y69) => (.blk b20 (enc x17) 91) :: (.blk b1 (enc (SynodR.mk a0 s_a0_0 s_a0_1)) 44) :: L) (fun _ => (fun (i68, k68, y69) => rangeF (partref_SynodErr_B2 x17 m63) k68 i68 y69 = some ol68 ∧ i68 + k68 = m63.length)) (fun (i68, k68, y69) => k68) (0, m63.length, y54) ⟨rfl, rfl, rfl, rfl, rfl, rfl, rfl, rfl, rfl, rfl, trivial⟩ rfl ⟨H, by omega⟩ ?_
 rintro F70 ⟨i68, k68, y69⟩ hF71 ⟨H, hik68⟩
 refine Cd.as (e' := [(1, pv b1 0), (3, iv (a0.Voters.length : Int)), (5, pv b20 0), (6, .bool y69), (33, Sl.v s_a0_1), (34, iv (a0.Rounds.length : Int)), (35, iv (i14 : Int)), (100, Sl.v (s_a0_1.cut (0 : Int).toNat ((i14 : Int) : Int).toNat 6)), (101, iv (m63.length : Int)), (102, iv (i68 : Int))]) (L' := (.blk b20 (enc x17) 91) :: (.blk b1 (enc (SynodR.mk a0 s_a0_0 s_a0_1)) 44) :: L) ⟨rfl, rfl, rfl, rfl, rfl, rfl, rfl, rfl, rfl, rfl, trivial⟩ rfl ?_
 rcases k68 with _ | k68
 ·have hc68 : decide ((i68 : Int) < (m63.length : Int)) = false := decide_eq_false (by omega)
  replace H := rangeF_end H
  refine Cd.seq ?_
  refine Cd.region ?_
  refine Lst.r (Ev.lss rfl rfl) ?_
  refine Lst.nil ?_
  refine At.then ?_
  refine Cd.seq ?_
  refine Cd.condF rfl hc68 ?_
  refine Cd.exit ?_
  refine At.then_exit ?_
  refine At.then_exit ?_
  refine At.in_exit ?_
  subst H
  replace H := HKl68
  refine At.then ?_
  refine Cd.seq ?_
  refine Cd.region ?_
  refine Lst.r (Ev.move rfl) ?_
  refine Lst.nil ?_
  refine At.then ?_
  rcases Bool.eq_false_or_eq_true y69 with hb82 | hb82
  ·replace H := ite_t hb82 H
   refine Cd.condT rfl hb82 ?_
   refine Cd.seq ?_
   refine Cd.region ?_
   refine Lst.r (Ev.assign rfl) ?_
   refine Lst.nil ?_
   refine At.then ?_
   have H := hret14 _ (some_inj H).symm
   subst H
   replace H := HKl14
   obtain rfl := some_inj H
   refine Cd.ret ?_
   refine At.in_ret ?_
   refine At.then_ret ?_
   refine At.then_ret ?_
   refine At.in_ret ?_
   refine At.then_ret ?_
   exact At.ret1 rfl (Res.tmp rfl) (FLe.trans (FLe.trans (FLe.trans (FLe.trans (FLe.trans (FLe.trans hF7 hF12) hF16) hF26) hF31) hF36) hF71) (sc1 (sc1 (.refl _))) ⟨rfl, rfl⟩
  replace H := ite_f hb82 H
  refine Cd.condF rfl hb82 ?_
  refine Cd.skip ?_
  refine At.in_normal ?_
  refine At.then ?_
  refine Cd.region ?_
  refine Lst.r (Ev.incr (by omega) rfl rfl) ?_
  refine Lst.r (Ev.move rfl) ?_
  refine Lst.nil ?_
  refine At.less (L' := (.blk b1 (enc (SynodR.mk a0 s_a0_0 s_a0_1)) 44) :: L) (sc1 (sk1 (.refl _))) ?_
  exact At.meet (i14 + 1, k14, ()) (FLe.trans (FLe.trans (FLe.trans (FLe.trans hF16 hF26) hF31) hF36) hF71) ⟨rfl, rfl, rfl, rfl, rfl, trivial⟩ rfl ⟨⟨hgo14 _ (some_inj H).symm, by omega⟩, Nat.lt_succ_self _⟩
 have hc68 : decide ((i68 : Int) < (m63.length : Int)) = true := decide_eq_true (by omega)
 obtain ⟨c68, H, hgo68⟩ := rangeF_go H
 unfold partref_SynodErr_B2 at H
 try dsimp only at H
 refine Cd.seq ?_
 refine Cd.region ?_
 refine Lst.r (Ev.lss rfl rfl) ?_
 refine Lst.nil ?_
 refine At.then ?_
 refine Cd.seq ?_
 refine Cd.condT rfl hc68 ?_
 refine Cd.skip ?_
 refine At.then ?_
 refine Cd.seq ?_
 refine Cd.block ?_
 refine Cd.seq ?_
 refine Cd.region ?_
 obtain ⟨x72, h73, H⟩ := bind_some H
 have g74 := lat_some h73
 refine Lst.r (Ev.indexS (α := Round) (xs := m63) rfl rfl Try.runUnderlying42 Try.sizeOf91 rfl (by decide) (hq67.mono (FLe.trans (FLe.trans (FLe.trans (FLe.trans (FLe.trans (FLe.trans hF7 hF12) hF16) hF26) hF31) hF36) hF71) (sc2 hM)) g74.1 g74.2.1) ?_
 refine Lst.r (Ev.loadSA (α := Round) rfl (hq67.mono (FLe.trans (FLe.trans (FLe.trans (FLe.trans (FLe.trans (FLe.trans hF7 hF12) hF16) hF26) hF31) hF36) hF71) (sc2 hM)) Try.isAgg91 Try.sizeOf91 (ch := enc x72) (Enc.len _) (by decide) ((Get.elemN (s := 6) (x := x72) rfl g74.2.2 (Get.here _)).off (by omega))) ?_
 refine Lst.alloc (cs := enc Round.zero) rfl rfl (by decide) Try.zeroValue91 rfl (fun b75 => ?_)
 refine Lst.store (i := 0) rfl rfl rfl rfl rfl Try.sizeOf91 (vs := enc x72) rfl (Enc.len _) (Enc.one _) (cs' := enc x72) (Put.here ((Enc.len _).trans (Enc.len _).symm)) (L' := (.blk b75 (enc x72) 91) :: (.blk b20 (enc x17) 91) :: (.blk b1 (enc (SynodR.mk a0 s_a0_0 s_a0_1)) 44) :: L) rfl ?_
 refine Lst.nil ?_
 refine At.then ?_
 refine Cd.region ?_
 refine Lst.r (Ev.move rfl) ?_
 refine Lst.r (Ev.move rfl) ?_
 obtain ⟨o77, H, HKo77⟩ := bind_some H
 refine Lst.join (σ := Bool) 6 (fun y78 => [(1, pv b1 0), (3, iv (a0.Voters.length : Int)), (5, pv b20 0), (6, .bool y69), (33, Sl.v s_a0_1), (34, iv (a0.Rounds.length : Int)), (35, iv (i14 : Int)), (100, Sl.v (s_a0_1.cut (0 : Int).toNat ((i14 : Int) : Int).toNat 6)), (101, iv (m63.length : Int)), (102, iv (i68 : Int)), (113, .bool y78)]) (fun y78 => (.blk b75 (enc x72) 91) :: (.blk b20 (enc x17) 91) :: (.blk b1 (enc (SynodR.mk a0 s_a0_0 s_a0_1)) 44) :: L) (fun _ y78 => y78 = o77) ?_ ?_
 ·rcases Bool.eq_false_or_eq_true y69 with hb79 | hb79
  ·replace H := ite_t hb79 H
   refine Lst.skip rfl rfl rfl hb79 rfl (by decide) ?_
   refine Lst.skip rfl rfl rfl hb79 rfl (by decide) ?_
   refine Lst.skip rfl rfl rfl hb79 rfl (by decide) ?_
   refine Lst.skip rfl rfl rfl hb79 rfl (by decide) ?_
   refine Lst.skip rfl rfl rfl hb79 rfl (by decide) ?_
   refine Lst.r (Ev.pickT rfl hb79 rfl) ?_
   refine Lst.nil ?_
   exact At.meet true (FLe.refl _) ⟨rfl, rfl, rfl, rfl, rfl, rfl, rfl, rfl, rfl, rfl, rfl, trivial⟩ rfl (some_inj H)
  replace H := ite_f hb79 H
  refine Lst.rG hb79 (Ev.fieldAddr (off' := 0) rfl Try.runUnderlying91 rfl Try.sizeOf3 rfl rfl) ?_
  refine Lst.rG hb79 (Ev.load (i := 0) rfl rfl Try.isAgg3 (v := iv x72.Ballot) ((Round.get_Ballot (Get.here _)).off (by rfl))) ?_
  refine Lst.rG hb79 (Ev.fieldAddr (off' := 0) rfl Try.runUnderlying91 rfl Try.sizeOf3 rfl rfl) ?_
  refine Lst.rG hb79 (Ev.load (i := 1) rfl rfl Try.isAgg3 (v := iv x17.Ballot) ((Round.get_Ballot (Get.here _)).off (by rfl))) ?_
  refine Lst.rG hb79 (Ev.eql rfl rfl) ?_
  refine Lst.r (Ev.pickF rfl hb79 rfl) ?_
  refine Lst.nil ?_
  exact At.meet (x72.Ballot == x17.Ballot) (FLe.refl _) ⟨rfl, rfl, rfl, rfl, rfl, rfl, rfl, rfl, rfl, rfl, rfl, trivial⟩ rfl (some_inj H)
 rintro F80 y78 hF81 hy
 subst hy
 refine Lst.as (e' := [(1, pv b1 0), (3, iv (a0.Voters.length : Int)), (5, pv b20 0), (6, .bool y69), (33, Sl.v s_a0_1), (34, iv (a0.Rounds.length : Int)), (35, iv (i14 : Int)), (100, Sl.v (s_a0_1.cut (0 : Int).toNat ((i14 : Int) : Int).toNat 6)), (101, iv (m63.length : Int)), (102, iv (i68 : Int)), (113, .bool y78)]) (L' := (.blk b75 (enc x72) 91) :: (.blk b20 (enc x17) 91) :: (.blk b1 (enc (SynodR.mk a0 s_a0_0 s_a0_1)) 44) :: L) ⟨rfl, rfl, rfl, rfl, rfl, rfl, rfl, rfl, rfl, rfl, rfl, trivial⟩ rfl ?_
 replace H := HKo77
 refine Lst.r (Ev.assign rfl) ?_
 refine Lst.nil ?_
 refine At.in_normal ?_
 refine At.then ?_
 refine Cd.region ?_
 refine Lst.r (Ev.incr (by omega) rfl rfl) ?_
 refine Lst.r (Ev.move rfl) ?_
 refine Lst.nil ?_
 refine At.less (L' := (.blk b20 (enc x17) 91) :: (.blk b1 (enc (SynodR.mk a0 s_a0_0 s_a0_1)) 44) :: L) (sc1 (sk1 (sk1 (.refl _)))) ?_
 exact At.meet (i68 + 1, k68, y78) (FLe.trans hF71 hF81) ⟨rfl, rfl, rfl, rfl, rfl, rfl, rfl, rfl, rfl, rfl, trivial⟩ rfl ⟨⟨hgo68 _ (some_inj H).symm, by omega⟩, Nat.lt_succ_self _⟩
set_option maxRecDepth 20000 in
theorem synod_in_sim {a0 : Int} {a1 : Int} {a2 : Int} {r : Bool} (H : synod_in a0 a1 a2 = some r) (w0 : World) (F : Frz) (M L : List Item) (hM : M.Sublist L) : Ok Try.prog w0 62 [iv a0, iv a1, iv a2] F (L) (Is (.bool r) (L)) := by
 unfold synod_in at H
 refine Ok.enter (m := 3) (n := 15) Try.func62 rfl rfl rfl (by decide) ?_
 refine Cd.env (e' := [(0, iv a0), (1, iv a1), (2, iv a2)]) rfl ?_
 refine Cd.seq ?_
 refine Cd.region ?_
 refine Lst.r (Ev.assign rfl) ?_
 refine Lst.nil ?_
 refine At.then ?_
 refine Cd.seq ?_
 refine Cd.region ?_
 refine Lst.r (Ev.move rfl) ?_
 refine Lst.r (Ev.move rfl) ?_
 refine Lst.r (Ev.geq rfl rfl) ?_
 refine Lst.r (Ev.move rfl) ?_
 obtain ⟨o1, H, HKo1⟩ := bind_some H
 refine Lst.join (σ := Bool) 4 (fun y2 => [(14, .bool y2)]) (fun y2 => L) (fun _ y2 => y2 = o1) ?_ ?_
 ·rcases (Bool.eq_false_or_eq_true (decide (a0 ≥ a1))).symm with hb3 | hb3
  ·replace H := ite_f hb3 H
   refine Lst.skip rfl rfl rfl hb3 rfl (by decide) ?_
   refine Lst.skip rfl rfl rfl hb3 rfl (by decide) ?_
   refine Lst.skip rfl rfl rfl hb3 rfl (by decide) ?_
   refine Lst.r (Ev.pickF rfl hb3 rfl) ?_
   refine Lst.nil ?_
   exact At.meet false (FLe.refl _) ⟨rfl, trivial⟩ rfl (some_inj H)
  replace H := ite_t hb3 H
  refine Lst.rG hb3 (Ev.move rfl) ?_
  refine Lst.rG hb3 (Ev.move rfl) ?_
  refine Lst.rG hb3 (Ev.leq rfl rfl) ?_
  refine Lst.r (Ev.pickT rfl hb3 rfl) ?_
  refine Lst.nil ?_
  exact At.meet (decide (a0 ≤ a2)) (FLe.refl _) ⟨rfl, trivial⟩ rfl (some_inj H)
 rintro F4 y2 hF5 hy
 subst hy
 refine Lst.as (e' := [(14, .bool y2)]) (L' := L) ⟨rfl, trivial⟩ rfl ?_
 replace H := HKo1
 refine Lst.r (Ev.assign rfl) ?_
 refine Lst.nil ?_
 refine At.then ?_
 obtain rfl := some_inj H
 refine Cd.ret ?_
 exact At.ret1 rfl (Res.tmp rfl) hF5 (.refl _) ⟨rfl, rfl⟩
set_option maxRecDepth 20000 in
theorem synod_round_1_sim {a0 : Round} {a1 : Round} {b_a1 : Nat} {r : Bool} (H : synod_round_1 a0 a1 = some r) (w0 : World) (F : Frz) (M L : List Item) (hM : M.Sublist L) : Ok Try.prog w0 108 [.agg (enc a0).toArray, pv b_a1 0] F ((.blk b_a1 (enc a1) 91) :: L) (Is (.bool r) ((.blk b_a1 (enc a1) 91) :: L)) := by
 unfold synod_round_1 at H
 refine Ok.enter (m := 2) (n := 9) Try.func108 rfl rfl rfl (by decide) ?_
 refine Cd.env (e' := [(0, .agg (enc a0).toArray), (1, pv b_a1 0)]) rfl ?_
 refine Cd.seq ?_
 refine Cd.region ?_
 refine Lst.box rfl rfl (by decide) rfl (cs := enc a0) rfl (fun b2 => ?_)
 refine Lst.r (Ev.assign rfl) ?_
 refine Lst.nil ?_
 refine At.then ?_
 refine Cd.seq ?_
 refine Cd.region ?_
 refine Lst.r (Ev.fieldAddr (off' := 0) rfl Try.runUnderlying91 rfl Try.sizeOf3 rfl rfl) ?_
 refine Lst.r (Ev.load (i := 0) rfl rfl Try.isAgg3 (v := iv a0.Ballot) ((Round.get_Ballot (Get.here _)).off (by rfl))) ?_
 refine Lst.r (Ev.fieldAddr (off' := 0) rfl Try.runUnderlying91 rfl Try.sizeOf3 rfl rfl) ?_
 refine Lst.r (Ev.load (i := 1) rfl rfl Try.isAgg3 (v := iv a1.Ballot) ((Round.get_Ballot (Get.here _)).off (by rfl))) ?_
 refine Lst.r (Ev.eql rfl rfl) ?_
 refine Lst.r (Ev.assign rfl) ?_
 refine Lst.nil ?_
 refine At.then ?_
 obtain rfl := some_inj H
 refine Cd.ret ?_
 exact At.ret1 rfl (Res.tmp rfl) (FLe.refl _) (sc1 (sk1 (.refl _))) ⟨rfl, rfl⟩
set_option maxRecDepth 20000 in
theorem slices_IndexFunc_api_Round_api_Round_round_1_sim {a0 : List Round} {a1_c0 : Round} {s_a0 : Sl} {b_a1_c0 : Nat} {r : Int} (H : slices_IndexFunc_api_Round_api_Round_round_1 a0 a1_c0 = some r) (w0 : World) (F : Frz) (M L : List Item) (hM : M.Sublist L) (hs_a0 : Rd w0 F M s_a0 a0) : Ok Try.prog w0 74 [Sl.v s_a0, .func (.func 108) #[] #[pv b_a1_c0 0]] F ((.blk b_a1_c0 (enc a1_c0) 91) :: L) (Is (iv r) ((.blk b_a1_c0 (enc a1_c0) 91) :: L)) := by
 unfold slices_IndexFunc_api_Round_api_Round_round_1 at H
 refine Ok.enter (m := 2) (n := 19) Try.func74 rfl rfl rfl (by decide) ?_
 refine Cd.env (e' := [(0, Sl.v s_a0), (1, .func (.func 108) #[] #[pv b_a1_c0 0])]) rfl ?_
 refine Cd.seq ?_
 refine Cd.region ?_
 refine Lst.r (Ev.assign rfl) ?_
 refine Lst.nil ?_
 refine At.then ?_
 refine Cd.seq ?_
 refine Cd.seq ?_
 refine Cd.region ?_
 refine Lst.r (Ev.move rfl) ?_
 refine Lst.r (Ev.lenS (α := Round) (xs := a0) (by decide) rfl rfl Try.runUnderlying42 (hs_a0.mono (FLe.refl _) (sc1 hM))) ?_
 refine Lst.r (Ev.move rfl) ?_
 refine Lst.nil ?_
 refine At.then ?_
 refine Cd.block ?_
 refine Cd.bound (Rd.le (α := Round) (xs := a0) (by decide) (hs_a0.mono (FLe.refl _) (sc1 hM))) (fun hN13 => ?_)
 obtain ⟨ol2, H, HKl2⟩ := andThen_some H
 refine Cd.loop (σ := Nat × Nat × Unit) (fun (i2, k2, _u) => [(0, Sl.v s_a0), (1, .func (.func 108) #[] #[pv b_a1_c0 0]), (7, iv (a0.length : Int)), (8, iv (i2 : Int))]) (fun (i2, k2, _u) => (.blk b_a1_c0 (enc a1_c0) 91) :: L) (fun _ => (fun (i2, k2, _u) => rangeM (slices_IndexFunc_api_Round_api_Round_round_1_B0 a0 a1_c0) k2 i2 () = some ol2 ∧ i2 + k2 = a0.length)) (fun (i2, k2, _u) => k2) (0, a0.length, ()) ⟨rfl, rfl, rfl, rfl, trivial⟩ rfl ⟨H, by omega⟩ ?_
 rintro F3 ⟨i2, k2, _u⟩ hF4 ⟨H, hik2⟩
 refine Cd.as (e' := [(0, Sl.v s_a0), (1, .func (.func 108) #[] #[pv b_a1_c0 0]), (7, iv (a0.length : Int)), (8, iv (i2 : Int))]) (L' := (.blk b_a1_c0 (enc a1_c0) 91) :: L) ⟨rfl, rfl, rfl, rfl, trivial⟩ rfl ?_
 rcases k2 with _ | k2
 ·have hc2 : decide ((i2 : Int) < (a0.length : Int)) = false := decide_eq_false (by omega)
  replace H := rangeM_end H
  refine Cd.seq ?_
  refine Cd.region ?_
  refine Lst.r (Ev.lss rfl rfl) ?_
  refine Lst.nil ?_
  refine At.then ?_
  refine Cd.seq ?_
  refine Cd.condF rfl hc2 ?_
  refine Cd.exit ?_
  refine At.then_exit ?_
  refine At.then_exit ?_
  refine At.in_exit ?_
  subst H
  replace H := HKl2
  refine At.then ?_
  refine Cd.seq ?_
  refine Cd.region ?_
  refine Lst.r (Ev.assign rfl) ?_
  refine Lst.nil ?_
  refine At.then ?_
  obtain rfl := some_inj H
  refine Cd.ret ?_
  exact At.ret1 rfl (Res.tmp rfl) hF4 (sk1 (.refl _)) ⟨rfl, rfl⟩
 have hc2 : decide ((i2 : Int) < (a0.length : Int)) = true := decide_eq_true (by omega)
 obtain ⟨c2, H, hgo2, hbrk2, hret2⟩ := rangeM_go H
 unfold slices_IndexFunc_api_Round_api_Round_round_1_B0 at H
 try dsimp only at H
 refine Cd.seq ?_
 refine Cd.region ?_
 refine Lst.r (Ev.lss rfl rfl) ?_
 refine Lst.nil ?_
 refine At.then ?_
 refine Cd.seq ?_
 refine Cd.condT rfl hc2 ?_
 refine Cd.skip ?_
 refine At.then ?_
 refine Cd.seq ?_
 refine Cd.block ?_
 refine Cd.seq ?_
 refine Cd.region ?_
 refine Lst.r (Ev.move rfl) ?_
 refine Lst.r (Ev.assign rfl) ?_
 refine Lst.nil ?_
 refine At.then ?_
 refine Cd.seq ?_
 refine Cd.region ?_
 refine Lst.r (Ev.move rfl) ?_
 refine Lst.r (Ev.move rfl) ?_
 refine Lst.r (Ev.move rfl) ?_
 obtain ⟨x5, h6, H⟩ := bind_some H
 have g7 := lat_some h6
 refine Lst.r (Ev.indexS (α := Round) (xs := a0) rfl rfl Try.runUnderlying42 Try.sizeOf91 rfl (by decide) (hs_a0.mono hF4 (sc1 hM)) g7.1 g7.2.1) ?_
 refine Lst.r (Ev.loadSA (α := Round) rfl (hs_a0.mono hF4 (sc1 hM)) Try.isAgg91 Try.sizeOf91 (ch := enc x5) (Enc.len _) (by decide) ((Get.elemN (s := 6) (x := x5) rfl g7.2.2 (Get.here _)).off (by omega))) ?_
 obtain ⟨r8, h9, H⟩ := bind_some H
 refine Lst.callV1 rfl rfl (by decide) (vs := [.agg (enc x5).toArray]) (cs := [pv b_a1_c0 0]) rfl ⟨rfl, trivial⟩ Try.call108 (synod_round_1_sim h9 w0 _ M _ hM) ?_
 refine Lst.nil ?_
 refine At.then ?_
 rcases Bool.eq_false_or_eq_true r8 with hb12 | hb12
 ·replace H := ite_t hb12 H
  refine Cd.condT rfl hb12 ?_
  refine Cd.seq ?_
  refine Cd.region ?_
  refine Lst.r (Ev.move rfl) ?_
  refine Lst.r (Ev.assign rfl) ?_
  refine Lst.nil ?_
  refine At.then ?_
  have H := hret2 _ (some_inj H).symm
  subst H
  replace H := HKl2
  obtain rfl := some_inj H
  refine Cd.ret ?_
  refine At.in_ret ?_
  refine At.then_ret ?_
  refine At.then_ret ?_
  refine At.in_ret ?_
  refine At.then_ret ?_
  exact At.ret1 rfl (Res.tmp rfl) hF4 (sk1 (.refl _)) ⟨rfl, rfl⟩
 replace H := ite_f hb12 H
 refine Cd.condF rfl hb12 ?_
 refine Cd.skip ?_
 refine At.in_normal ?_
 refine At.then ?_
 refine Cd.region ?_
 refine Lst.r (Ev.incr (by omega) rfl rfl) ?_
 refine Lst.r (Ev.move rfl) ?_
 refine Lst.nil ?_
 exact At.meet (i2 + 1, k2, ()) hF4 ⟨rfl, rfl, rfl, rfl, trivial⟩ rfl ⟨⟨hgo2 _ (some_inj H).symm, by omega⟩, Nat.lt_succ_self _⟩
set_option maxRecDepth 20000 in
theorem slices_ContainsFunc_api_Round_api_Round_round_1_sim {a0 : List Round} {a1_c0 : Round} {s_a0 : Sl} {b_a1_c0 : Nat} {r : Bool} (H : slices_ContainsFunc_api_Round_api_Round_round_1 a0 a1_c0 = some r) (w0 : World) (F : Frz) (M L : List Item) (hM : M.Sublist L) (hs_a0 : Rd w0 F M s_a0 a0) : Ok Try.prog w0 107 [Sl.v s_a0, .func (.func 108) #[] #[pv b_a1_c0 0]] F ((.blk b_a1_c0 (enc a1_c0) 91) :: L) (Is (.bool r) ((.blk b_a1_c0 (enc a1_c0) 91) :: L)) := by
 unfold slices_ContainsFunc_api_Round_api_Round_round_1 at H
 refine Ok.enter (m := 2) (n := 9) Try.func107 rfl rfl rfl (by decide) ?_
 refine Cd.env (e' := [(0, Sl.v s_a0), (1, .func (.func 108) #[] #[pv b_a1_c0 0])]) rfl ?_
 refine Cd.seq ?_
 refine Cd.region ?_
 refine Lst.r (Ev.assign rfl) ?_
 refine Lst.nil ?_
 refine At.then ?_
 refine Cd.seq ?_
 refine Cd.region ?_
 refine Lst.r (Ev.move rfl) ?_
 refine Lst.r (Ev.move rfl) ?_
 obtain ⟨r2, h3, H⟩ := bind_some H
 refine Lst.call1 rfl rfl (by decide) (vs := [Sl.v s_a0, .func (.func 108) #[] #[pv b_a1_c0 0]]) ⟨rfl, rfl, trivial⟩ Try.call74 (slices_IndexFunc_api_Round_api_Round_round_1_sim h3 w0 _ M _ hM (hs_a0.mono (FLe.refl _) (.refl _))) ?_
 refine Lst.r (Ev.geq rfl rfl) ?_
 refine Lst.r (Ev.assign rfl) ?_
 refine Lst.nil ?_
 refine At.then ?_
 obtain rfl := some_inj H
 refine Cd.ret ?_
 exact At.ret1 rfl (Res.tmp rfl) (FLe.refl _) (sk1 (.refl _)) ⟨rfl, rfl⟩
set_option maxRecDepth 20000 in
theorem math_bits_OnesCount8_sim {a0 : BitVec 8} {r : Int} (H : math_bits_OnesCount8 a0 = some r) (w0 : World) (F : Frz) (M L : List Item) (hM : M.Sublist L) : Ok Try.prog w0 104 [.int .u8 a0.toNat] F (L) (Is (iv r) (L)) := by
 unfold math_bits_OnesCount8 at H
 refine Ok.enter (m := 1) (n := 6) Try.func104 rfl rfl rfl (by decide) ?_
 refine Cd.env (e' := [(0, .int .u8 a0.toNat)]) rfl ?_
 refine Cd.seq ?_
 refine Cd.region ?_
 refine Lst.r (Ev.assign rfl) ?_
 refine Lst.nil ?_
 refine At.then ?_
 refine Cd.seq ?_
 refine Cd.region ?_
 refine Lst.r (Ev.move rfl) ?_
 obtain ⟨x1, h2, H⟩ := bind_some H
 refine Lst.r (Ev.indexStr rfl rfl Try.runUnderlying9 h2) ?_
 refine Lst.r (Ev.convIS (j := (x1.toBitVec.toNat : Int)) rfl Try.runUnderlying5 Try.runUnderlying3 (w64_id (by omega) (by omega))) ?_
 refine Lst.r (Ev.assign rfl) ?_
 refine Lst.nil ?_
 refine At.then ?_
 obtain rfl := some_inj H
 refine Cd.ret ?_
 exact At.ret1 rfl (Res.tmp rfl) (FLe.refl _) (.refl _) ⟨rfl, rfl⟩
set_option maxRecDepth 20000 in
theorem synod_majority_sim {a0 : BitVec 8} {a1 : Int} {r : Bool} (H : synod_majority a0 a1 = some r) (w0 : World) (F : Frz) (M L : List Item) (hM : M.Sublist L) : Ok Try.prog w0 66 [.int .u8 a0.toNat, iv a1] F (L) (Is (.bool r) (L)) := by
 unfold synod_majority at H
 refine Ok.enter (m := 2) (n := 10) Try.func66 rfl rfl rfl (by decide) ?_
 refine Cd.env (e' := [(0, .int .u8 a0.toNat), (1, iv a1)]) rfl ?_
 refine Cd.seq ?_
 refine Cd.region ?_
 refine Lst.r (Ev.assign rfl) ?_
 refine Lst.nil ?_
 refine At.then ?_
 refine Cd.seq ?_
 refine Cd.region ?_
 refine Lst.r (Ev.move rfl) ?_
 obtain ⟨r1, h2, H⟩ := bind_some H
 refine Lst.call1 rfl rfl (by decide) (vs := [.int .u8 a0.toNat]) ⟨rfl, trivial⟩ Try.call104 (math_bits_OnesCount8_sim h2 w0 _ M _ hM) ?_
 refine Lst.r (Ev.mul rfl rfl) ?_
 refine Lst.r (Ev.move rfl) ?_
 refine Lst.r (Ev.gtr rfl rfl) ?_
 refine Lst.r (Ev.assign rfl) ?_
 refine Lst.nil ?_
 refine At.then ?_
 obtain rfl := some_inj H
 refine Cd.ret ?_
 exact At.ret1 rfl (Res.tmp rfl) (FLe.refl _) (.refl _) ⟨rfl, rfl⟩
set_option maxRecDepth 20000 in
theorem synod_round_sim {a0 : Synod} {a1 : Int} {s_a0_0 : Sl} {s_a0_1 : Sl} {r : Int} (H : synod_round a0 a1 = some r) (w0 : World) (F : Frz) (M L : List Item) (hM : M.Sublist L) (hs_a0_0 : Rd w0 F M s_a0_0 a0.Voters) (hs_a0_1 : Rd w0 F M s_a0_1 a0.Rounds) : Ok Try.prog w0 69 [.agg (enc (SynodR.mk a0 s_a0_0 s_a0_1)).toArray, iv a1] F (L) (Is (iv r) (L)) := by
 unfold synod_round at H
 refine Ok.enter (m := 2) (n := 66) Try.func69 rfl rfl rfl (by decide) ?_
 refine Cd.env (e' := [(0, .agg (enc (SynodR.mk a0 s_a0_0 s_a0_1)).toArray), (1, iv a1)]) rfl ?_
 refine Cd.seq ?_
 refine Cd.region ?_
 refine Lst.box rfl rfl (by decide) rfl (cs := enc (SynodR.mk a0 s_a0_0 s_a0_1)) rfl (fun b1 => ?_)
 refine Lst.r (Ev.assign rfl) ?_
 refine Lst.nil ?_
 refine At.then ?_
 refine Cd.seq ?_
 obtain ⟨x3, h4, H⟩ := bind_some H
 refine Cd.headMeet (σ := Nat) 10 (fun b9 => [(1, iv a1), (2, pv b1 0), (5, pv b9 0), (14, iv (a0.Voters.length : Int))]) (fun b9 => (.blk b9 (enc x3) 91) :: (.blk b1 (enc (SynodR.mk a0 s_a0_0 s_a0_1)) 44) :: L) (fun _ b9 => True) (by kernel_rfl) (by kernel_rfl) (behind_sink (by kernel_rfl) (by kernel_rfl) (by kernel_rfl)) (by kernel_rfl) (fun hsel hlt => ?_) ?_
 ·refine HdJ.keep (fun w => St w0 F ((.blk b1 (enc (SynodR.mk a0 s_a0_0 s_a0_1)) 44) :: L) w) (fun w h => trivial) ?_
  refine HdJ.tk hsel hlt 0 (fun w h => h.sublist (sk1 (.refl _))) rfl (Ev.fieldAddr (off' := 1) rfl Try.runUnderlying44 rfl Try.sizeOf42 rfl rfl) ?_
  refine HdJ.tk hsel hlt 1 (fun w h => h.sublist (sk1 (.refl _))) rfl (Ev.load (i := 0) rfl rfl Try.isAgg42 (v := Sl.v s_a0_1) ((SynodR.get_Rounds (Get.here _)).off (by rfl))) ?_
  refine HdJ.tk hsel hlt 2 (fun w h => h.sublist (sk1 (.refl _))) rfl (Ev.move rfl) ?_
  have g12 := lat_some h4
  refine HdJ.tk hsel hlt 3 (fun w h => h.sublist (sk1 (.refl _))) rfl (Ev.indexS (α := Round) (xs := a0.Rounds) rfl rfl Try.runUnderlying42 Try.sizeOf91 rfl (by decide) (hs_a0_1.mono (FLe.refl _) (sc1 hM)) g12.1 g12.2.1) ?_
  refine HdJ.tk hsel hlt 4 (fun w h => h.sublist (sk1 (.refl _))) rfl (Ev.loadSA (α := Round) rfl (hs_a0_1.mono (FLe.refl _) (sc1 hM)) Try.isAgg91 Try.sizeOf91 (ch := enc x3) (Enc.len _) (by decide) ((Get.elemN (s := 6) (x := x3) rfl g12.2.2 (Get.here _)).off (by omega))) ?_
  refine HdJ.tk hsel hlt 5 (fun w h => h.sublist (sk1 (.refl _))) rfl (Ev.fieldAddr (off' := 0) rfl Try.runUnderlying44 rfl Try.sizeOf41 rfl rfl) ?_
  refine HdJ.tk hsel hlt 6 (fun w h => h.sublist (sk1 (.refl _))) rfl (Ev.load (i := 0) rfl rfl Try.isAgg41 (v := Sl.v s_a0_0) ((SynodR.get_Voters (Get.here _)).off (by rfl))) ?_
  refine HdJ.tk hsel hlt 7 (fun w h => h.sublist (sk1 (.refl _))) rfl (Ev.lenS (α := Voter) (xs := a0.Voters) (by decide) rfl rfl Try.runUnderlying41 (hs_a0_0.mono (FLe.refl _) (sc1 hM))) ?_
  refine HdJ.step [8] (by kernel_rfl) rfl ?_
  refine HdStep.c (fun inv => ?_) ?_
  ·refine Lst.alloc (cs := enc Round.zero) rfl rfl (by decide) Try.zeroValue91 rfl (fun b13 => ?_)
   refine Lst.nil ?_
   refine At.hd inv (fun w h => (h.weaken (FLe.refl _)).sublist (sc1 (sk1 (.refl _)))) ?_
   refine HdJ.step [9] (by kernel_rfl) rfl ?_
   refine HdStep.c (fun inv => ?_) ?_
   ·refine Lst.store (i := 0) rfl rfl rfl rfl rfl Try.sizeOf91 (vs := enc x3) rfl (Enc.len _) (Enc.one _) (cs' := enc x3) (Put.here ((Enc.len _).trans (Enc.len _).symm)) (L' := (.blk b13 (enc x3) 91) :: (.blk b1 (enc (SynodR.mk a0 s_a0_0 s_a0_1)) 44) :: L) rfl ?_
    refine Lst.nil ?_
    refine At.hd inv (fun w h => (h.weaken (FLe.refl _)).sublist (sc1 (sk1 (.refl _)))) ?_
    refine HdJ.done (by kernel_rfl) ?_
    exact At.meetN b13 (FLe.refl _) ⟨rfl, rfl, rfl, rfl, trivial⟩ rfl trivial
   exact trivial
  exact trivial
 rintro F14 b9 hF15 hy
 refine Lst.as (e' := [(1, iv a1), (2, pv b1 0), (5, pv b9 0), (14, iv (a0.Voters.length : Int))]) (L' := (.blk b9 (enc x3) 91) :: (.blk b1 (enc (SynodR.mk a0 s_a0_0 s_a0_1)) 44) :: L) ⟨rfl, rfl, rfl, rfl, trivial⟩ rfl ?_
 refine Lst.r (Ev.assign rfl) ?_
 refine Lst.nil ?_
 refine At.then ?_
 refine Cd.seq ?_
 refine Cd.block ?_
 refine Cd.seq ?_
 refine Cd.region ?_
 refine Lst.r (Ev.fieldAddr (off' := 0) rfl Try.runUnderlying91 rfl Try.sizeOf3 rfl rfl) ?_
 refine Lst.r (Ev.load (i := 0) rfl rfl Try.isAgg3 (v := iv x3.Ballot) ((Round.get_Ballot (Get.here _)).off (by rfl))) ?_
 obtain ⟨r16, h17, H⟩ := bind_some H
 refine Lst.call1 rfl rfl (by decide) (vs := [iv x3.Ballot, iv (1 : Int), iv (16777215 : Int)]) ⟨rfl, rfl, rfl, trivial⟩ Try.call62 (synod_in_sim h17 w0 _ M _ (sc2 hM)) ?_
 refine Lst.r (Ev.not rfl) ?_
 refine Lst.r (Ev.move rfl) ?_
 obtain ⟨o20, H, HKo20⟩ := bind_some H
 refine Lst.join (σ := Bool) 8 (fun y21 => [(1, iv a1), (2, pv b1 0), (5, pv b9 0), (6, iv (a0.Voters.length : Int)), (28, .bool y21)]) (fun y21 => (.blk b9 (enc x3) 91) :: (.blk b1 (enc (SynodR.mk a0 s_a0_0 s_a0_1)) 44) :: L) (fun _ y21 => y21 = o20) ?_ ?_
 ·rcases Bool.eq_false_or_eq_true (!r16) with hb22 | hb22
  ·replace H := ite_t hb22 H
   refine Lst.skip rfl rfl rfl hb22 rfl (by decide) ?_
   refine Lst.skip rfl rfl rfl hb22 rfl (by decide) ?_
   refine Lst.skip rfl rfl rfl hb22 rfl (by decide) ?_
   refine Lst.skip rfl rfl rfl hb22 rfl (by decide) ?_
   refine Lst.skip rfl rfl rfl hb22 rfl (by decide) ?_
   refine Lst.skip rfl rfl rfl hb22 rfl (by decide) ?_
   refine Lst.skip rfl rfl rfl hb22 rfl (by decide) ?_
   refine Lst.r (Ev.pickT rfl hb22 rfl) ?_
   refine Lst.nil ?_
   exact At.meet true (FLe.refl _) ⟨rfl, rfl, rfl, rfl, rfl, trivial⟩ rfl (some_inj H)
  replace H := ite_f hb22 H
  refine Lst.rG hb22 (Ev.fieldAddr (off' := 1) rfl Try.runUnderlying91 rfl Try.sizeOf3 rfl rfl) ?_
  refine Lst.rG hb22 (Ev.load (i := 0) rfl rfl Try.isAgg3 (v := iv x3.Best) ((Round.get_Best (Get.here _)).off (by rfl))) ?_
  refine Lst.rG hb22 (Ev.fieldAddr (off' := 0) rfl Try.runUnderlying91 rfl Try.sizeOf3 rfl rfl) ?_
  refine Lst.rG hb22 (Ev.load (i := 0) rfl rfl Try.isAgg3 (v := iv x3.Ballot) ((Round.get_Ballot (Get.here _)).off (by rfl))) ?_
  refine Lst.rG hb22 (Ev.sub rfl rfl) ?_
  obtain ⟨r23, h24, H⟩ := bind_some H
  refine Lst.call1G rfl rfl rfl hb22 rfl (by decide) (vs := [iv x3.Best, iv (0 : Int), iv (w64 (x3.Ballot - (1 : Int)))]) ⟨rfl, rfl, rfl, trivial⟩ Try.call62 (synod_in_sim h24 w0 _ M _ (sc2 hM)) ?_
  refine Lst.rG hb22 (Ev.not rfl) ?_
  refine Lst.r (Ev.pickF rfl hb22 rfl) ?_
  refine Lst.nil ?_
  exact At.meet (!r23) (FLe.refl _) ⟨rfl, rfl, rfl, rfl, rfl, trivial⟩ rfl (some_inj H)
 rintro F27 y21 hF28 hy
 subst hy
 refine Lst.as (e' := [(1, iv a1), (2, pv b1 0), (5, pv b9 0), (6, iv (a0.Voters.length : Int)), (28, .bool y21)]) (L' := (.blk b9 (enc x3) 91) :: (.blk b1 (enc (SynodR.mk a0 s_a0_0 s_a0_1)) 44) :: L) ⟨rfl, rfl, rfl, rfl, rfl, trivial⟩ rfl ?_
 replace H := HKo20
 refine Lst.r (Ev.assign rfl) ?_
 refine Lst.nil ?_
 refine At.then ?_
 rcases Bool.eq_false_or_eq_true y21 with hb29 | hb29
 ·replace H := ite_t hb29 H
  refine Cd.condT rfl hb29 ?_
  refine Cd.seq ?_
  refine Cd.region ?_
  refine Lst.r (Ev.assign rfl) ?_
  refine Lst.nil ?_
  refine At.then ?_
  obtain rfl := some_inj H
  refine Cd.ret ?_
  refine At.in_ret ?_
  refine At.then_ret ?_
  exact At.ret1 rfl (Res.tmp rfl) (FLe.trans hF15 hF28) (sc1 (sc1 (.refl _))) ⟨rfl, rfl⟩
 replace H := ite_f hb29 H
 refine Cd.condF rfl hb29 ?_
 refine Cd.seq ?_
 refine Cd.region ?_
 refine Lst.r (Ev.fieldAddr (off' := 1) rfl Try.runUnderlying44 rfl Try.sizeOf42 rfl rfl) ?_
 refine Lst.r (Ev.load (i := 1) rfl rfl Try.isAgg42 (v := Sl.v s_a0_1) ((SynodR.get_Rounds (Get.here _)).off (by rfl))) ?_
 refine Lst.r (Ev.move rfl) ?_
 obtain ⟨m30, h31, H⟩ := bind_some H
 obtain ⟨g32, gl33⟩ := cutL_some h31
 try dsimp only at g32
 have hq34 : Rd w0 F M (s_a0_1.cut (0 : Int).toNat (a1 : Int).toNat 6) m30 := by rw [← gl33]; exact Rd.cut (by decide) hs_a0_1 (by omega) (by omega)
 refine Lst.r (Ev.cut (α := Round) (xs := a0.Rounds) (i := 0) (j := a1) rfl rfl rfl Try.runUnderlying42 Try.sizeOf91 rfl (by decide) (hs_a0_1.mono (FLe.trans hF15 hF28) (sc2 hM)) g32.1 g32.2.1 g32.2.2) ?_
 refine Lst.r (Ev.makeFunc (us := []) (vs := [pv b9 0]) trivial ⟨rfl, trivial⟩) ?_
 obtain ⟨r35, h36, H⟩ := bind_some H
 refine Lst.call1 rfl rfl (by decide) (vs := [Sl.v (s_a0_1.cut (0 : Int).toNat (a1 : Int).toNat 6), .func (.func 108) #[] #[pv b9 0]]) ⟨rfl, rfl, trivial⟩ Try.call107 (slices_ContainsFunc_api_Round_api_Round_round_1_sim h36 w0 _ M _ (sc1 hM) (hq34.mono (FLe.trans hF15 hF28) (.refl _))) ?_
 refine Lst.r (Ev.assign rfl) ?_
 refine Lst.nil ?_
 refine At.then ?_
 rcases Bool.eq_false_or_eq_true r35 with hb39 | hb39
 ·replace H := ite_t hb39 H
  refine Cd.condT rfl hb39 ?_
  refine Cd.seq ?_
  refine Cd.region ?_
  refine Lst.r (Ev.assign rfl) ?_
  refine Lst.nil ?_
  refine At.then ?_
  obtain rfl := some_inj H
  refine Cd.ret ?_
  refine At.in_ret ?_
  refine At.then_ret ?_
  exact At.ret1 rfl (Res.tmp rfl) (FLe.trans hF15 hF28) (sc1 (sc1 (.refl _))) ⟨rfl, rfl⟩
 replace H := ite_f hb39 H
 refine Cd.condF rfl hb39 ?_
 refine Cd.seq ?_
 refine Cd.region ?_
 refine Lst.r (Ev.fieldAddr (off' := 2) rfl Try.runUnderlying91 rfl Try.sizeOf5 rfl rfl) ?_
 refine Lst.r (Ev.load (i := 0) rfl rfl Try.isAgg5 (v := .int .u8 x3.Promised.toNat) ((Round.get_Promised (Get.here _)).off (by rfl))) ?_
 refine Lst.r (Ev.fieldAddr (off' := 3) rfl Try.runUnderlying91 rfl Try.sizeOf5 rfl rfl) ?_
 refine Lst.r (Ev.load (i := 0) rfl rfl Try.isAgg5 (v := .int .u8 x3.Voted.toNat) ((Round.get_Voted (Get.here _)).off (by rfl))) ?_
 refine Lst.r (Ev.orU8 (i := x3.Promised) (j := x3.Voted) rfl rfl) ?_
 refine Lst.r (Ev.move rfl) ?_
 obtain ⟨n40, h41, H⟩ := bind_some H
 refine Lst.r (Ev.shrU8 (i := x3.Promised ||| x3.Voted) (m := n40) rfl (congrArg some (congrArg (Value.int .i64) (cnt_some h41)))) ?_
 refine Lst.r (Ev.neq rfl rfl) ?_
 refine Lst.r (Ev.move rfl) ?_
 rcases Bool.eq_false_or_eq_true ((((x3.Promised ||| x3.Voted) >>> n40).toNat : Int) != ((0 : BitVec 8).toNat : Int)) with hb43 | hb43
 ·replace H := ite_t hb43 H
  refine Lst.skip rfl rfl rfl hb43 rfl (by decide) ?_
  refine Lst.skip rfl rfl rfl hb43 rfl (by decide) ?_
  refine Lst.skip rfl rfl rfl hb43 rfl (by decide) ?_
  refine Lst.skip rfl rfl rfl hb43 rfl (by decide) ?_
  refine Lst.skipU rfl rfl rfl rfl (by decide) ?_
  refine Lst.skipU rfl rfl rfl rfl (by decide) ?_
  refine Lst.skipU rfl rfl rfl rfl (by decide) ?_
  refine Lst.skip rfl rfl rfl hb43 rfl (by decide) ?_
  refine Lst.r (Ev.pickT rfl hb43 rfl) ?_
  refine Lst.r (Ev.move rfl) ?_
  refine Lst.skip rfl rfl rfl rfl rfl (by decide) ?_
  refine Lst.skip rfl rfl rfl rfl rfl (by decide) ?_
  refine Lst.skip rfl rfl rfl rfl rfl (by decide) ?_
  refine Lst.skipU rfl rfl rfl rfl (by decide) ?_
  refine Lst.skipU rfl rfl rfl rfl (by decide) ?_
  refine Lst.skipU rfl rfl rfl rfl (by decide) ?_
  refine Lst.skipU rfl rfl rfl rfl (by decide) ?_
  refine Lst.skipU rfl rfl rfl rfl (by decide) ?_
  refine Lst.skip rfl rfl rfl rfl rfl (by decide) ?_
  refine Lst.r (Ev.pickT rfl rfl rfl) ?_
  refine Lst.r (Ev.assign rfl) ?_
  refine Lst.nil ?_
  refine At.then ?_
  refine Cd.condT rfl rfl ?_
  refine Cd.seq ?_
  refine Cd.as (e' := []) (L' := (.blk b9 (enc x3) 91) :: (.blk b1 (enc (SynodR.mk a0 s_a0_0 s_a0_1)) 44) :: L) trivial rfl ?_
  refine Cd.region ?_
  refine Lst.r (Ev.assign rfl) ?_
  refine Lst.nil ?_
  refine At.then ?_
  obtain rfl := some_inj H
  refine Cd.ret ?_
  refine At.in_ret ?_
  refine At.then_ret ?_
  exact At.ret1 rfl (Res.tmp rfl) (FLe.trans hF15 hF28) (sc1 (sc1 (.refl _))) ⟨rfl, rfl⟩
 replace H := ite_f hb43 H
 refine Lst.rG hb43 (Ev.fieldAddr (off' := 3) rfl Try.runUnderlying91 rfl Try.sizeOf5 rfl rfl) ?_
 refine Lst.rG hb43 (Ev.load (i := 0) rfl rfl Try.isAgg5 (v := .int .u8 x3.Voted.toNat) ((Round.get_Voted (Get.here _)).off (by rfl))) ?_
 refine Lst.rG hb43 (Ev.neq rfl rfl) ?_
 refine Lst.rG hb43 (Ev.move rfl) ?_
 obtain ⟨o44, H, HKo44⟩ := bind_some H
 refine Lst.join (σ := Bool) 4 (fun y45 => [(5, pv b9 0), (6, iv (a0.Voters.length : Int)), (45, .bool ((((x3.Promised ||| x3.Voted) >>> n40).toNat : Int) != ((0 : BitVec 8).toNat : Int))), (53, .bool y45)]) (fun y45 => (.blk b9 (enc x3) 91) :: (.blk b1 (enc (SynodR.mk a0 s_a0_0 s_a0_1)) 44) :: L) (fun _ y45 => y45 = o44) ?_ ?_
 ·rcases (Bool.eq_false_or_eq_true ((x3.Voted.toNat : Int) != ((0 : BitVec 8).toNat : Int))).symm with hb46 | hb46
  ·replace H := ite_f hb46 H
   refine Lst.skip rfl rfl rfl hb46 rfl (by decide) ?_
   refine Lst.skip rfl rfl rfl hb46 rfl (by decide) ?_
   refine Lst.skip rfl rfl rfl hb46 rfl (by decide) ?_
   refine Lst.rG hb43 (Ev.pickF rfl hb46 rfl) ?_
   refine Lst.nil ?_
   exact At.meet false (FLe.refl _) ⟨rfl, rfl, rfl, rfl, trivial⟩ rfl (some_inj H)
  replace H := ite_t hb46 H
  refine Lst.rG hb46 (Ev.fieldAddr (off' := 4) rfl Try.runUnderlying91 rfl Try.sizeOf4 rfl rfl) ?_
  refine Lst.rG hb46 (Ev.load (i := 0) rfl rfl Try.isAgg4 (v := .bool x3.Asked) ((Round.get_Asked (Get.here _)).off (by rfl))) ?_
  refine Lst.rG hb46 (Ev.not rfl) ?_
  refine Lst.rG hb43 (Ev.pickT rfl hb46 rfl) ?_
  refine Lst.nil ?_
  exact At.meet (!x3.Asked) (FLe.refl _) ⟨rfl, rfl, rfl, rfl, trivial⟩ rfl (some_inj H)
 rintro F47 y45 hF48 hy
 subst hy
 refine Lst.as (e' := [(5, pv b9 0), (6, iv (a0.Voters.length : Int)), (45, .bool ((((x3.Promised ||| x3.Voted) >>> n40).toNat : Int) != ((0 : BitVec 8).toNat : Int))), (53, .bool y45)]) (L' := (.blk b9 (enc x3) 91) :: (.blk b1 (enc (SynodR.mk a0 s_a0_0 s_a0_1)) 44) :: L) ⟨rfl, rfl, rfl, rfl, trivial⟩ rfl ?_
 replace H := HKo44
 refine Lst.r (Ev.pickF rfl hb43 rfl) ?_
 refine Lst.r (Ev.move rfl) ?_
 rcases Bool.eq_false_or_eq_true y45 with hb49 | hb49
 ·replace H := ite_t hb49 H
  refine Lst.skip rfl rfl rfl hb49 rfl (by decide) ?_
  refine Lst.skip rfl rfl rfl hb49 rfl (by decide) ?_
  refine Lst.skip rfl rfl rfl hb49 rfl (by decide) ?_
  refine Lst.skipU rfl rfl rfl rfl (by decide) ?_
  refine Lst.skipU rfl rfl rfl rfl (by decide) ?_
  refine Lst.skipU rfl rfl rfl rfl (by decide) ?_
  refine Lst.skipU rfl rfl rfl rfl (by decide) ?_
  refine Lst.skipU rfl rfl rfl rfl (by decide) ?_
  refine Lst.skip rfl rfl rfl hb49 rfl (by decide) ?_
  refine Lst.r (Ev.pickT rfl hb49 rfl) ?_
  refine Lst.r (Ev.assign rfl) ?_
  refine Lst.nil ?_
  refine At.then ?_
  refine Cd.condT rfl rfl ?_
  refine Cd.seq ?_
  refine Cd.as (e' := []) (L' := (.blk b9 (enc x3) 91) :: (.blk b1 (enc (SynodR.mk a0 s_a0_0 s_a0_1)) 44) :: L) trivial rfl ?_
  refine Cd.region ?_
  refine Lst.r (Ev.assign rfl) ?_
  refine Lst.nil ?_
  refine At.then ?_
  obtain rfl := some_inj H
  refine Cd.ret ?_
  refine At.in_ret ?_
  refine At.then_ret ?_
  exact At.ret1 rfl (Res.tmp rfl) (FLe.trans (FLe.trans hF15 hF28) hF48) (sc1 (sc1 (.refl _))) ⟨rfl, rfl⟩
 replace H := ite_f hb49 H
 refine Lst.rG hb49 (Ev.fieldAddr (off' := 4) rfl Try.runUnderlying91 rfl Try.sizeOf4 rfl rfl) ?_
 refine Lst.rG hb49 (Ev.load (i := 0) rfl rfl Try.isAgg4 (v := .bool x3.Asked) ((Round.get_Asked (Get.here _)).off (by rfl))) ?_
 refine Lst.rG hb49 (Ev.move rfl) ?_
 obtain ⟨o50, H, HKo50⟩ := bind_some H
 refine Lst.join (σ := Bool) 6 (fun y51 => [(55, .bool y45), (64, .bool y51)]) (fun y51 => (.blk b9 (enc x3) 91) :: (.blk b1 (enc (SynodR.mk a0 s_a0_0 s_a0_1)) 44) :: L) (fun _ y51 => y51 = o50) ?_ ?_
 ·rcases (Bool.eq_false_or_eq_true x3.Asked).symm with hb52 | hb52
  ·replace H := ite_f hb52 H
   refine Lst.skip rfl rfl rfl hb52 rfl (by decide) ?_
   refine Lst.skip rfl rfl rfl hb52 rfl (by decide) ?_
   refine Lst.skip rfl rfl rfl hb52 rfl (by decide) ?_
   refine Lst.skip rfl rfl rfl hb52 rfl (by decide) ?_
   refine Lst.skip rfl rfl rfl hb52 rfl (by decide) ?_
   refine Lst.rG hb49 (Ev.pickF rfl hb52 rfl) ?_
   refine Lst.nil ?_
   exact At.meet false (FLe.refl _) ⟨rfl, rfl, trivial⟩ rfl (some_inj H)
  replace H := ite_t hb52 H
  refine Lst.rG hb52 (Ev.fieldAddr (off' := 2) rfl Try.runUnderlying91 rfl Try.sizeOf5 rfl rfl) ?_
  refine Lst.rG hb52 (Ev.load (i := 0) rfl rfl Try.isAgg5 (v := .int .u8 x3.Promised.toNat) ((Round.get_Promised (Get.here _)).off (by rfl))) ?_
  refine Lst.rG hb52 (Ev.move rfl) ?_
  obtain ⟨r53, h54, H⟩ := bind_some H
  refine Lst.call1G rfl rfl rfl hb52 rfl (by decide) (vs := [.int .u8 x3.Promised.toNat, iv (a0.Voters.length : Int)]) ⟨rfl, rfl, trivial⟩ Try.call66 (synod_majority_sim h54 w0 _ M _ (sc2 hM)) ?_
  refine Lst.rG hb52 (Ev.not rfl) ?_
  refine Lst.rG hb49 (Ev.pickT rfl hb52 rfl) ?_
  refine Lst.nil ?_
  exact At.meet (!r53) (FLe.refl _) ⟨rfl, rfl, trivial⟩ rfl (some_inj H)
 rintro F57 y51 hF58 hy
 subst hy
 refine Lst.as (e' := [(55, .bool y45), (64, .bool y51)]) (L' := (.blk b9 (enc x3) 91) :: (.blk b1 (enc (SynodR.mk a0 s_a0_0 s_a0_1)) 44) :: L) ⟨rfl, rfl, trivial⟩ rfl ?_
 replace H := HKo50
 refine Lst.r (Ev.pickF rfl hb49 rfl) ?_
 refine Lst.r (Ev.assign rfl) ?_
 refine Lst.nil ?_
 refine At.then ?_
 rcases Bool.eq_false_or_eq_true y51 with hb59 | hb59
 ·replace H := ite_t hb59 H
  refine Cd.condT rfl hb59 ?_
  refine Cd.seq ?_
  refine Cd.region ?_
  refine Lst.r (Ev.assign rfl) ?_
  refine Lst.nil ?_
  refine At.then ?_
  obtain rfl := some_inj H
  refine Cd.ret ?_
  refine At.in_ret ?_
  refine At.then_ret ?_
  exact At.ret1 rfl (Res.tmp rfl) (FLe.trans (FLe.trans (FLe.trans hF15 hF28) hF48) hF58) (sc1 (sc1 (.refl _))) ⟨rfl, rfl⟩
 replace H := ite_f hb59 H
 refine Cd.condF rfl hb59 ?_
 refine Cd.skip ?_
 refine At.in_normal ?_
 refine At.then ?_
 refine Cd.seq ?_
 refine Cd.region ?_
 refine Lst.r (Ev.assign rfl) ?_
 refine Lst.nil ?_
 refine At.then ?_
 obtain rfl := some_inj H
 refine Cd.ret ?_
 exact At.ret1 rfl (Res.tmp rfl) (FLe.trans (FLe.trans (FLe.trans hF15 hF28) hF48) hF58) (sc1 (sc1 (.refl _))) ⟨rfl, rfl⟩
set_option maxRecDepth 20000 in
theorem synod_find_1_sim {a0 : Round} {a1 : Int} {b_a1 : Nat} {r : Bool} (H : synod_find_1 a0 a1 = some r) (w0 : World) (F : Frz) (M L : List Item) (hM : M.Sublist L) : Ok Try.prog w0 103 [.agg (enc a0).toArray, pv b_a1 0] F ((.blk b_a1 (enc a1) 3) :: L) (Is (.bool r) ((.blk b_a1 (enc a1) 3) :: L)) := by
 unfold synod_find_1 at H
 refine Ok.enter (m := 2) (n := 8) Try.func103 rfl rfl rfl (by decide) ?_
 refine Cd.env (e' := [(0, .agg (enc a0).toArray), (1, pv b_a1 0)]) rfl ?_
 refine Cd.seq ?_
 refine Cd.region ?_
 refine Lst.box rfl rfl (by decide) rfl (cs := enc a0) rfl (fun b2 => ?_)
 refine Lst.r (Ev.assign rfl) ?_
 refine Lst.nil ?_
 refine At.then ?_
 refine Cd.seq ?_
 refine Cd.region ?_
 refine Lst.r (Ev.fieldAddr (off' := 0) rfl Try.runUnderlying91 rfl Try.sizeOf3 rfl rfl) ?_
 refine Lst.r (Ev.load (i := 0) rfl rfl Try.isAgg3 (v := iv a0.Ballot) ((Round.get_Ballot (Get.here _)).off (by rfl))) ?_
 refine Lst.r (Ev.load (i := 1) rfl rfl Try.isAgg3 (v := iv a1) (Get.here _)) ?_
 refine Lst.r (Ev.eql rfl rfl) ?_
 refine Lst.r (Ev.assign rfl) ?_
 refine Lst.nil ?_
 refine At.then ?_
 obtain rfl := some_inj H
 refine Cd.ret ?_
 exact At.ret1 rfl (Res.tmp rfl) (FLe.refl _) (sc1 (sk1 (.refl _))) ⟨rfl, rfl⟩
set_option maxRecDepth 20000 in
theorem slices_IndexFunc_api_Round_api_Round_find_1_sim {a0 : List Round} {a1_c0 : Int} {s_a0 : Sl} {b_a1_c0 : Nat} {r : Int} (H : slices_IndexFunc_api_Round_api_Round_find_1 a0 a1_c0 = some r) (w0 : World) (F : Frz) (M L : List Item) (hM : M.Sublist L) (hs_a0 : Rd w0 F M s_a0 a0) : Ok Try.prog w0 74 [Sl.v s_a0, .func (.func 103) #[] #[pv b_a1_c0 0]] F ((.blk b_a1_c0 (enc a1_c0) 3) :: L) (Is (iv r) ((.blk b_a1_c0 (enc a1_c0) 3) :: L)) := by
 unfold slices_IndexFunc_api_Round_api_Round_find_1 at H
 refine Ok.enter (m := 2) (n := 19) Try.func74 rfl rfl rfl (by decide) ?_
 refine Cd.env (e' := [(0, Sl.v s_a0), (1, .func (.func 103) #[] #[pv b_a1_c0 0])]) rfl ?_
 refine Cd.seq ?_
 refine Cd.region ?_
 refine Lst.r (Ev.assign rfl) ?_
 refine Lst.nil ?_
 refine At.then ?_
 refine Cd.seq ?_
 refine Cd.seq ?_
 refine Cd.region ?_
 refine Lst.r (Ev.move rfl) ?_
 refine Lst.r (Ev.lenS (α := Round) (xs := a0) (by decide) rfl rfl Try.runUnderlying42 (hs_a0.mono (FLe.refl _) (sc1 hM))) ?_
 refine Lst.r (Ev.move rfl) ?_
 refine Lst.nil ?_
 refine At.then ?_
 refine Cd.block ?_
 refine Cd.bound (Rd.le (α := Round) (xs := a0) (by decide) (hs_a0.mono (FLe.refl _) (sc1 hM))) (fun hN13 => ?_)
 obtain ⟨ol2, H, HKl2⟩ := andThen_some H
 refine Cd.loop (σ := Nat × Nat × Unit) (fun (i2, k2, _u) => [(0, Sl.v s_a0), (1, .func (.func 103) #[] #[pv b_a1_c0 0]), (7, iv (a0.length : Int)), (8, iv (i2 : Int))]) (fun (i2, k2, _u) => (.blk b_a1_c0 (enc a1_c0) 3) :: L) (fun _ => (fun (i2, k2, _u) => rangeM (slices_IndexFunc_api_Round_api_Round_find_1_B0 a0 a1_c0) k2 i2 () = some ol2 ∧ i2 + k2 = a0.length)) (fun (i2, k2, _u) => k2) (0, a0.length, ()) ⟨rfl, rfl, rfl, rfl, trivial⟩ rfl ⟨H, by omega⟩ ?_
 rintro F3 ⟨i2, k2, _u⟩ hF4 ⟨H, hik2⟩
 refine Cd.as (e' := [(0, Sl.v s_a0), (1, .func (.func 103) #[] #[pv b_a1_c0 0]), (7, iv (a0.length : Int)), (8, iv (i2 : Int))]) (L' := (.blk b_a1_c0 (enc a1_c0) 3) :: L) ⟨rfl, rfl, rfl, rfl, trivial⟩ rfl ?_
 rcases k2 with _ | k2
 ·have hc2 : decide ((i2 : Int) < (a0.length : Int)) = false := decide_eq_false (by omega)
  replace H := rangeM_end H
  refine Cd.seq ?_
  refine Cd.region ?_
  refine Lst.r (Ev.lss rfl rfl) ?_
  refine Lst.nil ?_
  refine At.then ?_
  refine Cd.seq ?_
  refine Cd.condF rfl hc2 ?_
  refine Cd.exit ?_
  refine At.then_exit ?_
  refine At.then_exit ?_
  refine At.in_exit ?_
  subst H
  replace H := HKl2
  refine At.then ?_
  refine Cd.seq ?_
  refine Cd.region ?_
  refine Lst.r (Ev.assign rfl) ?_
  refine Lst.nil ?_
  refine At.then ?_
  obtain rfl := some_inj H
  refine Cd.ret ?_
  exact At.ret1 rfl (Res.tmp rfl) hF4 (sk1 (.refl _)) ⟨rfl, rfl⟩
 have hc2 : decide ((i2 : Int) < (a0.length : Int)) = true := decide_eq_true (by omega)
 obtain ⟨c2, H, hgo2, hbrk2, hret2⟩ := rangeM_go H
 unfold slices_IndexFunc_api_Round_api_Round_find_1_B0 at H
 try dsimp only at H
 refine Cd.seq ?_
 refine Cd.region ?_
 refine Lst.r (Ev.lss rfl rfl) ?_
 refine Lst.nil ?_
 refine At.then ?_
 refine Cd.seq ?_
 refine Cd.condT rfl hc2 ?_
 refine Cd.skip ?_
 refine At.then ?_
 refine Cd.seq ?_
 refine Cd.block ?_
 refine Cd.seq ?_
 refine Cd.region ?_
 refine Lst.r (Ev.move rfl) ?_
 refine Lst.r (Ev.assign rfl) ?_
 refine Lst.nil ?_
 refine At.then ?_
 refine Cd.seq ?_
 refine Cd.region ?_
 refine Lst.r (Ev.move rfl) ?_
 refine Lst.r (Ev.move rfl) ?_
 refine Lst.r (Ev.move rfl) ?_
 obtain ⟨x5, h6, H⟩ := bind_some H
 have g7 := lat_some h6
 refine Lst.r (Ev.indexS (α := Round) (xs := a0) rfl rfl Try.runUnderlying42 Try.sizeOf91 rfl (by decide) (hs_a0.mono hF4 (sc1 hM)) g7.1 g7.2.1) ?_
 refine Lst.r (Ev.loadSA (α := Round) rfl (hs_a0.mono hF4 (sc1 hM)) Try.isAgg91 Try.sizeOf91 (ch := enc x5) (Enc.len _) (by decide) ((Get.elemN (s := 6) (x := x5) rfl g7.2.2 (Get.here _)).off (by omega))) ?_
 obtain ⟨r8, h9, H⟩ := bind_some H
 refine Lst.callV1 rfl rfl (by decide) (vs := [.agg (enc x5).toArray]) (cs := [pv b_a1_c0 0]) rfl ⟨rfl, trivial⟩ Try.call103 (synod_find_1_sim h9 w0 _ M _ hM) ?_
 refine Lst.nil ?_
 refine At.then ?_
 rcases Bool.eq_false_or_eq_true r8 with hb12 | hb12
 ·replace H := ite_t hb12 H
  refine Cd.condT rfl hb12 ?_
  refine Cd.seq ?_
  refine Cd.region ?_
  refine Lst.r (Ev.move rfl) ?_
  refine Lst.r (Ev.assign rfl) ?_
  refine Lst.nil ?_
  refine At.then ?_
  have H := hret2 _ (some_inj H).symm
  subst H
  replace H := HKl2
  obtain rfl := some_inj H
  refine Cd.ret ?_
  refine At.in_ret ?_
  refine At.then_ret ?_
  refine At.then_ret ?_
  refine At.in_ret ?_
  refine At.then_ret ?_
  exact At.ret1 rfl (Res.tmp rfl) hF4 (sk1 (.refl _)) ⟨rfl, rfl⟩
 replace H := ite_f hb12 H
 refine Cd.condF rfl hb12 ?_
 refine Cd.skip ?_
 refine At.in_normal ?_
 refine At.then ?_
 refine Cd.region ?_
 refine Lst.r (Ev.incr (by omega) rfl rfl) ?_
 refine Lst.r (Ev.move rfl) ?_
 refine Lst.nil ?_
 exact At.meet (i2 + 1, k2, ()) hF4 ⟨rfl, rfl, rfl, rfl, trivial⟩ rfl ⟨⟨hgo2 _ (some_inj H).symm, by omega⟩, Nat.lt_succ_self _⟩
set_option maxRecDepth 20000 in
theorem synod_find_sim {a0 : Synod} {a1 : Int} {s_a0_0 : Sl} {s_a0_1 : Sl} {r : Int} (H : synod_find a0 a1 = some r) (w0 : World) (F : Frz) (M L : List Item) (hM : M.Sublist L) (hs_a0_0 : Rd w0 F M s_a0_0 a0.Voters) (hs_a0_1 : Rd w0 F M s_a0_1 a0.Rounds) : Ok Try.prog w0 61 [.agg (enc (SynodR.mk a0 s_a0_0 s_a0_1)).toArray, iv a1] F (L) (Is (iv r) (L)) := by
 unfold synod_find at H
 refine Ok.enter (m := 2) (n := 9) Try.func61 rfl rfl rfl (by decide) ?_
 refine Cd.env (e' := [(0, .agg (enc (SynodR.mk a0 s_a0_0 s_a0_1)).toArray), (1, iv a1)]) rfl ?_
 refine Cd.seq ?_
 refine Cd.region ?_
 refine Lst.box rfl rfl (by decide) rfl (cs := enc (SynodR.mk a0 s_a0_0 s_a0_1)) rfl (fun b1 => ?_)
 refine Lst.box rfl rfl (by decide) rfl (cs := enc a1) rfl (fun b3 => ?_)
 refine Lst.r (Ev.assign rfl) ?_
 refine Lst.nil ?_
 refine At.then ?_
 refine Cd.seq ?_
 refine Cd.region ?_
 refine Lst.r (Ev.fieldAddr (off' := 1) rfl Try.runUnderlying44 rfl Try.sizeOf42 rfl rfl) ?_
 refine Lst.r (Ev.load (i := 1) rfl rfl Try.isAgg42 (v := Sl.v s_a0_1) ((SynodR.get_Rounds (Get.here _)).off (by rfl))) ?_
 refine Lst.r (Ev.makeFunc (us := []) (vs := [pv b3 0]) trivial ⟨rfl, trivial⟩) ?_
 obtain ⟨r5, h6, H⟩ := bind_some H
 refine Lst.call1 rfl rfl (by decide) (vs := [Sl.v s_a0_1, .func (.func 103) #[] #[pv b3 0]]) ⟨rfl, rfl, trivial⟩ Try.call74 (slices_IndexFunc_api_Round_api_Round_find_1_sim h6 w0 _ M _ (sc1 hM) (hs_a0_1.mono (FLe.refl _) (.refl _))) ?_
 refine Lst.r (Ev.assign rfl) ?_
 refine Lst.nil ?_
 refine At.then ?_
 obtain rfl := some_inj H
 refine Cd.ret ?_
 exact At.ret1 rfl (Res.tmp rfl) (FLe.refl _) (sc1 (sc1 (.refl _))) ⟨rfl, rfl⟩
set_option maxRecDepth 20000 in
theorem synod_voter_sim {a0 : Synod} {a1 : Int} {s_a0_0 : Sl} {s_a0_1 : Sl} {r : Int} (H : synod_voter a0 a1 = some r) (w0 : World) (F : Frz) (M L : List Item) (hM : M.Sublist L) (hs_a0_0 : Rd w0 F M s_a0_0 a0.Voters) (hs_a0_1 : Rd w0 F M s_a0_1 a0.Rounds) : Ok Try.prog w0 70 [.agg (enc (SynodR.mk a0 s_a0_0 s_a0_1)).toArray, iv a1] F (L) (Is (iv r) (L)) := by
 unfold synod_voter at H
 refine Ok.enter (m := 2) (n := 105) Try.func70 rfl rfl rfl (by decide) ?_
 refine Cd.env (e' := [(0, .agg (enc (SynodR.mk a0 s_a0_0 s_a0_1)).toArray), (1, iv a1)]) rfl ?_
 refine Cd.seq ?_
 refine Cd.region ?_
 refine Lst.box rfl rfl (by decide) rfl (cs := enc (SynodR.mk a0 s_a0_0 s_a0_1)) rfl (fun b1 => ?_)
 refine Lst.r (Ev.assign rfl) ?_
 refine Lst.nil ?_
 refine At.then ?_
 refine Cd.seq ?_
 refine Cd.region ?_
 refine Lst.r (Ev.fieldAddr (off' := 0) rfl Try.runUnderlying44 rfl Try.sizeOf41 rfl rfl) ?_
 refine Lst.r (Ev.load (i := 0) rfl rfl Try.isAgg41 (v := Sl.v s_a0_0) ((SynodR.get_Voters (Get.here _)).off (by rfl))) ?_
 refine Lst.r (Ev.move rfl) ?_
 obtain ⟨x3, h4, H⟩ := bind_some H
 have g5 := lat_some h4
 refine Lst.r (Ev.indexS (α := Voter) (xs := a0.Voters) rfl rfl Try.runUnderlying41 Try.sizeOf93 rfl (by decide) (hs_a0_0.mono (FLe.refl _) (sc1 hM)) g5.1 g5.2.1) ?_
 refine Lst.r (Ev.loadSA (α := Voter) rfl (hs_a0_0.mono (FLe.refl _) (sc1 hM)) Try.isAgg93 Try.sizeOf93 (ch := enc x3) (Enc.len _) (by decide) ((Get.elemN (s := 3) (x := x3) rfl g5.2.2 (Get.here _)).off (by omega))) ?_
 refine Lst.alloc (cs := enc Voter.zero) rfl rfl (by decide) Try.zeroValue93 rfl (fun b6 => ?_)
 refine Lst.store (i := 0) rfl rfl rfl rfl rfl Try.sizeOf93 (vs := enc x3) rfl (Enc.len _) (Enc.one _) (cs' := enc x3) (Put.here ((Enc.len _).trans (Enc.len _).symm)) (L' := (.blk b6 (enc x3) 93) :: (.blk b1 (enc (SynodR.mk a0 s_a0_0 s_a0_1)) 44) :: L) rfl ?_
 refine Lst.nil ?_
 refine At.then ?_
 refine Cd.seq ?_
 refine Cd.seq ?_
 refine Cd.region ?_
 refine Lst.r (Ev.fieldAddr (off' := 0) rfl Try.runUnderlying93 rfl Try.sizeOf3 rfl rfl) ?_
 refine Lst.r (Ev.load (i := 0) rfl rfl Try.isAgg3 (v := iv x3.Promised) ((Voter.get_Promised (Get.here _)).off (by rfl))) ?_
 refine Lst.r (Ev.lss rfl rfl) ?_
 refine Lst.r (Ev.move rfl) ?_
 obtain ⟨o8, H, HKo8⟩ := bind_some H
 refine Lst.join (σ := Bool) 4 (fun y9 => [(1, iv a1), (2, pv b1 0), (5, pv b6 0), (21, .bool y9)]) (fun y9 => (.blk b6 (enc x3) 93) :: (.blk b1 (enc (SynodR.mk a0 s_a0_0 s_a0_1)) 44) :: L) (fun _ y9 => y9 = o8) ?_ ?_
 ·rcases Bool.eq_false_or_eq_true (decide (x3.Promised < (0 : Int))) with hb10 | hb10
  ·replace H := ite_t hb10 H
   refine Lst.skip rfl rfl rfl hb10 rfl (by decide) ?_
   refine Lst.skip rfl rfl rfl hb10 rfl (by decide) ?_
   refine Lst.skip rfl rfl rfl hb10 rfl (by decide) ?_
   refine Lst.r (Ev.pickT rfl hb10 rfl) ?_
   refine Lst.nil ?_
   exact At.meet true (FLe.refl _) ⟨rfl, rfl, rfl, rfl, trivial⟩ rfl (some_inj H)
  replace H := ite_f hb10 H
  refine Lst.rG hb10 (Ev.fieldAddr (off' := 1) rfl Try.runUnderlying93 rfl Try.sizeOf3 rfl rfl) ?_
  refine Lst.rG hb10 (Ev.load (i := 0) rfl rfl Try.isAgg3 (v := iv x3.Voted) ((Voter.get_Voted (Get.here _)).off (by rfl))) ?_
  refine Lst.rG hb10 (Ev.lss rfl rfl) ?_
  refine Lst.r (Ev.pickF rfl hb10 rfl) ?_
  refine Lst.nil ?_
  exact At.meet (decide (x3.Voted < (0 : Int))) (FLe.refl _) ⟨rfl, rfl, rfl, rfl, trivial⟩ rfl (some_inj H)
 rintro F11 y9 hF12 hy
 subst hy
 refine Lst.as (e' := [(1, iv a1), (2, pv b1 0), (5, pv b6 0), (21, .bool y9)]) (L' := (.blk b6 (enc x3) 93) :: (.blk b1 (enc (SynodR.mk a0 s_a0_0 s_a0_1)) 44) :: L) ⟨rfl, rfl, rfl, rfl, trivial⟩ rfl ?_
 replace H := HKo8
 refine Lst.r (Ev.move rfl) ?_
 obtain ⟨o13, H, HKo13⟩ := bind_some H
 refine Lst.join (σ := Bool) 6 (fun y14 => [(1, iv a1), (2, pv b1 0), (5, pv b6 0), (28, .bool y14)]) (fun y14 => (.blk b6 (enc x3) 93) :: (.blk b1 (enc (SynodR.mk a0 s_a0_0 s_a0_1)) 44) :: L) (fun _ y14 => y14 = o13) ?_ ?_
 ·rcases Bool.eq_false_or_eq_true y9 with hb15 | hb15
  ·replace H := ite_t hb15 H
   refine Lst.skip rfl rfl rfl hb15 rfl (by decide) ?_
   refine Lst.skip rfl rfl rfl hb15 rfl (by decide) ?_
   refine Lst.skip rfl rfl rfl hb15 rfl (by decide) ?_
   refine Lst.skip rfl rfl rfl hb15 rfl (by decide) ?_
   refine Lst.skip rfl rfl rfl hb15 rfl (by decide) ?_
   refine Lst.r (Ev.pickT rfl hb15 rfl) ?_
   refine Lst.nil ?_
   exact At.meet true (FLe.refl _) ⟨rfl, rfl, rfl, rfl, trivial⟩ rfl (some_inj H)
  replace H := ite_f hb15 H
  refine Lst.rG hb15 (Ev.fieldAddr (off' := 1) rfl Try.runUnderlying93 rfl Try.sizeOf3 rfl rfl) ?_
  refine Lst.rG hb15 (Ev.load (i := 0) rfl rfl Try.isAgg3 (v := iv x3.Voted) ((Voter.get_Voted (Get.here _)).off (by rfl))) ?_
  refine Lst.rG hb15 (Ev.fieldAddr (off' := 0) rfl Try.runUnderlying93 rfl Try.sizeOf3 rfl rfl) ?_
  refine Lst.rG hb15 (Ev.load (i := 0) rfl rfl Try.isAgg3 (v := iv x3.Promised) ((Voter.get_Promised (Get.here _)).off (by rfl))) ?_
  refine Lst.rG hb15 (Ev.gtr rfl rfl) ?_
  refine Lst.r (Ev.pickF rfl hb15 rfl) ?_
  refine Lst.nil ?_
  exact At.meet (decide (x3.Voted > x3.Promised)) (FLe.refl _) ⟨rfl, rfl, rfl, rfl, trivial⟩ rfl (some_inj H)
 rintro F16 y14 hF17 hy
 subst hy
 refine Lst.as (e' := [(1, iv a1), (2, pv b1 0), (5, pv b6 0), (28, .bool y14)]) (L' := (.blk b6 (enc x3) 93) :: (.blk b1 (enc (SynodR.mk a0 s_a0_0 s_a0_1)) 44) :: L) ⟨rfl, rfl, rfl, rfl, trivial⟩ rfl ?_
 replace H := HKo13
 refine Lst.nil ?_
 refine At.then ?_
 rcases Bool.eq_false_or_eq_true y14 with hb18 | hb18
 ·replace H := ite_t hb18 H
  refine Cd.condT rfl hb18 ?_
  refine Cd.seq ?_
  refine Cd.region ?_
  refine Lst.r (Ev.assign rfl) ?_
  refine Lst.nil ?_
  refine At.then ?_
  obtain rfl := some_inj H
  refine Cd.ret ?_
  refine At.then_ret ?_
  exact At.ret1 rfl (Res.tmp rfl) (FLe.trans hF12 hF17) (sc1 (sc1 (.refl _))) ⟨rfl, rfl⟩
 replace H := ite_f hb18 H
 refine Cd.condF rfl hb18 ?_
 refine Cd.skip ?_
 refine At.then ?_
 refine Cd.seq ?_
 refine Cd.seq ?_
 refine Cd.region ?_
 refine Lst.r (Ev.fieldAddr (off' := 1) rfl Try.runUnderlying93 rfl Try.sizeOf3 rfl rfl) ?_
 refine Lst.r (Ev.load (i := 0) rfl rfl Try.isAgg3 (v := iv x3.Voted) ((Voter.get_Voted (Get.here _)).off (by rfl))) ?_
 refine Lst.r (Ev.eql rfl rfl) ?_
 refine Lst.r (Ev.move rfl) ?_
 obtain ⟨o19, H, HKo19⟩ := bind_some H
 refine Lst.join (σ := Bool) 4 (fun y20 => [(1, iv a1), (2, pv b1 0), (5, pv b6 0), (36, .bool y20)]) (fun y20 => (.blk b6 (enc x3) 93) :: (.blk b1 (enc (SynodR.mk a0 s_a0_0 s_a0_1)) 44) :: L) (fun _ y20 => y20 = o19) ?_ ?_
 ·rcases (Bool.eq_false_or_eq_true (x3.Voted == (0 : Int))).symm with hb21 | hb21
  ·replace H := ite_f hb21 H
   refine Lst.skip rfl rfl rfl hb21 rfl (by decide) ?_
   refine Lst.skip rfl rfl rfl hb21 rfl (by decide) ?_
   refine Lst.skip rfl rfl rfl hb21 rfl (by decide) ?_
   refine Lst.r (Ev.pickF rfl hb21 rfl) ?_
   refine Lst.nil ?_
   exact At.meet false (FLe.refl _) ⟨rfl, rfl, rfl, rfl, trivial⟩ rfl (some_inj H)
  replace H := ite_t hb21 H
  refine Lst.rG hb21 (Ev.fieldAddr (off' := 2) rfl Try.runUnderlying93 rfl Try.sizeOf9 rfl rfl) ?_
  refine Lst.rG hb21 (Ev.load (i := 0) rfl rfl Try.isAgg9 (v := Str.v x3.Text) ((Voter.get_Text (Get.here _)).off (by rfl))) ?_
  refine Lst.rG hb21 (Ev.neqStr (s := x3.Text) (m := ([] : Str)) rfl rfl) ?_
  refine Lst.r (Ev.pickT rfl hb21 rfl) ?_
  refine Lst.nil ?_
  exact At.meet (!(decide (x3.Text = ([] : Str)))) (FLe.refl _) ⟨rfl, rfl, rfl, rfl, trivial⟩ rfl (some_inj H)
 rintro F22 y20 hF23 hy
 subst hy
 refine Lst.as (e' := [(1, iv a1), (2, pv b1 0), (5, pv b6 0), (36, .bool y20)]) (L' := (.blk b6 (enc x3) 93) :: (.blk b1 (enc (SynodR.mk a0 s_a0_0 s_a0_1)) 44) :: L) ⟨rfl, rfl, rfl, rfl, trivial⟩ rfl ?_
 replace H := HKo19
 refine Lst.r (Ev.move rfl) ?_
 rcases Bool.eq_false_or_eq_true y20 with hb24 | hb24
 ·replace H := ite_t hb24 H
  refine Lst.skip rfl rfl rfl hb24 rfl (by decide) ?_
  refine Lst.skip rfl rfl rfl hb24 rfl (by decide) ?_
  refine Lst.skip rfl rfl rfl hb24 rfl (by decide) ?_
  refine Lst.skip rfl rfl rfl hb24 rfl (by decide) ?_
  refine Lst.skipU rfl rfl rfl rfl (by decide) ?_
  refine Lst.skipU rfl rfl rfl rfl (by decide) ?_
  refine Lst.skipU rfl rfl rfl rfl (by decide) ?_
  refine Lst.skipU rfl rfl rfl rfl (by decide) ?_
  refine Lst.skipU rfl rfl rfl rfl (by decide) ?_
  refine Lst.skip rfl rfl rfl hb24 rfl (by decide) ?_
  refine Lst.r (Ev.pickT rfl hb24 rfl) ?_
  refine Lst.nil ?_
  refine At.then ?_
  refine Cd.condT rfl rfl ?_
  refine Cd.seq ?_
  refine Cd.as (e' := []) (L' := (.blk b6 (enc x3) 93) :: (.blk b1 (enc (SynodR.mk a0 s_a0_0 s_a0_1)) 44) :: L) trivial rfl ?_
  refine Cd.region ?_
  refine Lst.r (Ev.assign rfl) ?_
  refine Lst.nil ?_
  refine At.then ?_
  obtain rfl := some_inj H
  refine Cd.ret ?_
  refine At.then_ret ?_
  exact At.ret1 rfl (Res.tmp rfl) (FLe.trans (FLe.trans hF12 hF17) hF23) (sc1 (sc1 (.refl _))) ⟨rfl, rfl⟩
 replace H := ite_f hb24 H
 refine Lst.rG hb24 (Ev.fieldAddr (off' := 0) rfl Try.runUnderlying93 rfl Try.sizeOf3 rfl rfl) ?_
 refine Lst.rG hb24 (Ev.load (i := 0) rfl rfl Try.isAgg3 (v := iv x3.Promised) ((Voter.get_Promised (Get.here _)).off (by rfl))) ?_
 refine Lst.rG hb24 (Ev.gtr rfl rfl) ?_
 refine Lst.rG hb24 (Ev.move rfl) ?_
 obtain ⟨o25, H, HKo25⟩ := bind_some H
 refine Lst.join (σ := Bool) 6 (fun y26 => [(1, iv a1), (2, pv b1 0), (5, pv b6 0), (37, .bool y20), (47, .bool y26)]) (fun y26 => (.blk b6 (enc x3) 93) :: (.blk b1 (enc (SynodR.mk a0 s_a0_0 s_a0_1)) 44) :: L) (fun _ y26 => y26 = o25) ?_ ?_
 ·rcases (Bool.eq_false_or_eq_true (decide (x3.Promised > (0 : Int)))).symm with hb27 | hb27
  ·replace H := ite_f hb27 H
   refine Lst.skip rfl rfl rfl hb27 rfl (by decide) ?_
   refine Lst.skip rfl rfl rfl hb27 rfl (by decide) ?_
   refine Lst.skip rfl rfl rfl hb27 rfl (by decide) ?_
   refine Lst.skip rfl rfl rfl hb27 rfl (by decide) ?_
   refine Lst.skip rfl rfl rfl hb27 rfl (by decide) ?_
   refine Lst.rG hb24 (Ev.pickF rfl hb27 rfl) ?_
   refine Lst.nil ?_
   exact At.meet false (FLe.refl _) ⟨rfl, rfl, rfl, rfl, rfl, trivial⟩ rfl (some_inj H)
  replace H := ite_t hb27 H
  refine Lst.rG hb27 (Ev.loadA (i := 1) rfl rfl Try.isAgg44 Try.sizeOf44 (ch := enc (SynodR.mk a0 s_a0_0 s_a0_1)) (Enc.len _) (Get.here _)) ?_
  refine Lst.rG hb27 (Ev.fieldAddr (off' := 0) rfl Try.runUnderlying93 rfl Try.sizeOf3 rfl rfl) ?_
  refine Lst.rG hb27 (Ev.load (i := 0) rfl rfl Try.isAgg3 (v := iv x3.Promised) ((Voter.get_Promised (Get.here _)).off (by rfl))) ?_
  obtain ⟨r28, h29, H⟩ := bind_some H
  refine Lst.call1G rfl rfl rfl hb27 rfl (by decide) (vs := [.agg (enc (SynodR.mk a0 s_a0_0 s_a0_1)).toArray, iv x3.Promised]) ⟨rfl, rfl, trivial⟩ Try.call61 (synod_find_sim h29 w0 _ M _ (sc2 hM) (hs_a0_0.mono (FLe.trans (FLe.trans hF12 hF17) hF23) (.refl _)) (hs_a0_1.mono (FLe.trans (FLe.trans hF12 hF17) hF23) (.refl _))) ?_
  refine Lst.rG hb27 (Ev.lss rfl rfl) ?_
  refine Lst.rG hb24 (Ev.pickT rfl hb27 rfl) ?_
  refine Lst.nil ?_
  exact At.meet (decide (r28 < (0 : Int))) (FLe.refl _) ⟨rfl, rfl, rfl, rfl, rfl, trivial⟩ rfl (some_inj H)
 rintro F32 y26 hF33 hy
 subst hy
 refine Lst.as (e' := [(1, iv a1), (2, pv b1 0), (5, pv b6 0), (37, .bool y20), (47, .bool y26)]) (L' := (.blk b6 (enc x3) 93) :: (.blk b1 (enc (SynodR.mk a0 s_a0_0 s_a0_1)) 44) :: L) ⟨rfl, rfl, rfl, rfl, rfl, trivial⟩ rfl ?_
 replace H := HKo25
 refine Lst.r (Ev.pickF rfl hb24 rfl) ?_
 refine Lst.nil ?_
 refine At.then ?_
 rcases Bool.eq_false_or_eq_true y26 with hb34 | hb34
 ·replace H := ite_t hb34 H
  refine Cd.condT rfl hb34 ?_
  refine Cd.seq ?_
  refine Cd.region ?_
  refine Lst.r (Ev.assign rfl) ?_
  refine Lst.nil ?_
  refine At.then ?_
  obtain rfl := some_inj H
  refine Cd.ret ?_
  refine At.then_ret ?_
  exact At.ret1 rfl (Res.tmp rfl) (FLe.trans (FLe.trans (FLe.trans hF12 hF17) hF23) hF33) (sc1 (sc1 (.refl _))) ⟨rfl, rfl⟩
 replace H := ite_f hb34 H
 refine Cd.condF rfl hb34 ?_
 refine Cd.skip ?_
 refine At.then ?_
 refine Cd.seq ?_
 refine Cd.region ?_
 refine Lst.r (Ev.build (v := .agg (enc Round.zero).toArray) (pv := []) trivial (fun w => by kernel_rfl)) ?_
 refine Lst.alloc (cs := enc Round.zero) rfl rfl (by decide) Try.zeroValue91 rfl (fun b35 => ?_)
 refine Lst.store (i := 0) rfl rfl rfl rfl rfl Try.sizeOf91 (vs := enc Round.zero) rfl (Enc.len _) (Enc.one _) (cs' := enc Round.zero) (Put.here ((Enc.len _).trans (Enc.len _).symm)) (L' := (.blk b35 (enc Round.zero) 91) :: (.blk b6 (enc x3) 93) :: (.blk b1 (enc (SynodR.mk a0 s_a0_0 s_a0_1)) 44) :: L) rfl ?_
 refine Lst.nil ?_
 refine At.then ?_
 refine Cd.seq ?_
 refine Cd.seq ?_
 refine Cd.region ?_
 refine Lst.r (Ev.fieldAddr (off' := 1) rfl Try.runUnderlying44 rfl Try.sizeOf42 rfl rfl) ?_
 refine Lst.r (Ev.load (i := 2) rfl rfl Try.isAgg42 (v := Sl.v s_a0_1) ((SynodR.get_Rounds (Get.here _)).off (by rfl))) ?_
 refine Lst.r (Ev.lenS (α := Round) (xs := a0.Rounds) (by decide) rfl rfl Try.runUnderlying42 (hs_a0_1.mono (FLe.trans (FLe.trans (FLe.trans hF12 hF17) hF23) hF33) (sc2 (sc1 hM)))) ?_
 refine Lst.r (Ev.move rfl) ?_
 refine Lst.nil ?_
 refine At.then ?_
 refine Cd.block ?_
 refine Cd.bound (Rd.le (α := Round) (xs := a0.Rounds) (by decide) (hs_a0_1.mono (FLe.trans (FLe.trans (FLe.trans hF12 hF17) hF23) hF33) (sc2 (sc1 hM)))) (fun hN71 => ?_)
 obtain ⟨ol37, H, HKl37⟩ := andThen_some H
 refine Cd.loop (σ := Nat × Nat × Round) (fun (i37, k37, y38) => [(1, iv a1), (5, pv b6 0), (6, pv b35 0), (51, Sl.v s_a0_1), (52, iv (a0.Rounds.length : Int)), (53, iv (i37 : Int))]) (fun (i37, k37, y38) => (.blk b35 (enc y38) 91) :: (.blk b6 (enc x3) 93) :: (.blk b1 (enc (SynodR.mk a0 s_a0_0 s_a0_1)) 44) :: L) (fun _ => (fun (i37, k37, y38) => rangeM (synod_voter_B0 a0 a1 x3) k37 i37 y38 = some ol37 ∧ i37 + k37 = a0.Rounds.length)) (fun (i37, k37, y38) => k37) (0, a0.Rounds.length, Round.zero) ⟨rfl, rfl, rfl, rfl, rfl, rfl, trivial⟩ rfl ⟨H, by omega⟩ ?_
 rintro F39 ⟨i37, k37, y38⟩ hF40 ⟨H, hik37⟩
 refine Cd.as (e' := [(1, iv a1), (5, pv b6 0), (6, pv b35 0), (51, Sl.v s_a0_1), (52, iv (a0.Rounds.length : Int)), (53, iv (i37 : Int))]) (L' := (.blk b35 (enc y38) 91) :: (.blk b6 (enc x3) 93) :: (.blk b1 (enc (SynodR.mk a0 s_a0_0 s_a0_1)) 44) :: L) ⟨rfl, rfl, rfl, rfl, rfl, rfl, trivial⟩ rfl ?_
 rcases k37 with _ | k37
 ·have hc37 : decide ((i37 : Int) < (a0.Rounds.length : Int)) = false := decide_eq_false (by omega)
  replace H := rangeM_end H
  refine Cd.seq ?_
  refine Cd.region ?_
  refine Lst.r (Ev.lss rfl rfl) ?_
  refine Lst.nil ?_
  refine At.then ?_
  refine Cd.seq ?_
  refine Cd.condF rfl hc37 ?_
  refine Cd.exit ?_
  refine At.then_exit ?_
  refine At.then_exit ?_
  refine At.in_exit ?_
  subst H
  replace H := HKl37
  refine At.then ?_
  refine Cd.seq ?_
  refine Cd.seq ?_
  refine Cd.region ?_
  refine Lst.r (Ev.fieldAddr (off' := 1) rfl Try.runUnderlying93 rfl Try.sizeOf3 rfl rfl) ?_
  refine Lst.r (Ev.load (i := 1) rfl rfl Try.isAgg3 (v := iv x3.Voted) ((Voter.get_Voted (Get.here _)).off (by rfl))) ?_
  refine Lst.r (Ev.fieldAddr (off' := 0) rfl Try.runUnderlying91 rfl Try.sizeOf3 rfl rfl) ?_
  refine Lst.r (Ev.load (i := 0) rfl rfl Try.isAgg3 (v := iv y38.Ballot) ((Round.get_Ballot (Get.here _)).off (by rfl))) ?_
  refine Lst.r (Ev.neq rfl rfl) ?_
  refine Lst.r (Ev.move rfl) ?_
  rcases Bool.eq_false_or_eq_true (x3.Voted != y38.Ballot) with hb64 | hb64
  ·replace H := ite_t hb64 H
   refine Lst.skip rfl rfl rfl hb64 rfl (by decide) ?_
   refine Lst.skip rfl rfl rfl hb64 rfl (by decide) ?_
   refine Lst.skip rfl rfl rfl hb64 rfl (by decide) ?_
   refine Lst.skip rfl rfl rfl hb64 rfl (by decide) ?_
   refine Lst.skipU rfl rfl rfl rfl (by decide) ?_
   refine Lst.skipU rfl rfl rfl rfl (by decide) ?_
   refine Lst.skipU rfl rfl rfl rfl (by decide) ?_
   refine Lst.skipU rfl rfl rfl rfl (by decide) ?_
   refine Lst.skipU rfl rfl rfl rfl (by decide) ?_
   refine Lst.skip rfl rfl rfl hb64 rfl (by decide) ?_
   refine Lst.r (Ev.pickT rfl hb64 rfl) ?_
   refine Lst.nil ?_
   refine At.then ?_
   refine Cd.condT rfl rfl ?_
   refine Cd.seq ?_
   refine Cd.as (e' := []) (L' := (.blk b35 (enc y38) 91) :: (.blk b6 (enc x3) 93) :: (.blk b1 (enc (SynodR.mk a0 s_a0_0 s_a0_1)) 44) :: L) trivial rfl ?_
   refine Cd.region ?_
   refine Lst.r (Ev.assign rfl) ?_
   refine Lst.nil ?_
   refine At.then ?_
   obtain rfl := some_inj H
   refine Cd.ret ?_
   refine At.then_ret ?_
   exact At.ret1 rfl (Res.tmp rfl) (FLe.trans (FLe.trans (FLe.trans (FLe.trans hF12 hF17) hF23) hF33) hF40) (sc1 (sc1 (sc1 (.refl _)))) ⟨rfl, rfl⟩
  replace H := ite_f hb64 H
  refine Lst.rG hb64 (Ev.fieldAddr (off' := 0) rfl Try.runUnderlying91 rfl Try.sizeOf3 rfl rfl) ?_
  refine Lst.rG hb64 (Ev.load (i := 0) rfl rfl Try.isAgg3 (v := iv y38.Ballot) ((Round.get_Ballot (Get.here _)).off (by rfl))) ?_
  refine Lst.rG hb64 (Ev.gtr rfl rfl) ?_
  refine Lst.rG hb64 (Ev.move rfl) ?_
  obtain ⟨o65, H, HKo65⟩ := bind_some H
  refine Lst.join (σ := Bool) 6 (fun y66 => [(93, .bool (x3.Voted != y38.Ballot)), (103, .bool y66)]) (fun y66 => (.blk b35 (enc y38) 91) :: (.blk b6 (enc x3) 93) :: (.blk b1 (enc (SynodR.mk a0 s_a0_0 s_a0_1)) 44) :: L) (fun _ y66 => y66 = o65) ?_ ?_
  ·rcases (Bool.eq_false_or_eq_true (decide (y38.Ballot > (0 : Int)))).symm with hb67 | hb67
   ·replace H := ite_f hb67 H
    refine Lst.skip rfl rfl rfl hb67 rfl (by decide) ?_
    refine Lst.skip rfl rfl rfl hb67 rfl (by decide) ?_
    refine Lst.skip rfl rfl rfl hb67 rfl (by decide) ?_
    refine Lst.skip rfl rfl rfl hb67 rfl (by decide) ?_
    refine Lst.skip rfl rfl rfl hb67 rfl (by decide) ?_
    refine Lst.rG hb64 (Ev.pickF rfl hb67 rfl) ?_
    refine Lst.nil ?_
    exact At.meet false (FLe.refl _) ⟨rfl, rfl, trivial⟩ rfl (some_inj H)
   replace H := ite_t hb67 H
   refine Lst.rG hb67 (Ev.fieldAddr (off' := 2) rfl Try.runUnderlying93 rfl Try.sizeOf9 rfl rfl) ?_
   refine Lst.rG hb67 (Ev.load (i := 1) rfl rfl Try.isAgg9 (v := Str.v x3.Text) ((Voter.get_Text (Get.here _)).off (by rfl))) ?_
   refine Lst.rG hb67 (Ev.fieldAddr (off' := 5) rfl Try.runUnderlying91 rfl Try.sizeOf9 rfl rfl) ?_
   refine Lst.rG hb67 (Ev.load (i := 0) rfl rfl Try.isAgg9 (v := Str.v y38.Text) ((Round.get_Text (Get.here _)).off (by rfl))) ?_
   refine Lst.rG hb67 (Ev.neqStr (s := x3.Text) (m := y38.Text) rfl rfl) ?_
   refine Lst.rG hb64 (Ev.pickT rfl hb67 rfl) ?_
   refine Lst.nil ?_
   exact At.meet (!(decide (x3.Text = y38.Text))) (FLe.refl _) ⟨rfl, rfl, trivial⟩ rfl (some_inj H)
  rintro F68 y66 hF69 hy
  subst hy
  refine Lst.as (e' := [(93, .bool (x3.Voted != y38.Ballot)), (103, .bool y66)]) (L' := (.blk b35 (enc y38) 91) :: (.blk b6 (enc x3) 93) :: (.blk b1 (enc (SynodR.mk a0 s_a0_0 s_a0_1)) 44) :: L) ⟨rfl, rfl, trivial⟩ rfl ?_
  replace H := HKo65
  refine Lst.r (Ev.pickF rfl hb64 rfl) ?_
  refine Lst.nil ?_
  refine At.then ?_
  rcases Bool.eq_false_or_eq_true y66 with hb70 | hb70
  ·replace H := ite_t hb70 H
   refine Cd.condT rfl hb70 ?_
   refine Cd.seq ?_
   refine Cd.region ?_
   refine Lst.r (Ev.assign rfl) ?_
   refine Lst.nil ?_
   refine At.then ?_
   obtain rfl := some_inj H
   refine Cd.ret ?_
   refine At.then_ret ?_
   exact At.ret1 rfl (Res.tmp rfl) (FLe.trans (FLe.trans (FLe.trans (FLe.trans (FLe.trans hF12 hF17) hF23) hF33) hF40) hF69) (sc1 (sc1 (sc1 (.refl _)))) ⟨rfl, rfl⟩
  replace H := ite_f hb70 H
  refine Cd.condF rfl hb70 ?_
  refine Cd.skip ?_
  refine At.then ?_
  refine Cd.seq ?_
  refine Cd.region ?_
  refine Lst.r (Ev.assign rfl) ?_
  refine Lst.nil ?_
  refine At.then ?_
  obtain rfl := some_inj H
  refine Cd.ret ?_
  exact At.ret1 rfl (Res.tmp rfl) (FLe.trans (FLe.trans (FLe.trans (FLe.trans (FLe.trans hF12 hF17) hF23) hF33) hF40) hF69) (sc1 (sc1 (sc1 (.refl _)))) ⟨rfl, rfl⟩
 have hc37 : decide ((i37 : Int) < (a0.Rounds.length : Int)) = true := decide_eq_true (by omega)
 obtain ⟨c37, H, hgo37, hbrk37, hret37⟩ := rangeM_go H
 unfold synod_voter_B0 at H
 try dsimp only at H
 refine Cd.seq ?_
 refine Cd.region ?_
 refine Lst.r (Ev.lss rfl rfl) ?_
 refine Lst.nil ?_
 refine At.then ?_
 refine Cd.seq ?_
 refine Cd.condT rfl hc37 ?_
 refine Cd.skip ?_
 refine At.then ?_
 refine Cd.seq ?_
 refine Cd.block ?_
 refine Cd.seq ?_
 refine Cd.region ?_
 obtain ⟨x41, h42, H⟩ := bind_some H
 have g43 := lat_some h42
 refine Lst.r (Ev.indexS (α := Round) (xs := a0.Rounds) rfl rfl Try.runUnderlying42 Try.sizeOf91 rfl (by decide) (hs_a0_1.mono (FLe.trans (FLe.trans (FLe.trans (FLe.trans hF12 hF17) hF23) hF33) hF40) (sc2 (sc1 hM))) g43.1 g43.2.1) ?_
 refine Lst.r (Ev.loadSA (α := Round) rfl (hs_a0_1.mono (FLe.trans (FLe.trans (FLe.trans (FLe.trans hF12 hF17) hF23) hF33) hF40) (sc2 (sc1 hM))) Try.isAgg91 Try.sizeOf91 (ch := enc x41) (Enc.len _) (by decide) ((Get.elemN (s := 6) (x := x41) rfl g43.2.2 (Get.here _)).off (by omega))) ?_
 refine Lst.alloc (cs := enc Round.zero) rfl rfl (by decide) Try.zeroValue91 rfl (fun b44 => ?_)
 refine Lst.store (i := 0) rfl rfl rfl rfl rfl Try.sizeOf91 (vs := enc x41) rfl (Enc.len _) (Enc.one _) (cs' := enc x41) (Put.here ((Enc.len _).trans (Enc.len _).symm)) (L' := (.blk b44 (enc x41) 91) :: (.blk b35 (enc y38) 91) :: (.blk b6 (enc x3) 93) :: (.blk b1 (enc (SynodR.mk a0 s_a0_0 s_a0_1)) 44) :: L) rfl ?_
 refine Lst.nil ?_
 refine At.then ?_
 refine Cd.seq ?_
 refine Cd.seq ?_
 refine Cd.region ?_
 refine Lst.r (Ev.fieldAddr (off' := 2) rfl Try.runUnderlying91 rfl Try.sizeOf5 rfl rfl) ?_
 refine Lst.r (Ev.load (i := 0) rfl rfl Try.isAgg5 (v := .int .u8 x41.Promised.toNat) ((Round.get_Promised (Get.here _)).off (by rfl))) ?_
 refine Lst.r (Ev.fieldAddr (off' := 3) rfl Try.runUnderlying91 rfl Try.sizeOf5 rfl rfl) ?_
 refine Lst.r (Ev.load (i := 0) rfl rfl Try.isAgg5 (v := .int .u8 x41.Voted.toNat) ((Round.get_Voted (Get.here _)).off (by rfl))) ?_
 refine Lst.r (Ev.orU8 (i := x41.Promised) (j := x41.Voted) rfl rfl) ?_
 refine Lst.r (Ev.move rfl) ?_
 obtain ⟨n46, h47, H⟩ := bind_some H
 refine Lst.r (Ev.shrU8 (i := x41.Promised ||| x41.Voted) (m := n46) rfl (congrArg some (congrArg (Value.int .i64) (cnt_some h47)))) ?_
 refine Lst.r (Ev.andU8 (i := (x41.Promised ||| x41.Voted) >>> n46) (j := (1 : BitVec 8)) rfl rfl) ?_
 refine Lst.r (Ev.eql rfl rfl) ?_
 refine Lst.r (Ev.move rfl) ?_
 obtain ⟨o49, H, HKo49⟩ := bind_some H
 refine Lst.join (σ := Bool) 6 (fun y50 => [(1, iv a1), (5, pv b6 0), (6, pv b35 0), (8, pv b44 0), (51, Sl.v s_a0_1), (52, iv (a0.Rounds.length : Int)), (53, iv (i37 : Int)), (72, .bool y50)]) (fun y50 => (.blk b44 (enc x41) 91) :: (.blk b35 (enc y38) 91) :: (.blk b6 (enc x3) 93) :: (.blk b1 (enc (SynodR.mk a0 s_a0_0 s_a0_1)) 44) :: L) (fun _ y50 => y50 = o49) ?_ ?_
 ·rcases (Bool.eq_false_or_eq_true (((((x41.Promised ||| x41.Voted) >>> n46) &&& (1 : BitVec 8)).toNat : Int) == ((1 : BitVec 8).toNat : Int))).symm with hb51 | hb51
  ·replace H := ite_f hb51 H
   refine Lst.skip rfl rfl rfl hb51 rfl (by decide) ?_
   refine Lst.skip rfl rfl rfl hb51 rfl (by decide) ?_
   refine Lst.skip rfl rfl rfl hb51 rfl (by decide) ?_
   refine Lst.skip rfl rfl rfl hb51 rfl (by decide) ?_
   refine Lst.skip rfl rfl rfl hb51 rfl (by decide) ?_
   refine Lst.r (Ev.pickF rfl hb51 rfl) ?_
   refine Lst.nil ?_
   exact At.meet false (FLe.refl _) ⟨rfl, rfl, rfl, rfl, rfl, rfl, rfl, rfl, trivial⟩ rfl (some_inj H)
  replace H := ite_t hb51 H
  refine Lst.rG hb51 (Ev.fieldAddr (off' := 0) rfl Try.runUnderlying91 rfl Try.sizeOf3 rfl rfl) ?_
  refine Lst.rG hb51 (Ev.load (i := 0) rfl rfl Try.isAgg3 (v := iv x41.Ballot) ((Round.get_Ballot (Get.here _)).off (by rfl))) ?_
  refine Lst.rG hb51 (Ev.fieldAddr (off' := 0) rfl Try.runUnderlying93 rfl Try.sizeOf3 rfl rfl) ?_
  refine Lst.rG hb51 (Ev.load (i := 2) rfl rfl Try.isAgg3 (v := iv x3.Promised) ((Voter.get_Promised (Get.here _)).off (by rfl))) ?_
  refine Lst.rG hb51 (Ev.gtr rfl rfl) ?_
  refine Lst.r (Ev.pickT rfl hb51 rfl) ?_
  refine Lst.nil ?_
  exact At.meet (decide (x41.Ballot > x3.Promised)) (FLe.refl _) ⟨rfl, rfl, rfl, rfl, rfl, rfl, rfl, rfl, trivial⟩ rfl (some_inj H)
 rintro F52 y50 hF53 hy
 subst hy
 refine Lst.as (e' := [(1, iv a1), (5, pv b6 0), (6, pv b35 0), (8, pv b44 0), (51, Sl.v s_a0_1), (52, iv (a0.Rounds.length : Int)), (53, iv (i37 : Int)), (72, .bool y50)]) (L' := (.blk b44 (enc x41) 91) :: (.blk b35 (enc y38) 91) :: (.blk b6 (enc x3) 93) :: (.blk b1 (enc (SynodR.mk a0 s_a0_0 s_a0_1)) 44) :: L) ⟨rfl, rfl, rfl, rfl, rfl, rfl, rfl, rfl, trivial⟩ rfl ?_
 replace H := HKo49
 refine Lst.nil ?_
 refine At.then ?_
 rcases Bool.eq_false_or_eq_true y50 with hb54 | hb54
 ·replace H := ite_t hb54 H
  refine Cd.condT rfl hb54 ?_
  refine Cd.seq ?_
  refine Cd.region ?_
  refine Lst.r (Ev.assign rfl) ?_
  refine Lst.nil ?_
  refine At.then ?_
  have H := hret37 _ (some_inj H).symm
  subst H
  replace H := HKl37
  obtain rfl := some_inj H
  refine Cd.ret ?_
  refine At.then_ret ?_
  refine At.in_ret ?_
  refine At.then_ret ?_
  refine At.then_ret ?_
  refine At.in_ret ?_
  refine At.then_ret ?_
  exact At.ret1 rfl (Res.tmp rfl) (FLe.trans (FLe.trans (FLe.trans (FLe.trans (FLe.trans hF12 hF17) hF23) hF33) hF40) hF53) (sc1 (sc1 (sc1 (sc1 (.refl _))))) ⟨rfl, rfl⟩
 replace H := ite_f hb54 H
 refine Cd.condF rfl hb54 ?_
 refine Cd.skip ?_
 refine At.then ?_
 refine Cd.seq ?_
 refine Cd.region ?_
 refine Lst.r (Ev.fieldAddr (off' := 3) rfl Try.runUnderlying91 rfl Try.sizeOf5 rfl rfl) ?_
 refine Lst.r (Ev.load (i := 0) rfl rfl Try.isAgg5 (v := .int .u8 x41.Voted.toNat) ((Round.get_Voted (Get.here _)).off (by rfl))) ?_
 refine Lst.r (Ev.move rfl) ?_
 obtain ⟨n55, h56, H⟩ := bind_some H
 refine Lst.r (Ev.shrU8 (i := x41.Voted) (m := n55) rfl (congrArg some (congrArg (Value.int .i64) (cnt_some h56)))) ?_
 refine Lst.r (Ev.andU8 (i := x41.Voted >>> n55) (j := (1 : BitVec 8)) rfl rfl) ?_
 refine Lst.r (Ev.eql rfl rfl) ?_
 refine Lst.r (Ev.move rfl) ?_
 obtain ⟨o58, H, HKo58⟩ := bind_some H
 refine Lst.join (σ := Bool) 6 (fun y59 => [(1, iv a1), (5, pv b6 0), (6, pv b35 0), (8, pv b44 0), (51, Sl.v s_a0_1), (52, iv (a0.Rounds.length : Int)), (53, iv (i37 : Int)), (85, .bool y59)]) (fun y59 => (.blk b44 (enc x41) 91) :: (.blk b35 (enc y38) 91) :: (.blk b6 (enc x3) 93) :: (.blk b1 (enc (SynodR.mk a0 s_a0_0 s_a0_1)) 44) :: L) (fun _ y59 => y59 = o58) ?_ ?_
 ·rcases (Bool.eq_false_or_eq_true ((((x41.Voted >>> n55) &&& (1 : BitVec 8)).toNat : Int) == ((1 : BitVec 8).toNat : Int))).symm with hb60 | hb60
  ·replace H := ite_f hb60 H
   refine Lst.skip rfl rfl rfl hb60 rfl (by decide) ?_
   refine Lst.skip rfl rfl rfl hb60 rfl (by decide) ?_
   refine Lst.skip rfl rfl rfl hb60 rfl (by decide) ?_
   refine Lst.skip rfl rfl rfl hb60 rfl (by decide) ?_
   refine Lst.skip rfl rfl rfl hb60 rfl (by decide) ?_
   refine Lst.r (Ev.pickF rfl hb60 rfl) ?_
   refine Lst.nil ?_
   exact At.meet false (FLe.refl _) ⟨rfl, rfl, rfl, rfl, rfl, rfl, rfl, rfl, trivial⟩ rfl (some_inj H)
  replace H := ite_t hb60 H
  refine Lst.rG hb60 (Ev.fieldAddr (off' := 0) rfl Try.runUnderlying91 rfl Try.sizeOf3 rfl rfl) ?_
  refine Lst.rG hb60 (Ev.load (i := 0) rfl rfl Try.isAgg3 (v := iv x41.Ballot) ((Round.get_Ballot (Get.here _)).off (by rfl))) ?_
  refine Lst.rG hb60 (Ev.fieldAddr (off' := 0) rfl Try.runUnderlying91 rfl Try.sizeOf3 rfl rfl) ?_
  refine Lst.rG hb60 (Ev.load (i := 1) rfl rfl Try.isAgg3 (v := iv y38.Ballot) ((Round.get_Ballot (Get.here _)).off (by rfl))) ?_
  refine Lst.rG hb60 (Ev.gtr rfl rfl) ?_
  refine Lst.r (Ev.pickT rfl hb60 rfl) ?_
  refine Lst.nil ?_
  exact At.meet (decide (x41.Ballot > y38.Ballot)) (FLe.refl _) ⟨rfl, rfl, rfl, rfl, rfl, rfl, rfl, rfl, trivial⟩ rfl (some_inj H)
 rintro F61 y59 hF62 hy
 subst hy
 refine Lst.as (e' := [(1, iv a1), (5, pv b6 0), (6, pv b35 0), (8, pv b44 0), (51, Sl.v s_a0_1), (52, iv (a0.Rounds.length : Int)), (53, iv (i37 : Int)), (85, .bool y59)]) (L' := (.blk b44 (enc x41) 91) :: (.blk b35 (enc y38) 91) :: (.blk b6 (enc x3) 93) :: (.blk b1 (enc (SynodR.mk a0 s_a0_0 s_a0_1)) 44) :: L) ⟨rfl, rfl, rfl, rfl, rfl, rfl, rfl, rfl, trivial⟩ rfl ?_
 replace H := HKo58
 refine Lst.nil ?_
 refine At.then ?_
 rcases (Bool.eq_false_or_eq_true y59).symm with hb63 | hb63
 ·replace H := ite_f hb63 H
  refine Cd.condF rfl hb63 ?_
  refine Cd.skip ?_
  refine At.in_normal ?_
  refine At.then ?_
  refine Cd.region ?_
  refine Lst.r (Ev.incr (by omega) rfl rfl) ?_
  refine Lst.r (Ev.move rfl) ?_
  refine Lst.nil ?_
  refine At.less (L' := (.blk b35 (enc y38) 91) :: (.blk b6 (enc x3) 93) :: (.blk b1 (enc (SynodR.mk a0 s_a0_0 s_a0_1)) 44) :: L) (sc1 (sk1 (sk1 (sk1 (.refl _))))) ?_
  exact At.meet (i37 + 1, k37, y38) (FLe.trans (FLe.trans hF40 hF53) hF62) ⟨rfl, rfl, rfl, rfl, rfl, rfl, trivial⟩ rfl ⟨⟨hgo37 _ (some_inj H).symm, by omega⟩, Nat.lt_succ_self _⟩
 replace H := ite_t hb63 H
 refine Cd.condT rfl hb63 ?_
 refine Cd.region ?_
 refine Lst.r (Ev.loadA (i := 0) rfl rfl Try.isAgg91 Try.sizeOf91 (ch := enc x41) (Enc.len _) (Get.here _)) ?_
 refine Lst.store (i := 1) rfl rfl rfl rfl rfl Try.sizeOf91 (vs := enc x41) rfl (Enc.len _) (Enc.one _) (cs' := enc x41) (Put.here ((Enc.len _).trans (Enc.len _).symm)) (L' := (.blk b44 (enc x41) 91) :: (.blk b35 (enc x41) 91) :: (.blk b6 (enc x3) 93) :: (.blk b1 (enc (SynodR.mk a0 s_a0_0 s_a0_1)) 44) :: L) rfl ?_
 refine Lst.nil ?_
 refine At.in_normal ?_
 refine At.then ?_
 refine Cd.region ?_
 refine Lst.r (Ev.incr (by omega) rfl rfl) ?_
 refine Lst.r (Ev.move rfl) ?_
 refine Lst.nil ?_
 refine At.less (L' := (.blk b35 (enc x41) 91) :: (.blk b6 (enc x3) 93) :: (.blk b1 (enc (SynodR.mk a0 s_a0_0 s_a0_1)) 44) :: L) (sc1 (sk1 (sk1 (sk1 (.refl _))))) ?_
 exact At.meet (i37 + 1, k37, x41) (FLe.trans (FLe.trans hF40 hF53) hF62) ⟨rfl, rfl, rfl, rfl, rfl, rfl, trivial⟩ rfl ⟨⟨hgo37 _ (some_inj H).symm, by omega⟩, Nat.lt_succ_self _⟩
set_option maxRecDepth 20000 in
theorem synod_Check_sim {a0 : Synod} {s_a0_0 : Sl} {s_a0_1 : Sl} {r : Int} (H : synod_Check a0 = some r) (w0 : World) (F : Frz) (M L : List Item) (hM : M.Sublist L) (hs_a0_0 : Rd w0 F M s_a0_0 a0.Voters) (hs_a0_1 : Rd w0 F M s_a0_1 a0.Rounds) : Ok Try.prog w0 25 [.agg (enc (SynodR.mk a0 s_a0_0 s_a0_1)).toArray] F (L) (Is (iv r) (L)) := by
 unfold synod_Check at H
 refine Ok.enter (m := 1) (n := 44) Try.func25 rfl rfl rfl (by decide) ?_
 refine Cd.env (e' := [(0, .agg (enc (SynodR.mk a0 s_a0_0 s_a0_1)).toArray)]) rfl ?_
 refine Cd.seq ?_
 refine Cd.region ?_
 refine Lst.box rfl rfl (by decide) rfl (cs := enc (SynodR.mk a0 s_a0_0 s_a0_1)) rfl (fun b1 => ?_)
 refine Lst.r (Ev.assign rfl) ?_
 refine Lst.nil ?_
 refine At.then ?_
 refine Cd.seq ?_
 refine Cd.seq ?_
 refine Cd.region ?_
 refine Lst.r (Ev.fieldAddr (off' := 0) rfl Try.runUnderlying44 rfl Try.sizeOf41 rfl rfl) ?_
 refine Lst.r (Ev.load (i := 0) rfl rfl Try.isAgg41 (v := Sl.v s_a0_0) ((SynodR.get_Voters (Get.here _)).off (by rfl))) ?_
 refine Lst.r (Ev.lenS (α := Voter) (xs := a0.Voters) (by decide) rfl rfl Try.runUnderlying41 (hs_a0_0.mono (FLe.refl _) (sc1 hM))) ?_
 obtain ⟨r3, h4, H⟩ := bind_some H
 refine Lst.call1 rfl rfl (by decide) (vs := [iv (a0.Voters.length : Int), iv (1 : Int), iv (6 : Int)]) ⟨rfl, rfl, rfl, trivial⟩ Try.call62 (synod_in_sim h4 w0 _ M _ (sc1 hM)) ?_
 refine Lst.r (Ev.not rfl) ?_
 refine Lst.r (Ev.move rfl) ?_
 obtain ⟨o7, H, HKo7⟩ := bind_some H
 refine Lst.join (σ := Bool) 5 (fun y8 => [(1, pv b1 0), (17, .bool y8)]) (fun y8 => (.blk b1 (enc (SynodR.mk a0 s_a0_0 s_a0_1)) 44) :: L) (fun _ y8 => y8 = o7) ?_ ?_
 ·rcases Bool.eq_false_or_eq_true (!r3) with hb9 | hb9
  ·replace H := ite_t hb9 H
   refine Lst.skip rfl rfl rfl hb9 rfl (by decide) ?_
   refine Lst.skip rfl rfl rfl hb9 rfl (by decide) ?_
   refine Lst.skip rfl rfl rfl hb9 rfl (by decide) ?_
   refine Lst.skip rfl rfl rfl hb9 rfl (by decide) ?_
   refine Lst.r (Ev.pickT rfl hb9 rfl) ?_
   refine Lst.nil ?_
   exact At.meet true (FLe.refl _) ⟨rfl, rfl, trivial⟩ rfl (some_inj H)
  replace H := ite_f hb9 H
  refine Lst.rG hb9 (Ev.fieldAddr (off' := 1) rfl Try.runUnderlying44 rfl Try.sizeOf42 rfl rfl) ?_
  refine Lst.rG hb9 (Ev.load (i := 0) rfl rfl Try.isAgg42 (v := Sl.v s_a0_1) ((SynodR.get_Rounds (Get.here _)).off (by rfl))) ?_
  refine Lst.rG hb9 (Ev.lenS (α := Round) (xs := a0.Rounds) (by decide) rfl rfl Try.runUnderlying42 (hs_a0_1.mono (FLe.refl _) (sc1 hM))) ?_
  refine Lst.rG hb9 (Ev.gtr rfl rfl) ?_
  refine Lst.r (Ev.pickF rfl hb9 rfl) ?_
  refine Lst.nil ?_
  exact At.meet (decide ((a0.Rounds.length : Int) > (30 : Int))) (FLe.refl _) ⟨rfl, rfl, trivial⟩ rfl (some_inj H)
 rintro F10 y8 hF11 hy
 subst hy
 refine Lst.as (e' := [(1, pv b1 0), (17, .bool y8)]) (L' := (.blk b1 (enc (SynodR.mk a0 s_a0_0 s_a0_1)) 44) :: L) ⟨rfl, rfl, trivial⟩ rfl ?_
 replace H := HKo7
 refine Lst.nil ?_
 refine At.then ?_
 rcases Bool.eq_false_or_eq_true y8 with hb12 | hb12
 ·replace H := ite_t hb12 H
  refine Cd.condT rfl hb12 ?_
  refine Cd.seq ?_
  refine Cd.region ?_
  refine Lst.r (Ev.assign rfl) ?_
  refine Lst.nil ?_
  refine At.then ?_
  obtain rfl := some_inj H
  refine Cd.ret ?_
  refine At.then_ret ?_
  exact At.ret1 rfl (Res.tmp rfl) hF11 (sc1 (.refl _)) ⟨rfl, rfl⟩
 replace H := ite_f hb12 H
 refine Cd.condF rfl hb12 ?_
 refine Cd.skip ?_
 refine At.then ?_
 refine Cd.seq ?_
 refine Cd.seq ?_
 refine Cd.region ?_
 refine Lst.r (Ev.fieldAddr (off' := 1) rfl Try.runUnderlying44 rfl Try.sizeOf42 rfl rfl) ?_
 refine Lst.r (Ev.load (i := 0) rfl rfl Try.isAgg42 (v := Sl.v s_a0_1) ((SynodR.get_Rounds (Get.here _)).off (by rfl))) ?_
 refine Lst.r (Ev.lenS (α := Round) (xs := a0.Rounds) (by decide) rfl rfl Try.runUnderlying42 (hs_a0_1.mono hF11 (sc1 hM))) ?_
 refine Lst.r (Ev.move rfl) ?_
 refine Lst.nil ?_
 refine At.then ?_
 refine Cd.block ?_
 refine Cd.bound (Rd.le (α := Round) (xs := a0.Rounds) (by decide) (hs_a0_1.mono hF11 (sc1 hM))) (fun hN30 => ?_)
 obtain ⟨ol13, H, HKl13⟩ := andThen_some H
 refine Cd.loop (σ := Nat × Nat × Unit) (fun (i13, k13, _u) => [(1, pv b1 0), (20, iv (a0.Rounds.length : Int)), (21, iv (i13 : Int))]) (fun (i13, k13, _u) => (.blk b1 (enc (SynodR.mk a0 s_a0_0 s_a0_1)) 44) :: L) (fun _ => (fun (i13, k13, _u) => rangeM (synod_Check_B0 a0) k13 i13 () = some ol13 ∧ i13 + k13 = a0.Rounds.length)) (fun (i13, k13, _u) => k13) (0, a0.Rounds.length, ()) ⟨rfl, rfl, rfl, trivial⟩ rfl ⟨H, by omega⟩ ?_
 rintro F14 ⟨i13, k13, _u⟩ hF15 ⟨H, hik13⟩
 refine Cd.as (e' := [(1, pv b1 0), (20, iv (a0.Rounds.length : Int)), (21, iv (i13 : Int))]) (L' := (.blk b1 (enc (SynodR.mk a0 s_a0_0 s_a0_1)) 44) :: L) ⟨rfl, rfl, rfl, trivial⟩ rfl ?_
 rcases k13 with _ | k13
 ·have hc13 : decide ((i13 : Int) < (a0.Rounds.length : Int)) = false := decide_eq_false (by omega)
  replace H := rangeM_end H
  refine Cd.seq ?_
  refine Cd.region ?_
  refine Lst.r (Ev.lss rfl rfl) ?_
  refine Lst.nil ?_
  refine At.then ?_
  refine Cd.seq ?_
  refine Cd.condF rfl hc13 ?_
  refine Cd.exit ?_
  refine At.then_exit ?_
  refine At.then_exit ?_
  refine At.in_exit ?_
  subst H
  replace H := HKl13
  refine At.then ?_
  refine Cd.seq ?_
  refine Cd.seq ?_
  refine Cd.region ?_
  refine Lst.r (Ev.fieldAddr (off' := 0) rfl Try.runUnderlying44 rfl Try.sizeOf41 rfl rfl) ?_
  refine Lst.r (Ev.load (i := 0) rfl rfl Try.isAgg41 (v := Sl.v s_a0_0) ((SynodR.get_Voters (Get.here _)).off (by rfl))) ?_
  refine Lst.r (Ev.lenS (α := Voter) (xs := a0.Voters) (by decide) rfl rfl Try.runUnderlying41 (hs_a0_0.mono (FLe.trans hF11 hF15) (sc1 hM))) ?_
  refine Lst.r (Ev.move rfl) ?_
  refine Lst.nil ?_
  refine At.then ?_
  refine Cd.block ?_
  refine Cd.bound (Rd.le (α := Voter) (xs := a0.Voters) (by decide) (hs_a0_0.mono (FLe.trans hF11 hF15) (sc1 hM))) (fun hN29 => ?_)
  obtain ⟨ol21, H, HKl21⟩ := andThen_some H
  refine Cd.loop (σ := Nat × Nat × Unit) (fun (i21, k21, _u) => [(1, pv b1 0), (33, iv (a0.Voters.length : Int)), (34, iv (i21 : Int))]) (fun (i21, k21, _u) => (.blk b1 (enc (SynodR.mk a0 s_a0_0 s_a0_1)) 44) :: L) (fun _ => (fun (i21, k21, _u) => rangeM (synod_Check_B2 a0) k21 i21 () = some ol21 ∧ i21 + k21 = a0.Voters.length)) (fun (i21, k21, _u) => k21) (0, a0.Voters.length, ()) ⟨rfl, rfl, rfl, trivial⟩ rfl ⟨H, by omega⟩ ?_
  rintro F22 ⟨i21, k21, _u⟩ hF23 ⟨H, hik21⟩
  refine Cd.as (e' := [(1, pv b1 0), (33, iv (a0.Voters.length : Int)), (34, iv (i21 : Int))]) (L' := (.blk b1 (enc (SynodR.mk a0 s_a0_0 s_a0_1)) 44) :: L) ⟨rfl, rfl, rfl, trivial⟩ rfl ?_
  rcases k21 with _ | k21
  ·have hc21 : decide ((i21 : Int) < (a0.Voters.length : Int)) = false := decide_eq_false (by omega)
   replace H := rangeM_end H
   refine Cd.seq ?_
   refine Cd.region ?_
   refine Lst.r (Ev.lss rfl rfl) ?_
   refine Lst.nil ?_
   refine At.then ?_
   refine Cd.seq ?_
   refine Cd.condF rfl hc21 ?_
   refine Cd.exit ?_
   refine At.then_exit ?_
   refine At.then_exit ?_
   refine At.in_exit ?_
   subst H
   replace H := HKl21
   refine At.then ?_
   refine Cd.seq ?_
   refine Cd.region ?_
   refine Lst.r (Ev.assign rfl) ?_
   refine Lst.nil ?_
   refine At.then ?_
   obtain rfl := some_inj H
   refine Cd.ret ?_
   exact At.ret1 rfl (Res.tmp rfl) (FLe.trans (FLe.trans hF11 hF15) hF23) (sc1 (.refl _)) ⟨rfl, rfl⟩
  have hc21 : decide ((i21 : Int) < (a0.Voters.length : Int)) = true := decide_eq_true (by omega)
  obtain ⟨c21, H, hgo21, hbrk21, hret21⟩ := rangeM_go H
  unfold synod_Check_B2 at H
  try dsimp only at H
  refine Cd.seq ?_
  refine Cd.region ?_
  refine Lst.r (Ev.lss rfl rfl) ?_
  refine Lst.nil ?_
  refine At.then ?_
  refine Cd.seq ?_
  refine Cd.condT rfl hc21 ?_
  refine Cd.skip ?_
  refine At.then ?_
  refine Cd.seq ?_
  refine Cd.block ?_
  refine Cd.seq ?_
  refine Cd.region ?_
  refine Lst.r (Ev.move rfl) ?_
  refine Lst.r (Ev.assign rfl) ?_
  refine Lst.nil ?_
  refine At.then ?_
  refine Cd.seq ?_
  refine Cd.region ?_
  refine Lst.r (Ev.loadA (i := 0) rfl rfl Try.isAgg44 Try.sizeOf44 (ch := enc (SynodR.mk a0 s_a0_0 s_a0_1)) (Enc.len _) (Get.here _)) ?_
  refine Lst.r (Ev.move rfl) ?_
  obtain ⟨r24, h25, H⟩ := bind_some H
  refine Lst.call1 rfl rfl (by decide) (vs := [.agg (enc (SynodR.mk a0 s_a0_0 s_a0_1)).toArray, iv (i21 : Int)]) ⟨rfl, rfl, trivial⟩ Try.call70 (synod_voter_sim h25 w0 _ M _ (sc1 hM) (hs_a0_0.mono (FLe.trans (FLe.trans hF11 hF15) hF23) (.refl _)) (hs_a0_1.mono (FLe.trans (FLe.trans hF11 hF15) hF23) (.refl _))) ?_
  refine Lst.r (Ev.assign rfl) ?_
  refine Lst.nil ?_
  refine At.then ?_
  refine Cd.seq ?_
  refine Cd.region ?_
  refine Lst.r (Ev.move rfl) ?_
  refine Lst.r (Ev.neq rfl rfl) ?_
  refine Lst.nil ?_
  refine At.then ?_
  rcases Bool.eq_false_or_eq_true (r24 != (0 : Int)) with hb28 | hb28
  ·replace H := ite_t hb28 H
   refine Cd.condT rfl hb28 ?_
   refine Cd.seq ?_
   refine Cd.region ?_
   refine Lst.r (Ev.move rfl) ?_
   refine Lst.r (Ev.assign rfl) ?_
   refine Lst.nil ?_
   refine At.then ?_
   have H := hret21 _ (some_inj H).symm
   subst H
   replace H := HKl21
   obtain rfl := some_inj H
   refine Cd.ret ?_
   refine At.in_ret ?_
   refine At.then_ret ?_
   refine At.then_ret ?_
   refine At.in_ret ?_
   refine At.then_ret ?_
   exact At.ret1 rfl (Res.tmp rfl) (FLe.trans (FLe.trans hF11 hF15) hF23) (sc1 (.refl _)) ⟨rfl, rfl⟩
  replace H := ite_f hb28 H
  refine Cd.condF rfl hb28 ?_
  refine Cd.skip ?_
  refine At.in_normal ?_
  refine At.then ?_
  refine Cd.region ?_
  refine Lst.r (Ev.incr (by omega) rfl rfl) ?_
  refine Lst.r (Ev.move rfl) ?_
  refine Lst.nil ?_
  exact At.meet (i21 + 1, k21, ()) hF23 ⟨rfl, rfl, rfl, trivial⟩ rfl ⟨⟨hgo21 _ (some_inj H).symm, by omega⟩, Nat.lt_succ_self _⟩
 have hc13 : decide ((i13 : Int) < (a0.Rounds.length : Int)) = true := decide_eq_true (by omega)
 obtain ⟨c13, H, hgo13, hbrk13, hret13⟩ := rangeM_go H
 unfold synod_Check_B0 at H
 try dsimp only at H
 refine Cd.seq ?_
 refine Cd.region ?_
 refine Lst.r (Ev.lss rfl rfl) ?_
 refine Lst.nil ?_
 refine At.then ?_
 refine Cd.seq ?_
 refine Cd.condT rfl hc13 ?_
 refine Cd.skip ?_
 refine At.then ?_
 refine Cd.seq ?_
 refine Cd.block ?_
 refine Cd.seq ?_
 refine Cd.region ?_
 refine Lst.r (Ev.move rfl) ?_
 refine Lst.r (Ev.assign rfl) ?_
 refine Lst.nil ?_
 refine At.then ?_
 refine Cd.seq ?_
 refine Cd.region ?_
 refine Lst.r (Ev.loadA (i := 0) rfl rfl Try.isAgg44 Try.sizeOf44 (ch := enc (SynodR.mk a0 s_a0_0 s_a0_1)) (Enc.len _) (Get.here _)) ?_
 refine Lst.r (Ev.move rfl) ?_
 obtain ⟨r16, h17, H⟩ := bind_some H
 refine Lst.call1 rfl rfl (by decide) (vs := [.agg (enc (SynodR.mk a0 s_a0_0 s_a0_1)).toArray, iv (i13 : Int)]) ⟨rfl, rfl, trivial⟩ Try.call69 (synod_round_sim h17 w0 _ M _ (sc1 hM) (hs_a0_0.mono (FLe.trans hF11 hF15) (.refl _)) (hs_a0_1.mono (FLe.trans hF11 hF15) (.refl _))) ?_
 refine Lst.r (Ev.assign rfl) ?_
 refine Lst.nil ?_
 refine At.then ?_
 refine Cd.seq ?_
 refine Cd.region ?_
 refine Lst.r (Ev.move rfl) ?_
 refine Lst.r (Ev.neq rfl rfl) ?_
 refine Lst.nil ?_
 refine At.then ?_
 rcases Bool.eq_false_or_eq_true (r16 != (0 : Int)) with hb20 | hb20
 ·replace H := ite_t hb20 H
  refine Cd.condT rfl hb20 ?_
  refine Cd.seq ?_
  refine Cd.region ?_
  refine Lst.r (Ev.move rfl) ?_
  refine Lst.r (Ev.assign rfl) ?_
  refine Lst.nil ?_
  refine At.then ?_
  have H := hret13 _ (some_inj H).symm
  subst H
  replace H := HKl13
  obtain rfl := some_inj H
  refine Cd.ret ?_
  refine At.in_ret ?_
  refine At.then_ret ?_
  refine At.then_ret ?_
  refine At.in_ret ?_
  refine At.then_ret ?_
  exact At.ret1 rfl (Res.tmp rfl) (FLe.trans hF11 hF15) (sc1 (.refl _)) ⟨rfl, rfl⟩
 replace H := ite_f hb20 H
 refine Cd.condF rfl hb20 ?_
 refine Cd.skip ?_
 refine At.in_normal ?_
 refine At.then ?_
 refine Cd.region ?_
 refine Lst.r (Ev.incr (by omega) rfl rfl) ?_
 refine Lst.r (Ev.move rfl) ?_
 refine Lst.nil ?_
 exact At.meet (i13 + 1, k13, ()) hF15 ⟨rfl, rfl, rfl, trivial⟩ rfl ⟨⟨hgo13 _ (some_inj H).symm, by omega⟩, Nat.lt_succ_self _⟩
set_option maxRecDepth 20000 in
theorem slices_Clone_api_Voter_api_Voter_sim {a0 : List Voter} {s_a0 : Sl} {r : (List Voter)} (H : slices_Clone_api_Voter_api_Voter a0 = some r) (w0 : World) (F : Frz) (M L : List Item) (hM : M.Sublist L) (hs_a0 : Rd w0 F M s_a0 a0) : Ok Try.prog w0 63 [Sl.v s_a0] F (L) (fun _ L' v => ∃ (s1 : Sl), v = Sl.v s1 ∧ L' = (.own s1 93 3 (encs r)) :: L) := by
 unfold slices_Clone_api_Voter_api_Voter at H
 refine Ok.enter (m := 1) (n := 8) Try.func63 rfl rfl rfl (by decide) ?_
 refine Cd.env (e' := [(0, Sl.v s_a0)]) rfl ?_
 refine Cd.seq ?_
 refine Cd.region ?_
 refine Lst.addNil 93 3 ?_
 refine Lst.r (Ev.assign rfl) ?_
 refine Lst.nil ?_
 refine At.then ?_
 refine Cd.seq ?_
 refine Cd.seq ?_
 refine Cd.region ?_
 refine Lst.r (Ev.move rfl) ?_
 refine Lst.r (Ev.eqlNil rfl Try.runUnderlying41) ?_
 refine Lst.nil ?_
 refine At.then ?_
 rcases Bool.eq_false_or_eq_true ((Sl.a s_a0).isNone) with hb2 | hb2
 ·refine Cd.bound (Rd.isNil (α := Voter) (by decide) (hs_a0.mono (FLe.refl _) (sc1 hM)) hb2) (fun hx9 => ?_)
  rw [clone_nil hx9] at H
  refine Cd.condT rfl hb2 ?_
  refine Cd.seq ?_
  refine Cd.region ?_
  refine Lst.addNil 93 3 ?_
  refine Lst.r (Ev.assign rfl) ?_
  refine Lst.nil ?_
  refine At.then ?_
  obtain rfl := some_inj H
  refine Cd.ret ?_
  refine At.then_ret ?_
  exact At.ret1 rfl (Res.tmp rfl) (FLe.refl _) (sk1 (sc1 (.refl _))) ⟨Sl.nil, rfl, rfl⟩
 refine Cd.condF rfl hb2 ?_
 refine Cd.skip ?_
 refine At.then ?_
 refine Cd.seq ?_
 refine Cd.region ?_
 refine Lst.buildSlice0 rfl rfl (by decide) Try.runUnderlying41 Try.sizeOf93 (fun s3 => ?_)
 refine Lst.its (L' := (.own s3 93 3 (encs ([] : List Voter))) :: (.own Sl.nil 93 3 (encs ([] : List Voter))) :: L) rfl ?_
 refine Lst.r (Ev.move rfl) ?_
 obtain ⟨u5, h6, H⟩ := bind_some H
 refine Lst.append (i := 0) (α := Voter) (xs := ([] : List Voter)) (ys := a0) rfl rfl (by decide) rfl rfl Try.runUnderlying41 Try.typeInfo93 rfl rfl rfl rfl rfl rfl (hs_a0.mono (FLe.refl _) (sc2 hM)) rfl (room_some h6) rfl (fun s7 => ?_)
 refine Lst.its (L' := (.own s7 93 3 (encs (([] : List Voter) ++ a0))) :: (.own Sl.nil 93 3 (encs ([] : List Voter))) :: L) rfl ?_
 refine Lst.r (Ev.assign rfl) ?_
 refine Lst.nil ?_
 refine At.then ?_
 obtain rfl := some_inj H
 refine Cd.ret ?_
 exact At.ret1 rfl (Res.tmp rfl) (FLe.refl _) (sk1 (sc1 (.refl _))) ⟨s7, rfl, rfl⟩
set_option maxRecDepth 20000 in
theorem slices_Clone_api_Round_api_Round_sim {a0 : List Round} {s_a0 : Sl} {r : (List Round)} (H : slices_Clone_api_Round_api_Round a0 = some r) (w0 : World) (F : Frz) (M L : List Item) (hM : M.Sublist L) (hs_a0 : Rd w0 F M s_a0 a0) : Ok Try.prog w0 64 [Sl.v s_a0] F (L) (fun _ L' v => ∃ (s1 : Sl), v = Sl.v s1 ∧ L' = (.own s1 91 6 (encs r)) :: L) := by
 unfold slices_Clone_api_Round_api_Round at H
 refine Ok.enter (m := 1) (n := 8) Try.func64 rfl rfl rfl (by decide) ?_
 refine Cd.env (e' := [(0, Sl.v s_a0)]) rfl ?_
 refine Cd.seq ?_
 refine Cd.region ?_
 refine Lst.addNil 91 6 ?_
 refine Lst.r (Ev.assign rfl) ?_
 refine Lst.nil ?_
 refine At.then ?_
 refine Cd.seq ?_
 refine Cd.seq ?_
 refine Cd.region ?_
 refine Lst.r (Ev.move rfl) ?_
 refine Lst.r (Ev.eqlNil rfl Try.runUnderlying42) ?_
 refine Lst.nil ?_
 refine At.then ?_
 rcases Bool.eq_false_or_eq_true ((Sl.a s_a0).isNone) with hb2 | hb2
 ·refine Cd.bound (Rd.isNil (α := Round) (by decide) (hs_a0.mono (FLe.refl _) (sc1 hM)) hb2) (fun hx9 => ?_)
  rw [clone_nil hx9] at H
  refine Cd.condT rfl hb2 ?_
  refine Cd.seq ?_
  refine Cd.region ?_
  refine Lst.addNil 91 6 ?_
  refine Lst.r (Ev.assign rfl) ?_
  refine Lst.nil ?_
  refine At.then ?_
  obtain rfl := some_inj H
  refine Cd.ret ?_
  refine At.then_ret ?_
  exact At.ret1 rfl (Res.tmp rfl) (FLe.refl _) (sk1 (sc1 (.refl _))) ⟨Sl.nil, rfl, rfl⟩
 refine Cd.condF rfl hb2 ?_
 refine Cd.skip ?_
 refine At.then ?_
 refine Cd.seq ?_
 refine Cd.region ?_
 refine Lst.buildSlice0 rfl rfl (by decide) Try.runUnderlying42 Try.sizeOf91 (fun s3 => ?_)
 refine Lst.its (L' := (.own s3 91 6 (encs ([] : List Round))) :: (.own Sl.nil 91 6 (encs ([] : List Round))) :: L) rfl ?_
 refine Lst.r (Ev.move rfl) ?_
 obtain ⟨u5, h6, H⟩ := bind_some H
 refine Lst.append (i := 0) (α := Round) (xs := ([] : List Round)) (ys := a0) rfl rfl (by decide) rfl rfl Try.runUnderlying42 Try.typeInfo91 rfl rfl rfl rfl rfl rfl (hs_a0.mono (FLe.refl _) (sc2 hM)) rfl (room_some h6) rfl (fun s7 => ?_)
 refine Lst.its (L' := (.own s7 91 6 (encs (([] : List Round) ++ a0))) :: (.own Sl.nil 91 6 (encs ([] : List Round))) :: L) rfl ?_
 refine Lst.r (Ev.assign rfl) ?_
 refine Lst.nil ?_
 refine At.then ?_
 obtain rfl := some_inj H
 refine Cd.ret ?_
 exact At.ret1 rfl (Res.tmp rfl) (FLe.refl _) (sk1 (sc1 (.refl _))) ⟨s7, rfl, rfl⟩
set_option maxRecDepth 20000 in
theorem synod_act_sim {a0 : Synod} {a1 : Int} {a2 : Act} {b_a0 : Nat} {s_a0_0 : Sl} {s_a0_1 : Sl} {r : (List Voter) × (List Round) × Synod} (H : synod_act a0 a1 a2 = some r) (w0 : World) (F : Frz) (M L : List Item) (hM : M.Sublist L) : Ok Try.prog w0 65 [pv b_a0 0, Sl.at s_a0_1 (a1.toNat * 6), .agg (enc a2).toArray] F ((.own s_a0_0 93 3 (encs a0.Voters)) :: (.own s_a0_1 91 6 (encs a0.Rounds)) :: (.blk b_a0 (enc (SynodR.mk a0 s_a0_0 s_a0_1)) 44) :: L) (fun _ L' v => v = .tuple #[] ∧ L' = (.own s_a0_0 93 3 (encs r.1)) :: (.own s_a0_1 91 6 (encs r.2.1)) :: (.blk b_a0 (enc (SynodR.mk ({ r.2.2 with Voters := r.1, Rounds := r.2.1 } : Synod) s_a0_0 s_a0_1)) 44) :: L) := by
 unfold synod_act at H
 refine Ok.enter (m := 3) (n := 130) Try.func65 rfl rfl rfl (by decide) ?_
 refine Cd.env (e' := [(0, pv b_a0 0), (1, Sl.at s_a0_1 (a1.toNat * 6)), (2, .agg (enc a2).toArray)]) rfl ?_
 refine Cd.seq ?_
 refine Cd.region ?_
 refine Lst.box rfl rfl (by decide) rfl (cs := enc a2) rfl (fun b4 => ?_)
 refine Lst.nil ?_
 refine At.then ?_
 refine Cd.seq ?_
 refine Cd.quiet (by kernel_rfl) (by kernel_rfl) ?_
 refine Qt.r (Ev.move rfl) ?_
 refine Qt.r (Ev.nilCheck rfl) ?_
 refine Qt.r (Ev.fieldAddr (off' := 0) rfl Try.runUnderlying44 rfl Try.sizeOf41 rfl rfl) ?_
 refine Qt.r (Ev.load (i := 3) rfl rfl Try.isAgg41 (v := Sl.v s_a0_0) ((SynodR.get_Voters (Get.here _)).off (by rfl))) ?_
 refine Qt.r (Ev.fieldAddr (off' := 2) rfl Try.runUnderlying46 rfl Try.sizeOf3 rfl rfl) ?_
 refine Qt.r (Ev.load (i := 0) rfl rfl Try.isAgg3 (v := iv a2.Who) ((Act.get_Who (Get.here _)).off (by rfl))) ?_
 obtain ⟨x6, h7, H⟩ := bind_some H
 have g8 := lat_some h7
 refine Qt.r (Ev.indexS (α := Voter) (xs := a0.Voters) rfl rfl Try.runUnderlying41 Try.sizeOf93 rfl (by decide) (Rd.own (i := 1) rfl rfl rfl) g8.1 g8.2.1) ?_
 refine Qt.r (Ev.assign rfl) ?_
 refine Qt.done ?_
 refine At.then ?_
 refine Cd.seq ?_
 refine Cd.region ?_
 refine Lst.r (Ev.fieldAddr (off' := 0) rfl Try.runUnderlying46 rfl Try.sizeOf3 rfl rfl) ?_
 refine Lst.r (Ev.load (i := 0) rfl rfl Try.isAgg3 (v := iv a2.Kind) ((Act.get_Kind (Get.here _)).off (by rfl))) ?_
 refine Lst.nil ?_
 refine At.then ?_
 refine Cd.block ?_
 refine Cd.seq ?_
 refine Cd.region ?_
 refine Lst.r (Ev.eql rfl rfl) ?_
 refine Lst.r (Ev.assign rfl) ?_
 refine Lst.nil ?_
 refine At.then ?_
 rcases Bool.eq_false_or_eq_true (a2.Kind == (2 : Int)) with hb9 | hb9
 ·replace H := ite_t hb9 H
  refine Cd.condT rfl hb9 ?_
  refine Cd.seq ?_
  refine Cd.seq ?_
  refine Cd.quiet (by kernel_rfl) (by kernel_rfl) ?_
  refine Qt.r (Ev.move rfl) ?_
  refine Qt.r (Ev.nilCheckS (α := Voter) rfl (Rd.own (i := 1) rfl rfl rfl) ((Get.elemN (s := 3) (x := x6) rfl g8.2.2 (Get.here _)).off (by omega)) rfl) ?_
  refine Qt.r (Ev.fieldS (α := Voter) (f' := a2.Who.toNat * 3 + 0) rfl (Rd.own (i := 1) rfl rfl rfl) ((Get.elemN (s := 3) (x := x6) rfl g8.2.2 (Get.here _)).off (by omega)) rfl Try.runUnderlying93 rfl Try.sizeOf3 rfl rfl rfl) ?_
  refine Qt.r (Ev.loadS (α := Voter) rfl (Rd.own (i := 1) rfl rfl rfl) Try.isAgg3 (v := iv x6.Promised) ((Get.elemN (s := 3) (x := x6) rfl g8.2.2 (Voter.get_Promised (Get.here _))).off (by omega))) ?_
  refine Qt.r (Ev.fieldAddr (off' := 1) rfl Try.runUnderlying46 rfl Try.sizeOf3 rfl rfl) ?_
  refine Qt.r (Ev.load (i := 0) rfl rfl Try.isAgg3 (v := iv a2.Ballot) ((Act.get_Ballot (Get.here _)).off (by rfl))) ?_
  refine Qt.r (Ev.geq rfl rfl) ?_
  refine Qt.done ?_
  refine At.then ?_
  rcases Bool.eq_false_or_eq_true (decide (x6.Promised ≥ a2.Ballot)) with hb10 | hb10
  ·replace H := ite_t hb10 H
   refine Cd.condT rfl hb10 ?_
   obtain rfl := some_inj H
   refine Cd.ret ?_
   refine At.then_ret ?_
   refine At.in_ret ?_
   exact At.ret0 (.inl rfl) rfl (FLe.refl _) (sc1 (sk1 (sk1 (sk1 (.refl _))))) ⟨rfl, rfl⟩
  replace H := ite_f hb10 H
  refine Cd.condF rfl hb10 ?_
  refine Cd.skip ?_
  refine At.then ?_
  refine Cd.seq ?_
  refine Cd.as (e' := [(1, Sl.at s_a0_1 (a1.toNat * 6)), (5, pv b4 0), (6, Sl.at s_a0_0 (a2.Who.toNat * 3))]) (L' := (.blk b4 (enc a2) 46) :: (.own s_a0_0 93 3 (encs a0.Voters)) :: (.own s_a0_1 91 6 (encs a0.Rounds)) :: (.blk b_a0 (enc (SynodR.mk a0 s_a0_0 s_a0_1)) 44) :: L) ⟨rfl, rfl, rfl, trivial⟩ rfl ?_
  refine Cd.region ?_
  refine Lst.r (Ev.move rfl) ?_
  refine Lst.r (Ev.fieldAddr (off' := 1) rfl Try.runUnderlying46 rfl Try.sizeOf3 rfl rfl) ?_
  refine Lst.r (Ev.load (i := 0) rfl rfl Try.isAgg3 (v := iv a2.Ballot) ((Act.get_Ballot (Get.here _)).off (by rfl))) ?_
  refine Lst.r (Ev.nilCheckS (α := Voter) rfl (Rd.own (i := 1) rfl rfl rfl) ((Get.elemN (s := 3) (x := x6) rfl g8.2.2 (Get.here _)).off (by omega)) rfl) ?_
  refine Lst.r (Ev.fieldS (α := Voter) (f' := a2.Who.toNat * 3 + 0) rfl (Rd.own (i := 1) rfl rfl rfl) ((Get.elemN (s := 3) (x := x6) rfl g8.2.2 (Get.here _)).off (by omega)) rfl Try.runUnderlying93 rfl Try.sizeOf3 rfl rfl rfl) ?_
  obtain ⟨p11, h12, H⟩ := Let_some H
  refine Lst.storeS (i := 1) rfl rfl rfl rfl rfl Try.sizeOf3 (vs := [iv a2.Ballot]) rfl rfl (by decide) rfl (xs' := encs p11) (by rw [← h12]; exact (Put.elemN (s := 3) (x := x6) rfl g8.2.2 (Voter.put_Promised (Put.here (vs := [iv a2.Ballot]) rfl))).off (by omega)) (L' := (.blk b4 (enc a2) 46) :: (.own s_a0_0 93 3 (encs p11)) :: (.own s_a0_1 91 6 (encs a0.Rounds)) :: (.blk b_a0 (enc (SynodR.mk ({ a0 with Voters := p11 } : Synod) s_a0_0 s_a0_1)) 44) :: L) rfl ?_
  refine Lst.nil ?_
  refine At.then ?_
  refine Cd.seq ?_
  refine Cd.seq ?_
  refine Cd.region ?_
  refine Lst.r (Ev.move rfl) ?_
  obtain ⟨x13, h14, H⟩ := bind_some H
  have g15 := lat_some h14
  refine Lst.r (Ev.nilCheckS (α := Round) rfl (Rd.own (i := 2) rfl rfl rfl) ((Get.elemN (s := 6) (x := x13) rfl g15.2.2 (Get.here _)).off (by omega)) rfl) ?_
  refine Lst.r (Ev.fieldS (α := Round) (f' := a1.toNat * 6 + 4) rfl (Rd.own (i := 2) rfl rfl rfl) ((Get.elemN (s := 6) (x := x13) rfl g15.2.2 (Get.here _)).off (by omega)) rfl Try.runUnderlying91 rfl Try.sizeOf4 rfl rfl rfl) ?_
  refine Lst.r (Ev.loadS (α := Round) rfl (Rd.own (i := 2) rfl rfl rfl) Try.isAgg4 (v := .bool x13.Asked) ((Get.elemN (s := 6) (x := x13) rfl g15.2.2 (Round.get_Asked (Get.here _))).off (by omega))) ?_
  refine Lst.nil ?_
  refine At.then ?_
  rcases Bool.eq_false_or_eq_true x13.Asked with hb16 | hb16
  ·replace H := ite_t hb16 H
   refine Cd.condT rfl hb16 ?_
   obtain rfl := some_inj H
   refine Cd.ret ?_
   refine At.then_ret ?_
   refine At.in_ret ?_
   exact At.ret0 (.inl rfl) rfl (FLe.refl _) (sc1 (sk1 (sk1 (sk1 (.refl _))))) ⟨rfl, rfl⟩
  replace H := ite_f hb16 H
  refine Cd.condF rfl hb16 ?_
  refine Cd.skip ?_
  refine At.then ?_
  refine Cd.seq ?_
  refine Cd.tail 10 (by kernel_rfl) (by kernel_rfl) ?_
  refine Qt.r (Ev.move rfl) ?_
  obtain ⟨x17, h18, H⟩ := bind_some H
  have g19 := lat_some h18
  refine Qt.r (Ev.nilCheckS (α := Round) rfl (Rd.own (i := 2) rfl rfl rfl) ((Get.elemN (s := 6) (x := x17) rfl g19.2.2 (Get.here _)).off (by omega)) rfl) ?_
  refine Qt.r (Ev.fieldS (α := Round) (f' := a1.toNat * 6 + 2) rfl (Rd.own (i := 2) rfl rfl rfl) ((Get.elemN (s := 6) (x := x17) rfl g19.2.2 (Get.here _)).off (by omega)) rfl Try.runUnderlying91 rfl Try.sizeOf5 rfl rfl rfl) ?_
  refine Qt.r (Ev.loadS (α := Round) rfl (Rd.own (i := 2) rfl rfl rfl) Try.isAgg5 (v := .int .u8 x17.Promised.toNat) ((Get.elemN (s := 6) (x := x17) rfl g19.2.2 (Round.get_Promised (Get.here _))).off (by omega))) ?_
  refine Qt.r (Ev.fieldAddr (off' := 2) rfl Try.runUnderlying46 rfl Try.sizeOf3 rfl rfl) ?_
  refine Qt.r (Ev.load (i := 0) rfl rfl Try.isAgg3 (v := iv a2.Who) ((Act.get_Who (Get.here _)).off (by rfl))) ?_
  obtain ⟨n20, h21, H⟩ := bind_some H
  refine Qt.r (Ev.shlU8 (i := (1 : BitVec 8)) (m := n20) rfl (congrArg some (congrArg (Value.int .i64) (cnt_some h21)))) ?_
  refine Qt.r (Ev.orU8 (i := x17.Promised) (j := (1 : BitVec 8) <<< n20) rfl rfl) ?_
  refine Qt.r (Ev.nilCheckS (α := Round) rfl (Rd.own (i := 2) rfl rfl rfl) ((Get.elemN (s := 6) (x := x17) rfl g19.2.2 (Get.here _)).off (by omega)) rfl) ?_
  refine Qt.r (Ev.fieldS (α := Round) (f' := a1.toNat * 6 + 2) rfl (Rd.own (i := 2) rfl rfl rfl) ((Get.elemN (s := 6) (x := x17) rfl g19.2.2 (Get.here _)).off (by omega)) rfl Try.runUnderlying91 rfl Try.sizeOf5 rfl rfl rfl) ?_
  refine Qt.tail ?_
  obtain ⟨p23, h24, H⟩ := Let_some H
  refine Lst.storeS (i := 2) rfl rfl rfl rfl rfl Try.sizeOf5 (vs := [.int .u8 (x17.Promised ||| ((1 : BitVec 8) <<< n20)).toNat]) rfl rfl (by decide) rfl (xs' := encs p23) (by rw [← h24]; exact (Put.elemN (s := 6) (x := x17) rfl g19.2.2 (Round.put_Promised (Put.here (vs := [.int .u8 (x17.Promised ||| ((1 : BitVec 8) <<< n20)).toNat]) rfl))).off (by omega)) (L' := (.blk b4 (enc a2) 46) :: (.own s_a0_0 93 3 (encs p11)) :: (.own s_a0_1 91 6 (encs p23)) :: (.blk b_a0 (enc (SynodR.mk ({ a0 with Voters := p11, Rounds := p23 } : Synod) s_a0_0 s_a0_1)) 44) :: L) rfl ?_
  refine Lst.nil ?_
  refine At.then ?_
  refine Cd.seq ?_
  refine Cd.as (e' := [(1, Sl.at s_a0_1 (a1.toNat * 6)), (6, Sl.at s_a0_0 (a2.Who.toNat * 3))]) (L' := (.blk b4 (enc a2) 46) :: (.own s_a0_0 93 3 (encs p11)) :: (.own s_a0_1 91 6 (encs p23)) :: (.blk b_a0 (enc (SynodR.mk ({ a0 with Voters := p11, Rounds := p23 } : Synod) s_a0_0 s_a0_1)) 44) :: L) ⟨rfl, rfl, trivial⟩ rfl ?_
  refine Cd.quiet (by kernel_rfl) (by kernel_rfl) ?_
  refine Qt.r (Ev.move rfl) ?_
  obtain ⟨x25, h26, H⟩ := bind_some H
  have g27 := lat_some h26
  refine Qt.r (Ev.nilCheckS (α := Voter) rfl (Rd.own (i := 1) rfl rfl rfl) ((Get.elemN (s := 3) (x := x25) rfl g27.2.2 (Get.here _)).off (by omega)) rfl) ?_
  refine Qt.r (Ev.fieldS (α := Voter) (f' := a2.Who.toNat * 3 + 1) rfl (Rd.own (i := 1) rfl rfl rfl) ((Get.elemN (s := 3) (x := x25) rfl g27.2.2 (Get.here _)).off (by omega)) rfl Try.runUnderlying93 rfl Try.sizeOf3 rfl rfl rfl) ?_
  refine Qt.r (Ev.loadS (α := Voter) rfl (Rd.own (i := 1) rfl rfl rfl) Try.isAgg3 (v := iv x25.Voted) ((Get.elemN (s := 3) (x := x25) rfl g27.2.2 (Voter.get_Voted (Get.here _))).off (by omega))) ?_
  refine Qt.r (Ev.move rfl) ?_
  obtain ⟨x28, h29, H⟩ := bind_some H
  have g30 := lat_some h29
  refine Qt.r (Ev.nilCheckS (α := Round) rfl (Rd.own (i := 2) rfl rfl rfl) ((Get.elemN (s := 6) (x := x28) rfl g30.2.2 (Get.here _)).off (by omega)) rfl) ?_
  refine Qt.r (Ev.fieldS (α := Round) (f' := a1.toNat * 6 + 1) rfl (Rd.own (i := 2) rfl rfl rfl) ((Get.elemN (s := 6) (x := x28) rfl g30.2.2 (Get.here _)).off (by omega)) rfl Try.runUnderlying91 rfl Try.sizeOf3 rfl rfl rfl) ?_
  refine Qt.r (Ev.loadS (α := Round) rfl (Rd.own (i := 2) rfl rfl rfl) Try.isAgg3 (v := iv x28.Best) ((Get.elemN (s := 6) (x := x28) rfl g30.2.2 (Round.get_Best (Get.here _))).off (by omega))) ?_
  refine Qt.r (Ev.gtr rfl rfl) ?_
  refine Qt.done ?_
  refine At.then ?_
  rcases (Bool.eq_false_or_eq_true (decide (x25.Voted > x28.Best))).symm with hb31 | hb31
  ·replace H := ite_f hb31 H
   refine Cd.condF rfl hb31 ?_
   refine Cd.skip ?_
   refine At.in_normal ?_
   obtain rfl := some_inj H
   exact At.ret0 (.inr rfl) rfl (FLe.refl _) (sc1 (sk1 (sk1 (sk1 (.refl _))))) ⟨rfl, rfl⟩
  replace H := ite_t hb31 H
  refine Cd.condT rfl hb31 ?_
  obtain ⟨x32, h33, H⟩ := bind_some H
  obtain ⟨x35, h36, H⟩ := bind_some H
  obtain ⟨x38, h39, H⟩ := bind_some H
  obtain ⟨p41, h42, H⟩ := Let_some H
  obtain ⟨o45, h46, H⟩ := Let_some H
  refine Cd.headMeet (σ := (List Round)) 13 (fun l44 => [(54, Sl.at s_a0_1 (a1.toNat * 6)), (62, Str.v x35.Text)]) (fun l44 => (.blk b4 (enc a2) 46) :: (.own s_a0_0 93 3 (encs p11)) :: (.own s_a0_1 91 6 (encs l44)) :: (.blk b_a0 (enc (SynodR.mk ({ a0 with Voters := p11, Rounds := l44 } : Synod) s_a0_0 s_a0_1)) 44) :: L) (fun _ l44 => l44 = o45) (by kernel_rfl) (by kernel_rfl) (behind_sink (by kernel_rfl) (by kernel_rfl) (by kernel_rfl)) (by kernel_rfl) (fun hsel hlt => ?_) ?_
  ·refine HdJ.keep (fun w => St w0 F ((.blk b4 (enc a2) 46) :: (.own s_a0_0 93 3 (encs p11)) :: L) w) (fun w h => trivial) ?_
   refine HdJ.tk hsel hlt 0 (fun w h => h.sublist (sk1 (sk1 (sc1 (sc1 (.refl _)))))) rfl (Ev.move rfl) ?_
   refine HdJ.tk hsel hlt 1 (fun w h => h.sublist (sk1 (sk1 (sc1 (sc1 (.refl _)))))) rfl (Ev.move rfl) ?_
   refine HdJ.tk hsel hlt 2 (fun w h => h.sublist (sk1 (sk1 (sc1 (sc1 (.refl _)))))) rfl (Ev.move rfl) ?_
   have g47 := lat_some h33
   refine HdJ.tk hsel hlt 3 (fun w h => h.sublist (sk1 (sk1 (sc1 (sc1 (.refl _)))))) rfl (Ev.nilCheckS (α := Voter) rfl (Rd.own (i := 1) rfl rfl rfl) ((Get.elemN (s := 3) (x := x32) rfl g47.2.2 (Get.here _)).off (by omega)) rfl) ?_
   refine HdJ.tk hsel hlt 4 (fun w h => h.sublist (sk1 (sk1 (sc1 (sc1 (.refl _)))))) rfl (Ev.fieldS (α := Voter) (f' := a2.Who.toNat * 3 + 1) rfl (Rd.own (i := 1) rfl rfl rfl) ((Get.elemN (s := 3) (x := x32) rfl g47.2.2 (Get.here _)).off (by omega)) rfl Try.runUnderlying93 rfl Try.sizeOf3 rfl rfl rfl) ?_
   refine HdJ.tk hsel hlt 5 (fun w h => h.sublist (sk1 (sk1 (sc1 (sc1 (.refl _)))))) rfl (Ev.loadS (α := Voter) rfl (Rd.own (i := 1) rfl rfl rfl) Try.isAgg3 (v := iv x32.Voted) ((Get.elemN (s := 3) (x := x32) rfl g47.2.2 (Voter.get_Voted (Get.here _))).off (by omega))) ?_
   refine HdJ.tk hsel hlt 6 (fun w h => h.sublist (sk1 (sk1 (sc1 (sc1 (.refl _)))))) rfl (Ev.move rfl) ?_
   have g48 := lat_some h36
   refine HdJ.tk hsel hlt 7 (fun w h => h.sublist (sk1 (sk1 (sc1 (sc1 (.refl _)))))) rfl (Ev.nilCheckS (α := Voter) rfl (Rd.own (i := 1) rfl rfl rfl) ((Get.elemN (s := 3) (x := x35) rfl g48.2.2 (Get.here _)).off (by omega)) rfl) ?_
   refine HdJ.tk hsel hlt 8 (fun w h => h.sublist (sk1 (sk1 (sc1 (sc1 (.refl _)))))) rfl (Ev.fieldS (α := Voter) (f' := a2.Who.toNat * 3 + 2) rfl (Rd.own (i := 1) rfl rfl rfl) ((Get.elemN (s := 3) (x := x35) rfl g48.2.2 (Get.here _)).off (by omega)) rfl Try.runUnderlying93 rfl Try.sizeOf9 rfl rfl rfl) ?_
   refine HdJ.tk hsel hlt 9 (fun w h => h.sublist (sk1 (sk1 (sc1 (sc1 (.refl _)))))) rfl (Ev.loadS (α := Voter) rfl (Rd.own (i := 1) rfl rfl rfl) Try.isAgg9 (v := Str.v x35.Text) ((Get.elemN (s := 3) (x := x35) rfl g48.2.2 (Voter.get_Text (Get.here _))).off (by omega))) ?_
   refine HdJ.step [10] (by kernel_rfl) rfl ?_
   refine HdStep.c (fun inv => ?_) ?_
   ·have g49 := lat_some h39
    refine Lst.r (Ev.nilCheckS (α := Round) rfl (Rd.own (i := 2) rfl rfl rfl) ((Get.elemN (s := 6) (x := x38) rfl g49.2.2 (Get.here _)).off (by omega)) rfl) ?_
    refine Lst.nil ?_
    refine At.hd inv (fun w h => (h.weaken (FLe.refl _)).sublist (sk1 (sk1 (sc1 (sc1 (.refl _)))))) ?_
    refine HdJ.step [11] (by kernel_rfl) rfl ?_
    refine HdStep.c (fun inv => ?_) ?_
    ·refine Lst.r (Ev.fieldS (α := Round) (f' := a1.toNat * 6 + 1) rfl (Rd.own (i := 2) rfl rfl rfl) ((Get.elemN (s := 6) (x := x38) rfl g49.2.2 (Get.here _)).off (by omega)) rfl Try.runUnderlying91 rfl Try.sizeOf3 rfl rfl rfl) ?_
     refine Lst.nil ?_
     refine At.hd inv (fun w h => (h.weaken (FLe.refl _)).sublist (sk1 (sk1 (sc1 (sc1 (.refl _)))))) ?_
     refine HdJ.step [12] (by kernel_rfl) rfl ?_
     refine HdStep.c (fun inv => ?_) ?_
     ·refine Lst.storeS (i := 2) rfl rfl rfl rfl rfl Try.sizeOf3 (vs := [iv x32.Voted]) rfl rfl (by decide) rfl (xs' := encs p41) (by rw [← h42]; exact (Put.elemN (s := 6) (x := x38) rfl g49.2.2 (Round.put_Best (Put.here (vs := [iv x32.Voted]) rfl))).off (by omega)) (L' := (.blk b4 (enc a2) 46) :: (.own s_a0_0 93 3 (encs p11)) :: (.own s_a0_1 91 6 (encs p41)) :: (.blk b_a0 (enc (SynodR.mk ({ a0 with Voters := p11, Rounds := p41 } : Synod) s_a0_0 s_a0_1)) 44) :: L) rfl ?_
      refine Lst.nil ?_
      refine At.hd inv (fun w h => (h.weaken (FLe.refl _)).sublist (sk1 (sk1 (sc1 (sc1 (.refl _)))))) ?_
      refine HdJ.done (by kernel_rfl) ?_
      exact At.meetN p41 (FLe.refl _) ⟨rfl, rfl, trivial⟩ rfl h46
     exact trivial
    exact trivial
   exact trivial
  rintro F50 l44 hF51 hy
  subst hy
  refine Lst.as (e' := [(54, Sl.at s_a0_1 (a1.toNat * 6)), (62, Str.v x35.Text)]) (L' := (.blk b4 (enc a2) 46) :: (.own s_a0_0 93 3 (encs p11)) :: (.own s_a0_1 91 6 (encs l44)) :: (.blk b_a0 (enc (SynodR.mk ({ a0 with Voters := p11, Rounds := l44 } : Synod) s_a0_0 s_a0_1)) 44) :: L) ⟨rfl, rfl, trivial⟩ rfl ?_
  obtain ⟨x52, h53, H⟩ := bind_some H
  have g54 := lat_some h53
  refine Lst.r (Ev.nilCheckS (α := Round) rfl (Rd.own (i := 2) rfl rfl rfl) ((Get.elemN (s := 6) (x := x52) rfl g54.2.2 (Get.here _)).off (by omega)) rfl) ?_
  refine Lst.r (Ev.fieldS (α := Round) (f' := a1.toNat * 6 + 5) rfl (Rd.own (i := 2) rfl rfl rfl) ((Get.elemN (s := 6) (x := x52) rfl g54.2.2 (Get.here _)).off (by omega)) rfl Try.runUnderlying91 rfl Try.sizeOf9 rfl rfl rfl) ?_
  obtain ⟨p55, h56, H⟩ := Let_some H
  refine Lst.storeS (i := 2) rfl rfl rfl rfl rfl Try.sizeOf9 (vs := [Str.v x35.Text]) rfl rfl (by decide) rfl (xs' := encs p55) (by rw [← h56]; exact (Put.elemN (s := 6) (x := x52) rfl g54.2.2 (Round.put_Text (Put.here (vs := [Str.v x35.Text]) rfl))).off (by omega)) (L' := (.blk b4 (enc a2) 46) :: (.own s_a0_0 93 3 (encs p11)) :: (.own s_a0_1 91 6 (encs p55)) :: (.blk b_a0 (enc (SynodR.mk ({ a0 with Voters := p11, Rounds := p55 } : Synod) s_a0_0 s_a0_1)) 44) :: L) rfl ?_
  refine Lst.nil ?_
  refine At.in_normal ?_
  obtain rfl := some_inj H
  exact At.ret0 (.inr rfl) rfl hF51 (sc1 (sk1 (sk1 (sk1 (.refl _))))) ⟨rfl, rfl⟩
 replace H := ite_f hb9 H
 refine Cd.condF rfl hb9 ?_
 refine Cd.seq ?_
 refine Cd.region ?_
 refine Lst.r (Ev.eql rfl rfl) ?_
 refine Lst.r (Ev.assign rfl) ?_
 refine Lst.nil ?_
 refine At.then ?_
 rcases Bool.eq_false_or_eq_true (a2.Kind == (3 : Int)) with hb57 | hb57
 ·replace H := ite_t hb57 H
  refine Cd.condT rfl hb57 ?_
  refine Cd.as (e' := [(0, pv b_a0 0), (1, Sl.at s_a0_1 (a1.toNat * 6))]) (L' := (.blk b4 (enc a2) 46) :: (.own s_a0_0 93 3 (encs a0.Voters)) :: (.own s_a0_1 91 6 (encs a0.Rounds)) :: (.blk b_a0 (enc (SynodR.mk a0 s_a0_0 s_a0_1)) 44) :: L) ⟨rfl, rfl, trivial⟩ rfl ?_
  refine Cd.tail 19 (by kernel_rfl) (by kernel_rfl) ?_
  refine Qt.r (Ev.move rfl) ?_
  refine Qt.r (Ev.move rfl) ?_
  obtain ⟨x58, h59, H⟩ := bind_some H
  have g60 := lat_some h59
  refine Qt.r (Ev.nilCheckS (α := Round) rfl (Rd.own (i := 2) rfl rfl rfl) ((Get.elemN (s := 6) (x := x58) rfl g60.2.2 (Get.here _)).off (by omega)) rfl) ?_
  refine Qt.r (Ev.fieldS (α := Round) (f' := a1.toNat * 6 + 4) rfl (Rd.own (i := 2) rfl rfl rfl) ((Get.elemN (s := 6) (x := x58) rfl g60.2.2 (Get.here _)).off (by omega)) rfl Try.runUnderlying91 rfl Try.sizeOf4 rfl rfl rfl) ?_
  refine Qt.r (Ev.loadS (α := Round) rfl (Rd.own (i := 2) rfl rfl rfl) Try.isAgg4 (v := .bool x58.Asked) ((Get.elemN (s := 6) (x := x58) rfl g60.2.2 (Round.get_Asked (Get.here _))).off (by omega))) ?_
  refine Qt.r (Ev.move rfl) ?_
  obtain ⟨o61, H, HKo61⟩ := bind_some H
  refine Qt.join (σ := Bool) 11 (fun y62 => [(69, Sl.at s_a0_1 (a1.toNat * 6)), (85, .bool y62)]) (fun y62 => y62 = o61) ?_ ?_
  ·rcases Bool.eq_false_or_eq_true x58.Asked with hb63 | hb63
   ·replace H := ite_t hb63 H
    refine Qt.skip rfl rfl rfl hb63 rfl (by decide) ?_
    refine Qt.skip rfl rfl rfl hb63 rfl (by decide) ?_
    refine Qt.skip rfl rfl rfl hb63 rfl (by decide) ?_
    refine Qt.skip rfl rfl rfl hb63 rfl (by decide) ?_
    refine Qt.skip rfl rfl rfl hb63 rfl (by decide) ?_
    refine Qt.skip rfl rfl rfl hb63 rfl (by decide) ?_
    refine Qt.skip rfl rfl rfl hb63 rfl (by decide) ?_
    refine Qt.skip rfl rfl rfl hb63 rfl (by decide) ?_
    refine Qt.skip rfl rfl rfl hb63 rfl (by decide) ?_
    refine Qt.skip rfl rfl rfl hb63 rfl (by decide) ?_
    refine Qt.r (Ev.pickT rfl hb63 rfl) ?_
    exact Qt.meet true ⟨rfl, rfl, trivial⟩ (some_inj H)
   replace H := ite_f hb63 H
   refine Qt.rG hb63 (Ev.move rfl) ?_
   obtain ⟨x64, h65, H⟩ := bind_some H
   have g66 := lat_some h65
   refine Qt.rG hb63 (Ev.nilCheckS (α := Round) rfl (Rd.own (i := 2) rfl rfl rfl) ((Get.elemN (s := 6) (x := x64) rfl g66.2.2 (Get.here _)).off (by omega)) rfl) ?_
   refine Qt.rG hb63 (Ev.fieldS (α := Round) (f' := a1.toNat * 6 + 2) rfl (Rd.own (i := 2) rfl rfl rfl) ((Get.elemN (s := 6) (x := x64) rfl g66.2.2 (Get.here _)).off (by omega)) rfl Try.runUnderlying91 rfl Try.sizeOf5 rfl rfl rfl) ?_
   refine Qt.rG hb63 (Ev.loadS (α := Round) rfl (Rd.own (i := 2) rfl rfl rfl) Try.isAgg5 (v := .int .u8 x64.Promised.toNat) ((Get.elemN (s := 6) (x := x64) rfl g66.2.2 (Round.get_Promised (Get.here _))).off (by omega))) ?_
   refine Qt.rG hb63 (Ev.move rfl) ?_
   refine Qt.rG hb63 (Ev.nilCheck rfl) ?_
   refine Qt.rG hb63 (Ev.fieldAddr (off' := 0) rfl Try.runUnderlying44 rfl Try.sizeOf41 rfl rfl) ?_
   refine Qt.rG hb63 (Ev.load (i := 3) rfl rfl Try.isAgg41 (v := Sl.v s_a0_0) ((SynodR.get_Voters (Get.here _)).off (by rfl))) ?_
   refine Qt.rG hb63 (Ev.lenS (α := Voter) (xs := a0.Voters) (by decide) rfl rfl Try.runUnderlying41 (Rd.own (i := 1) rfl rfl rfl)) ?_
   obtain ⟨r67, h68, H⟩ := bind_some H
   refine Qt.callG rfl rfl rfl hb63 rfl (by decide) (vs := [.int .u8 x64.Promised.toNat, iv (a0.Voters.length : Int)]) ⟨rfl, rfl, trivial⟩ Try.call66 (synod_majority_sim h68 w0 _ M _ (sc4 hM)) ?_
   refine Qt.r (Ev.pickF rfl hb63 rfl) ?_
   exact Qt.meet r67 ⟨rfl, rfl, trivial⟩ (some_inj H)
  rintro y62 hy
  subst hy
  refine Qt.as (e' := [(69, Sl.at s_a0_1 (a1.toNat * 6)), (85, .bool y62)]) ⟨rfl, rfl, trivial⟩ ?_
  replace H := HKo61
  obtain ⟨x71, h72, H⟩ := bind_some H
  have g73 := lat_some h72
  refine Qt.r (Ev.nilCheckS (α := Round) rfl (Rd.own (i := 2) rfl rfl rfl) ((Get.elemN (s := 6) (x := x71) rfl g73.2.2 (Get.here _)).off (by omega)) rfl) ?_
  refine Qt.r (Ev.fieldS (α := Round) (f' := a1.toNat * 6 + 4) rfl (Rd.own (i := 2) rfl rfl rfl) ((Get.elemN (s := 6) (x := x71) rfl g73.2.2 (Get.here _)).off (by omega)) rfl Try.runUnderlying91 rfl Try.sizeOf4 rfl rfl rfl) ?_
  refine Qt.tail ?_
  obtain ⟨p74, h75, H⟩ := Let_some H
  refine Lst.storeS (i := 2) rfl rfl rfl rfl rfl Try.sizeOf4 (vs := [.bool y62]) rfl rfl (by decide) rfl (xs' := encs p74) (by rw [← h75]; exact (Put.elemN (s := 6) (x := x71) rfl g73.2.2 (Round.put_Asked (Put.here (vs := [.bool y62]) rfl))).off (by omega)) (L' := (.blk b4 (enc a2) 46) :: (.own s_a0_0 93 3 (encs a0.Voters)) :: (.own s_a0_1 91 6 (encs p74)) :: (.blk b_a0 (enc (SynodR.mk ({ a0 with Rounds := p74 } : Synod) s_a0_0 s_a0_1)) 44) :: L) rfl ?_
  refine Lst.nil ?_
  refine At.in_normal ?_
  obtain rfl := some_inj H
  exact At.ret0 (.inr rfl) rfl (FLe.refl _) (sc1 (sk1 (sk1 (sk1 (.refl _))))) ⟨rfl, rfl⟩
 replace H := ite_f hb57 H
 refine Cd.condF rfl hb57 ?_
 refine Cd.seq ?_
 refine Cd.region ?_
 refine Lst.r (Ev.eql rfl rfl) ?_
 refine Lst.r (Ev.assign rfl) ?_
 refine Lst.nil ?_
 refine At.then ?_
 rcases (Bool.eq_false_or_eq_true (a2.Kind == (4 : Int))).symm with hb76 | hb76
 ·replace H := ite_f hb76 H
  refine Cd.condF rfl hb76 ?_
  refine Cd.skip ?_
  refine At.in_normal ?_
  obtain rfl := some_inj H
  exact At.ret0 (.inr rfl) rfl (FLe.refl _) (sc1 (sk1 (sk1 (sk1 (.refl _))))) ⟨rfl, rfl⟩
 replace H := ite_t hb76 H
 refine Cd.condT rfl hb76 ?_
 refine Cd.seq ?_
 refine Cd.as (e' := [(1, Sl.at s_a0_1 (a1.toNat * 6)), (5, pv b4 0), (6, Sl.at s_a0_0 (a2.Who.toNat * 3))]) (L' := (.blk b4 (enc a2) 46) :: (.own s_a0_0 93 3 (encs a0.Voters)) :: (.own s_a0_1 91 6 (encs a0.Rounds)) :: (.blk b_a0 (enc (SynodR.mk a0 s_a0_0 s_a0_1)) 44) :: L) ⟨rfl, rfl, rfl, trivial⟩ rfl ?_
 refine Cd.quiet (by kernel_rfl) (by kernel_rfl) ?_
 refine Qt.r (Ev.move rfl) ?_
 obtain ⟨x77, h78, H⟩ := bind_some H
 have g79 := lat_some h78
 refine Qt.r (Ev.nilCheckS (α := Round) rfl (Rd.own (i := 2) rfl rfl rfl) ((Get.elemN (s := 6) (x := x77) rfl g79.2.2 (Get.here _)).off (by omega)) rfl) ?_
 refine Qt.r (Ev.fieldS (α := Round) (f' := a1.toNat * 6 + 4) rfl (Rd.own (i := 2) rfl rfl rfl) ((Get.elemN (s := 6) (x := x77) rfl g79.2.2 (Get.here _)).off (by omega)) rfl Try.runUnderlying91 rfl Try.sizeOf4 rfl rfl rfl) ?_
 refine Qt.r (Ev.loadS (α := Round) rfl (Rd.own (i := 2) rfl rfl rfl) Try.isAgg4 (v := .bool x77.Asked) ((Get.elemN (s := 6) (x := x77) rfl g79.2.2 (Round.get_Asked (Get.here _))).off (by omega))) ?_
 refine Qt.r (Ev.move rfl) ?_
 obtain ⟨o80, H, HKo80⟩ := bind_some H
 refine Qt.join (σ := Bool) 8 (fun y81 => [(1, Sl.at s_a0_1 (a1.toNat * 6)), (5, pv b4 0), (6, Sl.at s_a0_0 (a2.Who.toNat * 3)), (102, .bool y81)]) (fun y81 => y81 = o80) ?_ ?_
 ·rcases (Bool.eq_false_or_eq_true x77.Asked).symm with hb82 | hb82
  ·replace H := ite_f hb82 H
   refine Qt.skip rfl rfl rfl hb82 rfl (by decide) ?_
   refine Qt.skip rfl rfl rfl hb82 rfl (by decide) ?_
   refine Qt.skip rfl rfl rfl hb82 rfl (by decide) ?_
   refine Qt.skip rfl rfl rfl hb82 rfl (by decide) ?_
   refine Qt.skip rfl rfl rfl hb82 rfl (by decide) ?_
   refine Qt.skip rfl rfl rfl hb82 rfl (by decide) ?_
   refine Qt.skip rfl rfl rfl hb82 rfl (by decide) ?_
   refine Qt.r (Ev.pickF rfl hb82 rfl) ?_
   exact Qt.meet false ⟨rfl, rfl, rfl, rfl, trivial⟩ (some_inj H)
  replace H := ite_t hb82 H
  refine Qt.rG hb82 (Ev.move rfl) ?_
  refine Qt.rG hb82 (Ev.nilCheckS (α := Voter) rfl (Rd.own (i := 1) rfl rfl rfl) ((Get.elemN (s := 3) (x := x6) rfl g8.2.2 (Get.here _)).off (by omega)) rfl) ?_
  refine Qt.rG hb82 (Ev.fieldS (α := Voter) (f' := a2.Who.toNat * 3 + 0) rfl (Rd.own (i := 1) rfl rfl rfl) ((Get.elemN (s := 3) (x := x6) rfl g8.2.2 (Get.here _)).off (by omega)) rfl Try.runUnderlying93 rfl Try.sizeOf3 rfl rfl rfl) ?_
  refine Qt.rG hb82 (Ev.loadS (α := Voter) rfl (Rd.own (i := 1) rfl rfl rfl) Try.isAgg3 (v := iv x6.Promised) ((Get.elemN (s := 3) (x := x6) rfl g8.2.2 (Voter.get_Promised (Get.here _))).off (by omega))) ?_
  refine Qt.rG hb82 (Ev.fieldAddr (off' := 1) rfl Try.runUnderlying46 rfl Try.sizeOf3 rfl rfl) ?_
  refine Qt.rG hb82 (Ev.load (i := 0) rfl rfl Try.isAgg3 (v := iv a2.Ballot) ((Act.get_Ballot (Get.here _)).off (by rfl))) ?_
  refine Qt.rG hb82 (Ev.leq rfl rfl) ?_
  refine Qt.r (Ev.pickT rfl hb82 rfl) ?_
  exact Qt.meet (decide (x6.Promised ≤ a2.Ballot)) ⟨rfl, rfl, rfl, rfl, trivial⟩ (some_inj H)
 rintro y81 hy
 subst hy
 refine Qt.as (e' := [(1, Sl.at s_a0_1 (a1.toNat * 6)), (5, pv b4 0), (6, Sl.at s_a0_0 (a2.Who.toNat * 3)), (102, .bool y81)]) ⟨rfl, rfl, rfl, rfl, trivial⟩ ?_
 replace H := HKo80
 refine Qt.done ?_
 refine At.then ?_
 rcases (Bool.eq_false_or_eq_true y81).symm with hb83 | hb83
 ·replace H := ite_f hb83 H
  refine Cd.condF rfl hb83 ?_
  refine Cd.skip ?_
  refine At.in_normal ?_
  obtain rfl := some_inj H
  exact At.ret0 (.inr rfl) rfl (FLe.refl _) (sc1 (sk1 (sk1 (sk1 (.refl _))))) ⟨rfl, rfl⟩
 replace H := ite_t hb83 H
 refine Cd.condT rfl hb83 ?_
 refine Cd.seq ?_
 obtain ⟨x84, h85, H⟩ := bind_some H
 obtain ⟨p87, h88, H⟩ := Let_some H
 obtain ⟨x89, h90, H⟩ := bind_some H
 obtain ⟨p92, h93, H⟩ := Let_some H
 obtain ⟨o96, h97, H⟩ := Let_some H
 refine Cd.headMeet (σ := (List Voter)) 17 (fun l95 => [(1, Sl.at s_a0_1 (a1.toNat * 6)), (5, pv b4 0), (105, Sl.at s_a0_0 (a2.Who.toNat * 3)), (113, Str.v x84.Text)]) (fun l95 => (.blk b4 (enc a2) 46) :: (.own s_a0_0 93 3 (encs l95)) :: (.own s_a0_1 91 6 (encs a0.Rounds)) :: (.blk b_a0 (enc (SynodR.mk ({ a0 with Voters := l95 } : Synod) s_a0_0 s_a0_1)) 44) :: L) (fun _ l95 => l95 = o96) (by kernel_rfl) (by kernel_rfl) (behind_sink (by kernel_rfl) (by kernel_rfl) (by kernel_rfl)) (by kernel_rfl) (fun hsel hlt => ?_) ?_
 ·refine HdJ.keep (fun w => St w0 F ((.blk b4 (enc a2) 46) :: (.own s_a0_1 91 6 (encs a0.Rounds)) :: L) w) (fun w h => trivial) ?_
  refine HdJ.tk hsel hlt 0 (fun w h => h.sublist (sk1 (sc1 (sk1 (sc1 (.refl _)))))) rfl (Ev.move rfl) ?_
  refine HdJ.tk hsel hlt 1 (fun w h => h.sublist (sk1 (sc1 (sk1 (sc1 (.refl _)))))) rfl (Ev.move rfl) ?_
  refine HdJ.tk hsel hlt 2 (fun w h => h.sublist (sk1 (sc1 (sk1 (sc1 (.refl _)))))) rfl (Ev.move rfl) ?_
  refine HdJ.tk hsel hlt 3 (fun w h => h.sublist (sk1 (sc1 (sk1 (sc1 (.refl _)))))) rfl (Ev.fieldAddr (off' := 1) rfl Try.runUnderlying46 rfl Try.sizeOf3 rfl rfl) ?_
  refine HdJ.tk hsel hlt 4 (fun w h => h.sublist (sk1 (sc1 (sk1 (sc1 (.refl _)))))) rfl (Ev.load (i := 0) rfl rfl Try.isAgg3 (v := iv a2.Ballot) ((Act.get_Ballot (Get.here _)).off (by rfl))) ?_
  refine HdJ.tk hsel hlt 5 (fun w h => h.sublist (sk1 (sc1 (sk1 (sc1 (.refl _)))))) rfl (Ev.fieldAddr (off' := 1) rfl Try.runUnderlying46 rfl Try.sizeOf3 rfl rfl) ?_
  refine HdJ.tk hsel hlt 6 (fun w h => h.sublist (sk1 (sc1 (sk1 (sc1 (.refl _)))))) rfl (Ev.load (i := 0) rfl rfl Try.isAgg3 (v := iv a2.Ballot) ((Act.get_Ballot (Get.here _)).off (by rfl))) ?_
  refine HdJ.tk hsel hlt 7 (fun w h => h.sublist (sk1 (sc1 (sk1 (sc1 (.refl _)))))) rfl (Ev.move rfl) ?_
  have g98 := lat_some h85
  refine HdJ.tk hsel hlt 8 (fun w h => h.sublist (sk1 (sc1 (sk1 (sc1 (.refl _)))))) rfl (Ev.nilCheckS (α := Round) rfl (Rd.own (i := 1) rfl rfl rfl) ((Get.elemN (s := 6) (x := x84) rfl g98.2.2 (Get.here _)).off (by omega)) rfl) ?_
  refine HdJ.tk hsel hlt 9 (fun w h => h.sublist (sk1 (sc1 (sk1 (sc1 (.refl _)))))) rfl (Ev.fieldS (α := Round) (f' := a1.toNat * 6 + 5) rfl (Rd.own (i := 1) rfl rfl rfl) ((Get.elemN (s := 6) (x := x84) rfl g98.2.2 (Get.here _)).off (by omega)) rfl Try.runUnderlying91 rfl Try.sizeOf9 rfl rfl rfl) ?_
  refine HdJ.tk hsel hlt 10 (fun w h => h.sublist (sk1 (sc1 (sk1 (sc1 (.refl _)))))) rfl (Ev.loadS (α := Round) rfl (Rd.own (i := 1) rfl rfl rfl) Try.isAgg9 (v := Str.v x84.Text) ((Get.elemN (s := 6) (x := x84) rfl g98.2.2 (Round.get_Text (Get.here _))).off (by omega))) ?_
  refine HdJ.step [11] (by kernel_rfl) rfl ?_
  refine HdStep.c (fun inv => ?_) ?_
  ·refine Lst.r (Ev.nilCheckS (α := Voter) rfl (Rd.own (i := 1) rfl rfl rfl) ((Get.elemN (s := 3) (x := x6) rfl g8.2.2 (Get.here _)).off (by omega)) rfl) ?_
   refine Lst.nil ?_
   refine At.hd inv (fun w h => (h.weaken (FLe.refl _)).sublist (sk1 (sc1 (sk1 (sc1 (.refl _)))))) ?_
   refine HdJ.step [12] (by kernel_rfl) rfl ?_
   refine HdStep.c (fun inv => ?_) ?_
   ·refine Lst.r (Ev.fieldS (α := Voter) (f' := a2.Who.toNat * 3 + 0) rfl (Rd.own (i := 1) rfl rfl rfl) ((Get.elemN (s := 3) (x := x6) rfl g8.2.2 (Get.here _)).off (by omega)) rfl Try.runUnderlying93 rfl Try.sizeOf3 rfl rfl rfl) ?_
    refine Lst.nil ?_
    refine At.hd inv (fun w h => (h.weaken (FLe.refl _)).sublist (sk1 (sc1 (sk1 (sc1 (.refl _)))))) ?_
    refine HdJ.step [13] (by kernel_rfl) rfl ?_
    refine HdStep.c (fun inv => ?_) ?_
    ·refine Lst.storeS (i := 1) rfl rfl rfl rfl rfl Try.sizeOf3 (vs := [iv a2.Ballot]) rfl rfl (by decide) rfl (xs' := encs p87) (by rw [← h88]; exact (Put.elemN (s := 3) (x := x6) rfl g8.2.2 (Voter.put_Promised (Put.here (vs := [iv a2.Ballot]) rfl))).off (by omega)) (L' := (.blk b4 (enc a2) 46) :: (.own s_a0_0 93 3 (encs p87)) :: (.own s_a0_1 91 6 (encs a0.Rounds)) :: (.blk b_a0 (enc (SynodR.mk ({ a0 with Voters := p87 } : Synod) s_a0_0 s_a0_1)) 44) :: L) rfl ?_
     refine Lst.nil ?_
     refine At.hd inv (fun w h => (h.weaken (FLe.refl _)).sublist (sk1 (sc1 (sk1 (sc1 (.refl _)))))) ?_
     refine HdJ.step [14] (by kernel_rfl) rfl ?_
     refine HdStep.c (fun inv => ?_) ?_
     ·have g99 := lat_some h90
      refine Lst.r (Ev.nilCheckS (α := Voter) rfl (Rd.own (i := 1) rfl rfl rfl) ((Get.elemN (s := 3) (x := x89) rfl g99.2.2 (Get.here _)).off (by omega)) rfl) ?_
      refine Lst.nil ?_
      refine At.hd inv (fun w h => (h.weaken (FLe.refl _)).sublist (sk1 (sc1 (sk1 (sc1 (.refl _)))))) ?_
      refine HdJ.step [15] (by kernel_rfl) rfl ?_
      refine HdStep.c (fun inv => ?_) ?_
      ·refine Lst.r (Ev.fieldS (α := Voter) (f' := a2.Who.toNat * 3 + 1) rfl (Rd.own (i := 1) rfl rfl rfl) ((Get.elemN (s := 3) (x := x89) rfl g99.2.2 (Get.here _)).off (by omega)) rfl Try.runUnderlying93 rfl Try.sizeOf3 rfl rfl rfl) ?_
       refine Lst.nil ?_
       refine At.hd inv (fun w h => (h.weaken (FLe.refl _)).sublist (sk1 (sc1 (sk1 (sc1 (.refl _)))))) ?_
       refine HdJ.step [16] (by kernel_rfl) rfl ?_
       refine HdStep.c (fun inv => ?_) ?_
       ·refine Lst.storeS (i := 1) rfl rfl rfl rfl rfl Try.sizeOf3 (vs := [iv a2.Ballot]) rfl rfl (by decide) rfl (xs' := encs p92) (by rw [← h93]; exact (Put.elemN (s := 3) (x := x89) rfl g99.2.2 (Voter.put_Voted (Put.here (vs := [iv a2.Ballot]) rfl))).off (by omega)) (L' := (.blk b4 (enc a2) 46) :: (.own s_a0_0 93 3 (encs p92)) :: (.own s_a0_1 91 6 (encs a0.Rounds)) :: (.blk b_a0 (enc (SynodR.mk ({ a0 with Voters := p92 } : Synod) s_a0_0 s_a0_1)) 44) :: L) rfl ?_
        refine Lst.nil ?_
        refine At.hd inv (fun w h => (h.weaken (FLe.refl _)).sublist (sk1 (sc1 (sk1 (sc1 (.refl _)))))) ?_
        refine HdJ.done (by kernel_rfl) ?_
        exact At.meetN p92 (FLe.refl _) ⟨rfl, rfl, rfl, rfl, trivial⟩ rfl h97
       exact trivial
      exact trivial
     exact trivial
    exact trivial
   exact trivial
  exact trivial
 rintro F100 l95 hF101 hy
 subst hy
 refine Lst.as (e' := [(1, Sl.at s_a0_1 (a1.toNat * 6)), (5, pv b4 0), (105, Sl.at s_a0_0 (a2.Who.toNat * 3)), (113, Str.v x84.Text)]) (L' := (.blk b4 (enc a2) 46) :: (.own s_a0_0 93 3 (encs l95)) :: (.own s_a0_1 91 6 (encs a0.Rounds)) :: (.blk b_a0 (enc (SynodR.mk ({ a0 with Voters := l95 } : Synod) s_a0_0 s_a0_1)) 44) :: L) ⟨rfl, rfl, rfl, rfl, trivial⟩ rfl ?_
 obtain ⟨x102, h103, H⟩ := bind_some H
 have g104 := lat_some h103
 refine Lst.r (Ev.nilCheckS (α := Voter) rfl (Rd.own (i := 1) rfl rfl rfl) ((Get.elemN (s := 3) (x := x102) rfl g104.2.2 (Get.here _)).off (by omega)) rfl) ?_
 refine Lst.r (Ev.fieldS (α := Voter) (f' := a2.Who.toNat * 3 + 2) rfl (Rd.own (i := 1) rfl rfl rfl) ((Get.elemN (s := 3) (x := x102) rfl g104.2.2 (Get.here _)).off (by omega)) rfl Try.runUnderlying93 rfl Try.sizeOf9 rfl rfl rfl) ?_
 obtain ⟨p105, h106, H⟩ := Let_some H
 refine Lst.storeS (i := 1) rfl rfl rfl rfl rfl Try.sizeOf9 (vs := [Str.v x84.Text]) rfl rfl (by decide) rfl (xs' := encs p105) (by rw [← h106]; exact (Put.elemN (s := 3) (x := x102) rfl g104.2.2 (Voter.put_Text (Put.here (vs := [Str.v x84.Text]) rfl))).off (by omega)) (L' := (.blk b4 (enc a2) 46) :: (.own s_a0_0 93 3 (encs p105)) :: (.own s_a0_1 91 6 (encs a0.Rounds)) :: (.blk b_a0 (enc (SynodR.mk ({ a0 with Voters := p105 } : Synod) s_a0_0 s_a0_1)) 44) :: L) rfl ?_
 refine Lst.nil ?_
 refine At.then ?_
 refine Cd.tail 10 (by kernel_rfl) (by kernel_rfl) ?_
 refine Qt.r (Ev.move rfl) ?_
 obtain ⟨x107, h108, H⟩ := bind_some H
 have g109 := lat_some h108
 refine Qt.r (Ev.nilCheckS (α := Round) rfl (Rd.own (i := 2) rfl rfl rfl) ((Get.elemN (s := 6) (x := x107) rfl g109.2.2 (Get.here _)).off (by omega)) rfl) ?_
 refine Qt.r (Ev.fieldS (α := Round) (f' := a1.toNat * 6 + 3) rfl (Rd.own (i := 2) rfl rfl rfl) ((Get.elemN (s := 6) (x := x107) rfl g109.2.2 (Get.here _)).off (by omega)) rfl Try.runUnderlying91 rfl Try.sizeOf5 rfl rfl rfl) ?_
 refine Qt.r (Ev.loadS (α := Round) rfl (Rd.own (i := 2) rfl rfl rfl) Try.isAgg5 (v := .int .u8 x107.Voted.toNat) ((Get.elemN (s := 6) (x := x107) rfl g109.2.2 (Round.get_Voted (Get.here _))).off (by omega))) ?_
 refine Qt.r (Ev.fieldAddr (off' := 2) rfl Try.runUnderlying46 rfl Try.sizeOf3 rfl rfl) ?_
 refine Qt.r (Ev.load (i := 0) rfl rfl Try.isAgg3 (v := iv a2.Who) ((Act.get_Who (Get.here _)).off (by rfl))) ?_
 obtain ⟨n110, h111, H⟩ := bind_some H
 refine Qt.r (Ev.shlU8 (i := (1 : BitVec 8)) (m := n110) rfl (congrArg some (congrArg (Value.int .i64) (cnt_some h111)))) ?_
 refine Qt.r (Ev.orU8 (i := x107.Voted) (j := (1 : BitVec 8) <<< n110) rfl rfl) ?_
 refine Qt.r (Ev.nilCheckS (α := Round) rfl (Rd.own (i := 2) rfl rfl rfl) ((Get.elemN (s := 6) (x := x107) rfl g109.2.2 (Get.here _)).off (by omega)) rfl) ?_
 refine Qt.r (Ev.fieldS (α := Round) (f' := a1.toNat * 6 + 3) rfl (Rd.own (i := 2) rfl rfl rfl) ((Get.elemN (s := 6) (x := x107) rfl g109.2.2 (Get.here _)).off (by omega)) rfl Try.runUnderlying91 rfl Try.sizeOf5 rfl rfl rfl) ?_
 refine Qt.tail ?_
 obtain ⟨p113, h114, H⟩ := Let_some H
 refine Lst.storeS (i := 2) rfl rfl rfl rfl rfl Try.sizeOf5 (vs := [.int .u8 (x107.Voted ||| ((1 : BitVec 8) <<< n110)).toNat]) rfl rfl (by decide) rfl (xs' := encs p113) (by rw [← h114]; exact (Put.elemN (s := 6) (x := x107) rfl g109.2.2 (Round.put_Voted (Put.here (vs := [.int .u8 (x107.Voted ||| ((1 : BitVec 8) <<< n110)).toNat]) rfl))).off (by omega)) (L' := (.blk b4 (enc a2) 46) :: (.own s_a0_0 93 3 (encs p105)) :: (.own s_a0_1 91 6 (encs p113)) :: (.blk b_a0 (enc (SynodR.mk ({ a0 with Voters := p105, Rounds := p113 } : Synod) s_a0_0 s_a0_1)) 44) :: L) rfl ?_
 refine Lst.nil ?_
 refine At.in_normal ?_
 obtain rfl := some_inj H
 exact At.ret0 (.inr rfl) rfl hF101 (sc1 (sk1 (sk1 (sk1 (.refl _))))) ⟨rfl, rfl⟩
set_option maxRecDepth 20000 in
theorem synod_Step_sim {a0 : Synod} {a1 : Act} {s_a0_0 : Sl} {s_a0_1 : Sl} {r : Synod × Int} (H : synod_Step a0 a1 = some r) (w0 : World) (F : Frz) (M L : List Item) (hM : M.Sublist L) (hs_a0_0 : Rd w0 F M s_a0_0 a0.Voters) (hs_a0_1 : Rd w0 F M s_a0_1 a0.Rounds) : Ok Try.prog w0 23 [.agg (enc (SynodR.mk a0 s_a0_0 s_a0_1)).toArray, .agg (enc a1).toArray] F (L) (fun _ L' v => ∃ (s1 : Sl) (s3 : Sl), v = .tuple #[.agg (enc (SynodR.mk r.1 s1 s3)).toArray, iv r.2] ∧ L' = (.own s1 93 3 (encs r.1.Voters)) :: (.own s3 91 6 (encs r.1.Rounds)) :: L) := by
 unfold synod_Step at H
 refine Ok.enter (m := 2) (n := 104) Try.func23 rfl rfl rfl (by decide) ?_
 refine Cd.env (e' := [(0, .agg (enc (SynodR.mk a0 s_a0_0 s_a0_1)).toArray), (1, .agg (enc a1).toArray)]) rfl ?_
 refine Cd.seq ?_
 refine Cd.region ?_
 refine Lst.box rfl rfl (by decide) rfl (cs := enc (SynodR.mk a0 s_a0_0 s_a0_1)) rfl (fun b1 => ?_)
 refine Lst.box rfl rfl (by decide) rfl (cs := enc a1) rfl (fun b3 => ?_)
 refine Lst.addNil 93 3 ?_
 refine Lst.addNil 91 6 ?_
 refine Lst.alloc (cs := enc (SynodR.mk ({ Synod.zero with Voters := ([] : List Voter), Rounds := ([] : List Round) } : Synod) Sl.nil Sl.nil)) rfl rfl (by decide) Try.zeroValue44 rfl (fun b7 => ?_)
 refine Lst.r (Ev.assign rfl) ?_
 refine Lst.nil ?_
 refine At.then ?_
 refine Cd.seq ?_
 refine Cd.seq ?_
 refine Cd.region ?_
 refine Lst.r (Ev.loadA (i := 4) rfl rfl Try.isAgg44 Try.sizeOf44 (ch := enc (SynodR.mk a0 s_a0_0 s_a0_1)) (Enc.len _) (Get.here _)) ?_
 obtain ⟨r9, h10, H⟩ := bind_some H
 refine Lst.call1 rfl rfl (by decide) (vs := [.agg (enc (SynodR.mk a0 s_a0_0 s_a0_1)).toArray]) ⟨rfl, trivial⟩ Try.call25 (synod_Check_sim h10 w0 _ M _ (sc4 (sc1 hM)) (hs_a0_0.mono (FLe.refl _) (.refl _)) (hs_a0_1.mono (FLe.refl _) (.refl _))) ?_
 refine Lst.r (Ev.assign rfl) ?_
 refine Lst.nil ?_
 refine At.then ?_
 refine Cd.seq ?_
 refine Cd.region ?_
 refine Lst.r (Ev.move rfl) ?_
 refine Lst.r (Ev.neq rfl rfl) ?_
 refine Lst.nil ?_
 refine At.then ?_
 rcases Bool.eq_false_or_eq_true (r9 != (0 : Int)) with hb13 | hb13
 ·replace H := ite_t hb13 H
  refine Cd.condT rfl hb13 ?_
  refine Cd.seq ?_
  refine Cd.region ?_
  refine Lst.r (Ev.build (v := .agg (enc (SynodR.mk Synod.zero Sl.nil Sl.nil)).toArray) (pv := []) trivial (fun w => by kernel_rfl)) ?_
  refine Lst.r (Ev.move rfl) ?_
  refine Lst.store (i := 0) rfl rfl rfl rfl rfl Try.sizeOf44 (vs := enc (SynodR.mk Synod.zero Sl.nil Sl.nil)) rfl (Enc.len _) (Enc.one _) (cs' := enc (SynodR.mk Synod.zero Sl.nil Sl.nil)) (Put.here ((Enc.len _).trans (Enc.len _).symm)) (L' := (.blk b7 (enc (SynodR.mk Synod.zero Sl.nil Sl.nil)) 44) :: (.own Sl.nil 91 6 (encs ([] : List Round))) :: (.own Sl.nil 93 3 (encs ([] : List Voter))) :: (.blk b3 (enc a1) 46) :: (.blk b1 (enc (SynodR.mk a0 s_a0_0 s_a0_1)) 44) :: L) rfl ?_
  refine Lst.r (Ev.assign rfl) ?_
  refine Lst.nil ?_
  refine At.then ?_
  obtain rfl := some_inj H
  refine Cd.ret ?_
  refine At.then_ret ?_
  refine At.addNil 93 3 ?_
  refine At.addNil 91 6 ?_
  refine At.front (i := 1) rfl (L' := (.own Sl.nil 93 3 (encs ([] : List Voter))) :: (.own Sl.nil 91 6 (encs ([] : List Round))) :: (.blk b7 (enc (SynodR.mk ({ Synod.zero with Voters := ([] : List Voter), Rounds := ([] : List Round) } : Synod) Sl.nil Sl.nil)) 44) :: (.own Sl.nil 91 6 (encs ([] : List Round))) :: (.own Sl.nil 93 3 (encs ([] : List Voter))) :: (.blk b3 (enc a1) 46) :: (.blk b1 (enc (SynodR.mk a0 s_a0_0 s_a0_1)) 44) :: L) rfl ?_
  exact At.ret2 rfl (Res.cellA (i := 2) rfl rfl Try.isAgg44 Try.sizeOf44 (Enc.len _)) (Res.tmp rfl) (FLe.refl _) (sk1 (sk1 (sc1 (sc1 (sc1 (sc1 (sc1 (.refl _)))))))) ⟨Sl.nil, Sl.nil, rfl, rfl⟩
 replace H := ite_f hb13 H
 refine Cd.condF rfl hb13 ?_
 refine Cd.skip ?_
 refine At.then ?_
 refine Cd.seq ?_
 refine Cd.region ?_
 refine Lst.r (Ev.loadA (i := 4) rfl rfl Try.isAgg44 Try.sizeOf44 (ch := enc (SynodR.mk a0 s_a0_0 s_a0_1)) (Enc.len _) (Get.here _)) ?_
 refine Lst.r (Ev.fieldAddr (off' := 1) rfl Try.runUnderlying46 rfl Try.sizeOf3 rfl rfl) ?_
 refine Lst.r (Ev.load (i := 3) rfl rfl Try.isAgg3 (v := iv a1.Ballot) ((Act.get_Ballot (Get.here _)).off (by rfl))) ?_
 obtain ⟨r16, h17, H⟩ := bind_some H
 refine Lst.call1 rfl rfl (by decide) (vs := [.agg (enc (SynodR.mk a0 s_a0_0 s_a0_1)).toArray, iv a1.Ballot]) ⟨rfl, rfl, trivial⟩ Try.call61 (synod_find_sim h17 w0 _ M _ (sc4 (sc1 hM)) (hs_a0_0.mono (FLe.refl _) (.refl _)) (hs_a0_1.mono (FLe.refl _) (.refl _))) ?_
 refine Lst.r (Ev.assign rfl) ?_
 refine Lst.nil ?_
 refine At.then ?_
 refine Cd.seq ?_
 refine Cd.block ?_
 refine Cd.seq ?_
 refine Cd.region ?_
 refine Lst.r (Ev.fieldAddr (off' := 0) rfl Try.runUnderlying46 rfl Try.sizeOf3 rfl rfl) ?_
 refine Lst.r (Ev.load (i := 3) rfl rfl Try.isAgg3 (v := iv a1.Kind) ((Act.get_Kind (Get.here _)).off (by rfl))) ?_
 obtain ⟨r20, h21, H⟩ := bind_some H
 refine Lst.call1 rfl rfl (by decide) (vs := [iv a1.Kind, iv (1 : Int), iv (4 : Int)]) ⟨rfl, rfl, rfl, trivial⟩ Try.call62 (synod_in_sim h21 w0 _ M _ (sc4 (sc1 hM))) ?_
 refine Lst.r (Ev.not rfl) ?_
 refine Lst.r (Ev.move rfl) ?_
 obtain ⟨o24, H, HKo24⟩ := bind_some H
 refine Lst.join (σ := Bool) 5 (fun y25 => [(2, pv b1 0), (3, pv b3 0), (4, pv b7 0), (7, iv r16), (29, .bool y25)]) (fun y25 => (.blk b7 (enc (SynodR.mk ({ Synod.zero with Voters := ([] : List Voter), Rounds := ([] : List Round) } : Synod) Sl.nil Sl.nil)) 44) :: (.own Sl.nil 91 6 (encs ([] : List Round))) :: (.own Sl.nil 93 3 (encs ([] : List Voter))) :: (.blk b3 (enc a1) 46) :: (.blk b1 (enc (SynodR.mk a0 s_a0_0 s_a0_1)) 44) :: L) (fun _ y25 => y25 = o24) ?_ ?_
 ·rcases Bool.eq_false_or_eq_true (!r20) with hb26 | hb26
  ·replace H := ite_t hb26 H
   refine Lst.skip rfl rfl rfl hb26 rfl (by decide) ?_
   refine Lst.skip rfl rfl rfl hb26 rfl (by decide) ?_
   refine Lst.skip rfl rfl rfl hb26 rfl (by decide) ?_
   refine Lst.skip rfl rfl rfl hb26 rfl (by decide) ?_
   refine Lst.r (Ev.pickT rfl hb26 rfl) ?_
   refine Lst.nil ?_
   exact At.meet true (FLe.refl _) ⟨rfl, rfl, rfl, rfl, rfl, trivial⟩ rfl (some_inj H)
  replace H := ite_f hb26 H
  refine Lst.rG hb26 (Ev.fieldAddr (off' := 1) rfl Try.runUnderlying46 rfl Try.sizeOf3 rfl rfl) ?_
  refine Lst.rG hb26 (Ev.load (i := 3) rfl rfl Try.isAgg3 (v := iv a1.Ballot) ((Act.get_Ballot (Get.here _)).off (by rfl))) ?_
  obtain ⟨r27, h28, H⟩ := bind_some H
  refine Lst.call1G rfl rfl rfl hb26 rfl (by decide) (vs := [iv a1.Ballot, iv (1 : Int), iv (16777215 : Int)]) ⟨rfl, rfl, rfl, trivial⟩ Try.call62 (synod_in_sim h28 w0 _ M _ (sc4 (sc1 hM))) ?_
  refine Lst.rG hb26 (Ev.not rfl) ?_
  refine Lst.r (Ev.pickF rfl hb26 rfl) ?_
  refine Lst.nil ?_
  exact At.meet (!r27) (FLe.refl _) ⟨rfl, rfl, rfl, rfl, rfl, trivial⟩ rfl (some_inj H)
 rintro F31 y25 hF32 hy
 subst hy
 refine Lst.as (e' := [(2, pv b1 0), (3, pv b3 0), (4, pv b7 0), (7, iv r16), (29, .bool y25)]) (L' := (.blk b7 (enc (SynodR.mk ({ Synod.zero with Voters := ([] : List Voter), Rounds := ([] : List Round) } : Synod) Sl.nil Sl.nil)) 44) :: (.own Sl.nil 91 6 (encs ([] : List Round))) :: (.own Sl.nil 93 3 (encs ([] : List Voter))) :: (.blk b3 (enc a1) 46) :: (.blk b1 (enc (SynodR.mk a0 s_a0_0 s_a0_1)) 44) :: L) ⟨rfl, rfl, rfl, rfl, rfl, trivial⟩ rfl ?_
 replace H := HKo24
 refine Lst.r (Ev.move rfl) ?_
 obtain ⟨o33, H, HKo33⟩ := bind_some H
 refine Lst.join (σ := Bool) 9 (fun y34 => [(2, pv b1 0), (3, pv b3 0), (4, pv b7 0), (7, iv r16), (39, .bool y34)]) (fun y34 => (.blk b7 (enc (SynodR.mk ({ Synod.zero with Voters := ([] : List Voter), Rounds := ([] : List Round) } : Synod) Sl.nil Sl.nil)) 44) :: (.own Sl.nil 91 6 (encs ([] : List Round))) :: (.own Sl.nil 93 3 (encs ([] : List Voter))) :: (.blk b3 (enc a1) 46) :: (.blk b1 (enc (SynodR.mk a0 s_a0_0 s_a0_1)) 44) :: L) (fun _ y34 => y34 = o33) ?_ ?_
 ·rcases Bool.eq_false_or_eq_true y25 with hb35 | hb35
  ·replace H := ite_t hb35 H
   refine Lst.skip rfl rfl rfl hb35 rfl (by decide) ?_
   refine Lst.skip rfl rfl rfl hb35 rfl (by decide) ?_
   refine Lst.skip rfl rfl rfl hb35 rfl (by decide) ?_
   refine Lst.skip rfl rfl rfl hb35 rfl (by decide) ?_
   refine Lst.skip rfl rfl rfl hb35 rfl (by decide) ?_
   refine Lst.skip rfl rfl rfl hb35 rfl (by decide) ?_
   refine Lst.skip rfl rfl rfl hb35 rfl (by decide) ?_
   refine Lst.skip rfl rfl rfl hb35 rfl (by decide) ?_
   refine Lst.r (Ev.pickT rfl hb35 rfl) ?_
   refine Lst.nil ?_
   exact At.meet true (FLe.refl _) ⟨rfl, rfl, rfl, rfl, rfl, trivial⟩ rfl (some_inj H)
  replace H := ite_f hb35 H
  refine Lst.rG hb35 (Ev.fieldAddr (off' := 2) rfl Try.runUnderlying46 rfl Try.sizeOf3 rfl rfl) ?_
  refine Lst.rG hb35 (Ev.load (i := 3) rfl rfl Try.isAgg3 (v := iv a1.Who) ((Act.get_Who (Get.here _)).off (by rfl))) ?_
  refine Lst.rG hb35 (Ev.fieldAddr (off' := 0) rfl Try.runUnderlying44 rfl Try.sizeOf41 rfl rfl) ?_
  refine Lst.rG hb35 (Ev.load (i := 4) rfl rfl Try.isAgg41 (v := Sl.v s_a0_0) ((SynodR.get_Voters (Get.here _)).off (by rfl))) ?_
  refine Lst.rG hb35 (Ev.lenS (α := Voter) (xs := a0.Voters) (by decide) rfl rfl Try.runUnderlying41 (hs_a0_0.mono hF32 (sc4 (sc1 hM)))) ?_
  refine Lst.rG hb35 (Ev.sub rfl rfl) ?_
  obtain ⟨r36, h37, H⟩ := bind_some H
  refine Lst.call1G rfl rfl rfl hb35 rfl (by decide) (vs := [iv a1.Who, iv (0 : Int), iv (w64 ((a0.Voters.length : Int) - (1 : Int)))]) ⟨rfl, rfl, rfl, trivial⟩ Try.call62 (synod_in_sim h37 w0 _ M _ (sc4 (sc1 hM))) ?_
  refine Lst.rG hb35 (Ev.not rfl) ?_
  refine Lst.r (Ev.pickF rfl hb35 rfl) ?_
  refine Lst.nil ?_
  exact At.meet (!r36) (FLe.refl _) ⟨rfl, rfl, rfl, rfl, rfl, trivial⟩ rfl (some_inj H)
 rintro F40 y34 hF41 hy
 subst hy
 refine Lst.as (e' := [(2, pv b1 0), (3, pv b3 0), (4, pv b7 0), (7, iv r16), (39, .bool y34)]) (L' := (.blk b7 (enc (SynodR.mk ({ Synod.zero with Voters := ([] : List Voter), Rounds := ([] : List Round) } : Synod) Sl.nil Sl.nil)) 44) :: (.own Sl.nil 91 6 (encs ([] : List Round))) :: (.own Sl.nil 93 3 (encs ([] : List Voter))) :: (.blk b3 (enc a1) 46) :: (.blk b1 (enc (SynodR.mk a0 s_a0_0 s_a0_1)) 44) :: L) ⟨rfl, rfl, rfl, rfl, rfl, trivial⟩ rfl ?_
 replace H := HKo33
 refine Lst.r (Ev.assign rfl) ?_
 refine Lst.nil ?_
 refine At.then ?_
 rcases Bool.eq_false_or_eq_true y34 with hb42 | hb42
 ·replace H := ite_t hb42 H
  refine Cd.condT rfl hb42 ?_
  refine Cd.seq ?_
  refine Cd.region ?_
  refine Lst.r (Ev.build (v := .agg (enc (SynodR.mk Synod.zero Sl.nil Sl.nil)).toArray) (pv := []) trivial (fun w => by kernel_rfl)) ?_
  refine Lst.store (i := 0) rfl rfl rfl rfl rfl Try.sizeOf44 (vs := enc (SynodR.mk Synod.zero Sl.nil Sl.nil)) rfl (Enc.len _) (Enc.one _) (cs' := enc (SynodR.mk Synod.zero Sl.nil Sl.nil)) (Put.here ((Enc.len _).trans (Enc.len _).symm)) (L' := (.blk b7 (enc (SynodR.mk Synod.zero Sl.nil Sl.nil)) 44) :: (.own Sl.nil 91 6 (encs ([] : List Round))) :: (.own Sl.nil 93 3 (encs ([] : List Voter))) :: (.blk b3 (enc a1) 46) :: (.blk b1 (enc (SynodR.mk a0 s_a0_0 s_a0_1)) 44) :: L) rfl ?_
  refine Lst.r (Ev.assign rfl) ?_
  refine Lst.nil ?_
  refine At.then ?_
  obtain rfl := some_inj H
  refine Cd.ret ?_
  refine At.in_ret ?_
  refine At.then_ret ?_
  refine At.addNil 93 3 ?_
  refine At.addNil 91 6 ?_
  refine At.front (i := 1) rfl (L' := (.own Sl.nil 93 3 (encs ([] : List Voter))) :: (.own Sl.nil 91 6 (encs ([] : List Round))) :: (.blk b7 (enc (SynodR.mk ({ Synod.zero with Voters := ([] : List Voter), Rounds := ([] : List Round) } : Synod) Sl.nil Sl.nil)) 44) :: (.own Sl.nil 91 6 (encs ([] : List Round))) :: (.own Sl.nil 93 3 (encs ([] : List Voter))) :: (.blk b3 (enc a1) 46) :: (.blk b1 (enc (SynodR.mk a0 s_a0_0 s_a0_1)) 44) :: L) rfl ?_
  exact At.ret2 rfl (Res.cellA (i := 2) rfl rfl Try.isAgg44 Try.sizeOf44 (Enc.len _)) (Res.tmp rfl) (FLe.trans hF32 hF41) (sk1 (sk1 (sc1 (sc1 (sc1 (sc1 (sc1 (.refl _)))))))) ⟨Sl.nil, Sl.nil, rfl, rfl⟩
 replace H := ite_f hb42 H
 refine Cd.condF rfl hb42 ?_
 refine Cd.seq ?_
 refine Cd.region ?_
 refine Lst.r (Ev.fieldAddr (off' := 3) rfl Try.runUnderlying46 rfl Try.sizeOf9 rfl rfl) ?_
 refine Lst.r (Ev.load (i := 3) rfl rfl Try.isAgg9 (v := Str.v a1.Text) ((Act.get_Text (Get.here _)).off (by rfl))) ?_
 refine Lst.r (Ev.lenStr rfl rfl Try.runUnderlying9) ?_
 refine Lst.r (Ev.gtr rfl rfl) ?_
 refine Lst.r (Ev.assign rfl) ?_
 refine Lst.nil ?_
 refine At.then ?_
 rcases Bool.eq_false_or_eq_true (decide ((a1.Text.length : Int) > (200 : Int))) with hb45 | hb45
 ·replace H := ite_t hb45 H
  refine Cd.condT rfl hb45 ?_
  refine Cd.seq ?_
  refine Cd.region ?_
  refine Lst.r (Ev.build (v := .agg (enc (SynodR.mk Synod.zero Sl.nil Sl.nil)).toArray) (pv := []) trivial (fun w => by kernel_rfl)) ?_
  refine Lst.store (i := 0) rfl rfl rfl rfl rfl Try.sizeOf44 (vs := enc (SynodR.mk Synod.zero Sl.nil Sl.nil)) rfl (Enc.len _) (Enc.one _) (cs' := enc (SynodR.mk Synod.zero Sl.nil Sl.nil)) (Put.here ((Enc.len _).trans (Enc.len _).symm)) (L' := (.blk b7 (enc (SynodR.mk Synod.zero Sl.nil Sl.nil)) 44) :: (.own Sl.nil 91 6 (encs ([] : List Round))) :: (.own Sl.nil 93 3 (encs ([] : List Voter))) :: (.blk b3 (enc a1) 46) :: (.blk b1 (enc (SynodR.mk a0 s_a0_0 s_a0_1)) 44) :: L) rfl ?_
  refine Lst.r (Ev.assign rfl) ?_
  refine Lst.nil ?_
  refine At.then ?_
  obtain rfl := some_inj H
  refine Cd.ret ?_
  refine At.in_ret ?_
  refine At.then_ret ?_
  refine At.addNil 93 3 ?_
  refine At.addNil 91 6 ?_
  refine At.front (i := 1) rfl (L' := (.own Sl.nil 93 3 (encs ([] : List Voter))) :: (.own Sl.nil 91 6 (encs ([] : List Round))) :: (.blk b7 (enc (SynodR.mk ({ Synod.zero with Voters := ([] : List Voter), Rounds := ([] : List Round) } : Synod) Sl.nil Sl.nil)) 44) :: (.own Sl.nil 91 6 (encs ([] : List Round))) :: (.own Sl.nil 93 3 (encs ([] : List Voter))) :: (.blk b3 (enc a1) 46) :: (.blk b1 (enc (SynodR.mk a0 s_a0_0 s_a0_1)) 44) :: L) rfl ?_
  exact At.ret2 rfl (Res.cellA (i := 2) rfl rfl Try.isAgg44 Try.sizeOf44 (Enc.len _)) (Res.tmp rfl) (FLe.trans hF32 hF41) (sk1 (sk1 (sc1 (sc1 (sc1 (sc1 (sc1 (.refl _)))))))) ⟨Sl.nil, Sl.nil, rfl, rfl⟩
 replace H := ite_f hb45 H
 refine Cd.condF rfl hb45 ?_
 refine Cd.seq ?_
 refine Cd.region ?_
 refine Lst.r (Ev.fieldAddr (off' := 0) rfl Try.runUnderlying46 rfl Try.sizeOf3 rfl rfl) ?_
 refine Lst.r (Ev.load (i := 3) rfl rfl Try.isAgg3 (v := iv a1.Kind) ((Act.get_Kind (Get.here _)).off (by rfl))) ?_
 refine Lst.r (Ev.eql rfl rfl) ?_
 refine Lst.r (Ev.move rfl) ?_
 obtain ⟨o48, H, HKo48⟩ := bind_some H
 refine Lst.join (σ := Bool) 3 (fun y49 => [(2, pv b1 0), (3, pv b3 0), (4, pv b7 0), (7, iv r16), (54, .bool y49)]) (fun y49 => (.blk b7 (enc (SynodR.mk ({ Synod.zero with Voters := ([] : List Voter), Rounds := ([] : List Round) } : Synod) Sl.nil Sl.nil)) 44) :: (.own Sl.nil 91 6 (encs ([] : List Round))) :: (.own Sl.nil 93 3 (encs ([] : List Voter))) :: (.blk b3 (enc a1) 46) :: (.blk b1 (enc (SynodR.mk a0 s_a0_0 s_a0_1)) 44) :: L) (fun _ y49 => y49 = o48) ?_ ?_
 ·rcases (Bool.eq_false_or_eq_true (a1.Kind == (1 : Int))).symm with hb50 | hb50
  ·replace H := ite_f hb50 H
   refine Lst.skip rfl rfl rfl hb50 rfl (by decide) ?_
   refine Lst.skip rfl rfl rfl hb50 rfl (by decide) ?_
   refine Lst.r (Ev.pickF rfl hb50 rfl) ?_
   refine Lst.nil ?_
   exact At.meet false (FLe.refl _) ⟨rfl, rfl, rfl, rfl, rfl, trivial⟩ rfl (some_inj H)
  replace H := ite_t hb50 H
  refine Lst.rG hb50 (Ev.move rfl) ?_
  refine Lst.rG hb50 (Ev.geq rfl rfl) ?_
  refine Lst.r (Ev.pickT rfl hb50 rfl) ?_
  refine Lst.nil ?_
  exact At.meet (decide (r16 ≥ (0 : Int))) (FLe.refl _) ⟨rfl, rfl, rfl, rfl, rfl, trivial⟩ rfl (some_inj H)
 rintro F51 y49 hF52 hy
 subst hy
 refine Lst.as (e' := [(2, pv b1 0), (3, pv b3 0), (4, pv b7 0), (7, iv r16), (54, .bool y49)]) (L' := (.blk b7 (enc (SynodR.mk ({ Synod.zero with Voters := ([] : List Voter), Rounds := ([] : List Round) } : Synod) Sl.nil Sl.nil)) 44) :: (.own Sl.nil 91 6 (encs ([] : List Round))) :: (.own Sl.nil 93 3 (encs ([] : List Voter))) :: (.blk b3 (enc a1) 46) :: (.blk b1 (enc (SynodR.mk a0 s_a0_0 s_a0_1)) 44) :: L) ⟨rfl, rfl, rfl, rfl, rfl, trivial⟩ rfl ?_
 replace H := HKo48
 refine Lst.r (Ev.assign rfl) ?_
 refine Lst.nil ?_
 refine At.then ?_
 rcases Bool.eq_false_or_eq_true y49 with hb53 | hb53
 ·replace H := ite_t hb53 H
  refine Cd.condT rfl hb53 ?_
  refine Cd.seq ?_
  refine Cd.region ?_
  refine Lst.r (Ev.build (v := .agg (enc (SynodR.mk Synod.zero Sl.nil Sl.nil)).toArray) (pv := []) trivial (fun w => by kernel_rfl)) ?_
  refine Lst.store (i := 0) rfl rfl rfl rfl rfl Try.sizeOf44 (vs := enc (SynodR.mk Synod.zero Sl.nil Sl.nil)) rfl (Enc.len _) (Enc.one _) (cs' := enc (SynodR.mk Synod.zero Sl.nil Sl.nil)) (Put.here ((Enc.len _).trans (Enc.len _).symm)) (L' := (.blk b7 (enc (SynodR.mk Synod.zero Sl.nil Sl.nil)) 44) :: (.own Sl.nil 91 6 (encs ([] : List Round))) :: (.own Sl.nil 93 3 (encs ([] : List Voter))) :: (.blk b3 (enc a1) 46) :: (.blk b1 (enc (SynodR.mk a0 s_a0_0 s_a0_1)) 44) :: L) rfl ?_
  refine Lst.r (Ev.assign rfl) ?_
  refine Lst.nil ?_
  refine At.then ?_
  obtain rfl := some_inj H
  refine Cd.ret ?_
  refine At.in_ret ?_
  refine At.then_ret ?_
  refine At.addNil 93 3 ?_
  refine At.addNil 91 6 ?_
  refine At.front (i := 1) rfl (L' := (.own Sl.nil 93 3 (encs ([] : List Voter))) :: (.own Sl.nil 91 6 (encs ([] : List Round))) :: (.blk b7 (enc (SynodR.mk ({ Synod.zero with Voters := ([] : List Voter), Rounds := ([] : List Round) } : Synod) Sl.nil Sl.nil)) 44) :: (.own Sl.nil 91 6 (encs ([] : List Round))) :: (.own Sl.nil 93 3 (encs ([] : List Voter))) :: (.blk b3 (enc a1) 46) :: (.blk b1 (enc (SynodR.mk a0 s_a0_0 s_a0_1)) 44) :: L) rfl ?_
  exact At.ret2 rfl (Res.cellA (i := 2) rfl rfl Try.isAgg44 Try.sizeOf44 (Enc.len _)) (Res.tmp rfl) (FLe.trans (FLe.trans hF32 hF41) hF52) (sk1 (sk1 (sc1 (sc1 (sc1 (sc1 (sc1 (.refl _)))))))) ⟨Sl.nil, Sl.nil, rfl, rfl⟩
 replace H := ite_f hb53 H
 refine Cd.condF rfl hb53 ?_
 refine Cd.seq ?_
 refine Cd.region ?_
 refine Lst.r (Ev.fieldAddr (off' := 0) rfl Try.runUnderlying46 rfl Try.sizeOf3 rfl rfl) ?_
 refine Lst.r (Ev.load (i := 3) rfl rfl Try.isAgg3 (v := iv a1.Kind) ((Act.get_Kind (Get.here _)).off (by rfl))) ?_
 refine Lst.r (Ev.eql rfl rfl) ?_
 refine Lst.r (Ev.move rfl) ?_
 obtain ⟨o56, H, HKo56⟩ := bind_some H
 refine Lst.join (σ := Bool) 5 (fun y57 => [(2, pv b1 0), (3, pv b3 0), (4, pv b7 0), (7, iv r16), (65, .bool y57)]) (fun y57 => (.blk b7 (enc (SynodR.mk ({ Synod.zero with Voters := ([] : List Voter), Rounds := ([] : List Round) } : Synod) Sl.nil Sl.nil)) 44) :: (.own Sl.nil 91 6 (encs ([] : List Round))) :: (.own Sl.nil 93 3 (encs ([] : List Voter))) :: (.blk b3 (enc a1) 46) :: (.blk b1 (enc (SynodR.mk a0 s_a0_0 s_a0_1)) 44) :: L) (fun _ y57 => y57 = o56) ?_ ?_
 ·rcases (Bool.eq_false_or_eq_true (a1.Kind == (1 : Int))).symm with hb58 | hb58
  ·replace H := ite_f hb58 H
   refine Lst.skip rfl rfl rfl hb58 rfl (by decide) ?_
   refine Lst.skip rfl rfl rfl hb58 rfl (by decide) ?_
   refine Lst.skip rfl rfl rfl hb58 rfl (by decide) ?_
   refine Lst.skip rfl rfl rfl hb58 rfl (by decide) ?_
   refine Lst.r (Ev.pickF rfl hb58 rfl) ?_
   refine Lst.nil ?_
   exact At.meet false (FLe.refl _) ⟨rfl, rfl, rfl, rfl, rfl, trivial⟩ rfl (some_inj H)
  replace H := ite_t hb58 H
  refine Lst.rG hb58 (Ev.fieldAddr (off' := 1) rfl Try.runUnderlying44 rfl Try.sizeOf42 rfl rfl) ?_
  refine Lst.rG hb58 (Ev.load (i := 4) rfl rfl Try.isAgg42 (v := Sl.v s_a0_1) ((SynodR.get_Rounds (Get.here _)).off (by rfl))) ?_
  refine Lst.rG hb58 (Ev.lenS (α := Round) (xs := a0.Rounds) (by decide) rfl rfl Try.runUnderlying42 (hs_a0_1.mono (FLe.trans (FLe.trans hF32 hF41) hF52) (sc4 (sc1 hM)))) ?_
  refine Lst.rG hb58 (Ev.eql rfl rfl) ?_
  refine Lst.r (Ev.pickT rfl hb58 rfl) ?_
  refine Lst.nil ?_
  exact At.meet ((a0.Rounds.length : Int) == (30 : Int)) (FLe.refl _) ⟨rfl, rfl, rfl, rfl, rfl, trivial⟩ rfl (some_inj H)
 rintro F59 y57 hF60 hy
 subst hy
 refine Lst.as (e' := [(2, pv b1 0), (3, pv b3 0), (4, pv b7 0), (7, iv r16), (65, .bool y57)]) (L' := (.blk b7 (enc (SynodR.mk ({ Synod.zero with Voters := ([] : List Voter), Rounds := ([] : List Round) } : Synod) Sl.nil Sl.nil)) 44) :: (.own Sl.nil 91 6 (encs ([] : List Round))) :: (.own Sl.nil 93 3 (encs ([] : List Voter))) :: (.blk b3 (enc a1) 46) :: (.blk b1 (enc (SynodR.mk a0 s_a0_0 s_a0_1)) 44) :: L) ⟨rfl, rfl, rfl, rfl, rfl, trivial⟩ rfl ?_
 replace H := HKo56
 refine Lst.r (Ev.assign rfl) ?_
 refine Lst.nil ?_
 refine At.then ?_
 rcases Bool.eq_false_or_eq_true y57 with hb61 | hb61
 ·replace H := ite_t hb61 H
  refine Cd.condT rfl hb61 ?_
  refine Cd.seq ?_
  refine Cd.region ?_
  refine Lst.r (Ev.build (v := .agg (enc (SynodR.mk Synod.zero Sl.nil Sl.nil)).toArray) (pv := []) trivial (fun w => by kernel_rfl)) ?_
  refine Lst.store (i := 0) rfl rfl rfl rfl rfl Try.sizeOf44 (vs := enc (SynodR.mk Synod.zero Sl.nil Sl.nil)) rfl (Enc.len _) (Enc.one _) (cs' := enc (SynodR.mk Synod.zero Sl.nil Sl.nil)) (Put.here ((Enc.len _).trans (Enc.len _).symm)) (L' := (.blk b7 (enc (SynodR.mk Synod.zero Sl.nil Sl.nil)) 44) :: (.own Sl.nil 91 6 (encs ([] : List Round))) :: (.own Sl.nil 93 3 (encs ([] : List Voter))) :: (.blk b3 (enc a1) 46) :: (.blk b1 (enc (SynodR.mk a0 s_a0_0 s_a0_1)) 44) :: L) rfl ?_
  refine Lst.r (Ev.assign rfl) ?_
  refine Lst.nil ?_
  refine At.then ?_
  obtain rfl := some_inj H
  refine Cd.ret ?_
  refine At.in_ret ?_
  refine At.then_ret ?_
  refine At.addNil 93 3 ?_
  refine At.addNil 91 6 ?_
  refine At.front (i := 1) rfl (L' := (.own Sl.nil 93 3 (encs ([] : List Voter))) :: (.own Sl.nil 91 6 (encs ([] : List Round))) :: (.blk b7 (enc (SynodR.mk ({ Synod.zero with Voters := ([] : List Voter), Rounds := ([] : List Round) } : Synod) Sl.nil Sl.nil)) 44) :: (.own Sl.nil 91 6 (encs ([] : List Round))) :: (.own Sl.nil 93 3 (encs ([] : List Voter))) :: (.blk b3 (enc a1) 46) :: (.blk b1 (enc (SynodR.mk a0 s_a0_0 s_a0_1)) 44) :: L) rfl ?_
  exact At.ret2 rfl (Res.cellA (i := 2) rfl rfl Try.isAgg44 Try.sizeOf44 (Enc.len _)) (Res.tmp rfl) (FLe.trans (FLe.trans (FLe.trans hF32 hF41) hF52) hF60) (sk1 (sk1 (sc1 (sc1 (sc1 (sc1 (sc1 (.refl _)))))))) ⟨Sl.nil, Sl.nil, rfl, rfl⟩
 replace H := ite_f hb61 H
 refine Cd.condF rfl hb61 ?_
 refine Cd.seq ?_
 refine Cd.region ?_
 refine Lst.r (Ev.fieldAddr (off' := 0) rfl Try.runUnderlying46 rfl Try.sizeOf3 rfl rfl) ?_
 refine Lst.r (Ev.load (i := 3) rfl rfl Try.isAgg3 (v := iv a1.Kind) ((Act.get_Kind (Get.here _)).off (by rfl))) ?_
 refine Lst.r (Ev.neq rfl rfl) ?_
 refine Lst.r (Ev.move rfl) ?_
 obtain ⟨o64, H, HKo64⟩ := bind_some H
 refine Lst.join (σ := Bool) 3 (fun y65 => [(2, pv b1 0), (3, pv b3 0), (4, pv b7 0), (7, iv r16), (74, .bool y65)]) (fun y65 => (.blk b7 (enc (SynodR.mk ({ Synod.zero with Voters := ([] : List Voter), Rounds := ([] : List Round) } : Synod) Sl.nil Sl.nil)) 44) :: (.own Sl.nil 91 6 (encs ([] : List Round))) :: (.own Sl.nil 93 3 (encs ([] : List Voter))) :: (.blk b3 (enc a1) 46) :: (.blk b1 (enc (SynodR.mk a0 s_a0_0 s_a0_1)) 44) :: L) (fun _ y65 => y65 = o64) ?_ ?_
 ·rcases (Bool.eq_false_or_eq_true (a1.Kind != (1 : Int))).symm with hb66 | hb66
  ·replace H := ite_f hb66 H
   refine Lst.skip rfl rfl rfl hb66 rfl (by decide) ?_
   refine Lst.skip rfl rfl rfl hb66 rfl (by decide) ?_
   refine Lst.r (Ev.pickF rfl hb66 rfl) ?_
   refine Lst.nil ?_
   exact At.meet false (FLe.refl _) ⟨rfl, rfl, rfl, rfl, rfl, trivial⟩ rfl (some_inj H)
  replace H := ite_t hb66 H
  refine Lst.rG hb66 (Ev.move rfl) ?_
  refine Lst.rG hb66 (Ev.lss rfl rfl) ?_
  refine Lst.r (Ev.pickT rfl hb66 rfl) ?_
  refine Lst.nil ?_
  exact At.meet (decide (r16 < (0 : Int))) (FLe.refl _) ⟨rfl, rfl, rfl, rfl, rfl, trivial⟩ rfl (some_inj H)
 rintro F67 y65 hF68 hy
 subst hy
 refine Lst.as (e' := [(2, pv b1 0), (3, pv b3 0), (4, pv b7 0), (7, iv r16), (74, .bool y65)]) (L' := (.blk b7 (enc (SynodR.mk ({ Synod.zero with Voters := ([] : List Voter), Rounds := ([] : List Round) } : Synod) Sl.nil Sl.nil)) 44) :: (.own Sl.nil 91 6 (encs ([] : List Round))) :: (.own Sl.nil 93 3 (encs ([] : List Voter))) :: (.blk b3 (enc a1) 46) :: (.blk b1 (enc (SynodR.mk a0 s_a0_0 s_a0_1)) 44) :: L) ⟨rfl, rfl, rfl, rfl, rfl, trivial⟩ rfl ?_
 replace H := HKo64
 refine Lst.r (Ev.assign rfl) ?_
 refine Lst.nil ?_
 refine At.then ?_
 rcases Bool.eq_false_or_eq_true y65 with hb69 | hb69
 ·replace H := ite_t hb69 H
  refine Cd.condT rfl hb69 ?_
  refine Cd.seq ?_
  refine Cd.region ?_
  refine Lst.r (Ev.build (v := .agg (enc (SynodR.mk Synod.zero Sl.nil Sl.nil)).toArray) (pv := []) trivial (fun w => by kernel_rfl)) ?_
  refine Lst.store (i := 0) rfl rfl rfl rfl rfl Try.sizeOf44 (vs := enc (SynodR.mk Synod.zero Sl.nil Sl.nil)) rfl (Enc.len _) (Enc.one _) (cs' := enc (SynodR.mk Synod.zero Sl.nil Sl.nil)) (Put.here ((Enc.len _).trans (Enc.len _).symm)) (L' := (.blk b7 (enc (SynodR.mk Synod.zero Sl.nil Sl.nil)) 44) :: (.own Sl.nil 91 6 (encs ([] : List Round))) :: (.own Sl.nil 93 3 (encs ([] : List Voter))) :: (.blk b3 (enc a1) 46) :: (.blk b1 (enc (SynodR.mk a0 s_a0_0 s_a0_1)) 44) :: L) rfl ?_
  refine Lst.r (Ev.assign rfl) ?_
  refine Lst.nil ?_
  refine At.then ?_
  obtain rfl := some_inj H
  refine Cd.ret ?_
  refine At.in_ret ?_
  refine At.then_ret ?_
  refine At.addNil 93 3 ?_
  refine At.addNil 91 6 ?_
  refine At.front (i := 1) rfl (L' := (.own Sl.nil 93 3 (encs ([] : List Voter))) :: (.own Sl.nil 91 6 (encs ([] : List Round))) :: (.blk b7 (enc (SynodR.mk ({ Synod.zero with Voters := ([] : List Voter), Rounds := ([] : List Round) } : Synod) Sl.nil Sl.nil)) 44) :: (.own Sl.nil 91 6 (encs ([] : List Round))) :: (.own Sl.nil 93 3 (encs ([] : List Voter))) :: (.blk b3 (enc a1) 46) :: (.blk b1 (enc (SynodR.mk a0 s_a0_0 s_a0_1)) 44) :: L) rfl ?_
  exact At.ret2 rfl (Res.cellA (i := 2) rfl rfl Try.isAgg44 Try.sizeOf44 (Enc.len _)) (Res.tmp rfl) (FLe.trans (FLe.trans (FLe.trans (FLe.trans hF32 hF41) hF52) hF60) hF68) (sk1 (sk1 (sc1 (sc1 (sc1 (sc1 (sc1 (.refl _)))))))) ⟨Sl.nil, Sl.nil, rfl, rfl⟩
 replace H := ite_f hb69 H
 refine Cd.condF rfl hb69 ?_
 refine Cd.skip ?_
 refine At.in_normal ?_
 refine At.then ?_
 refine Cd.seq ?_
 obtain ⟨r72, h73, H⟩ := bind_some H
 obtain ⟨r78, h79, H⟩ := bind_some H
 obtain ⟨o98, h99, H⟩ := Let_some H
 refine Cd.headMeet (σ := Nat × Sl × (List Round) × Sl × (List Voter) × Sl × (List Round) × Sl × (List Voter)) 8 (fun (b89, s90, l91, s92, l93, s94, l95, s96, l97) => [(3, pv b3 0), (4, pv b7 0), (7, iv r16), (8, pv b89 0), (82, .agg (enc (SynodR.mk ({ Synod.zero with Voters := l97, Rounds := l95 } : Synod) s96 s94)).toArray)]) (fun (b89, s90, l91, s92, l93, s94, l95, s96, l97) => (.blk b89 (enc (SynodR.mk ({ Synod.zero with Voters := l93, Rounds := l91 } : Synod) s92 s90)) 44) :: (.own s90 91 6 (encs l91)) :: (.own s92 93 3 (encs l93)) :: (.own s94 91 6 (encs l95)) :: (.own s96 93 3 (encs l97)) :: (.blk b7 (enc (SynodR.mk ({ Synod.zero with Voters := ([] : List Voter), Rounds := ([] : List Round) } : Synod) Sl.nil Sl.nil)) 44) :: (.own Sl.nil 91 6 (encs ([] : List Round))) :: (.own Sl.nil 93 3 (encs ([] : List Voter))) :: (.blk b3 (enc a1) 46) :: (.blk b1 (enc (SynodR.mk a0 s_a0_0 s_a0_1)) 44) :: L) (fun _ (b89, s90, l91, s92, l93, s94, l95, s96, l97) => (l91, l93, l95, l97) = o98) (by kernel_rfl) (by kernel_rfl) (behind_sink (by kernel_rfl) (by kernel_rfl) (by kernel_rfl)) (by kernel_rfl) (fun hsel hlt => ?_) ?_
 ·refine HdJ.keep (fun w => St w0 F67 ((.blk b7 (enc (SynodR.mk ({ Synod.zero with Voters := ([] : List Voter), Rounds := ([] : List Round) } : Synod) Sl.nil Sl.nil)) 44) :: (.own Sl.nil 91 6 (encs ([] : List Round))) :: (.own Sl.nil 93 3 (encs ([] : List Voter))) :: (.blk b3 (enc a1) 46) :: (.blk b1 (enc (SynodR.mk a0 s_a0_0 s_a0_1)) 44) :: L) w) (fun w h => trivial) ?_
  refine HdJ.tk hsel hlt 0 (fun w h => h.sublist (sk1 (sk1 (sk1 (sk1 (sk1 (.refl _))))))) rfl (Ev.fieldAddr (off' := 0) rfl Try.runUnderlying44 rfl Try.sizeOf41 rfl rfl) ?_
  refine HdJ.tk hsel hlt 1 (fun w h => h.sublist (sk1 (sk1 (sk1 (sk1 (sk1 (.refl _))))))) rfl (Ev.load (i := 4) rfl rfl Try.isAgg41 (v := Sl.v s_a0_0) ((SynodR.get_Voters (Get.here _)).off (by rfl))) ?_
  refine HdJ.tk hsel hlt 3 (fun w h => h.sublist (sk1 (sk1 (sk1 (sk1 (sk1 (.refl _))))))) rfl (Ev.fieldAddr (off' := 1) rfl Try.runUnderlying44 rfl Try.sizeOf42 rfl rfl) ?_
  refine HdJ.tk hsel hlt 4 (fun w h => h.sublist (sk1 (sk1 (sk1 (sk1 (sk1 (.refl _))))))) rfl (Ev.load (i := 4) rfl rfl Try.isAgg42 (v := Sl.v s_a0_1) ((SynodR.get_Rounds (Get.here _)).off (by rfl))) ?_
  refine HdJ.step [2, 7] (by kernel_rfl) rfl ?_
  refine HdStep.c (fun inv => ?_) ?_
  ·refine Lst.call rfl rfl (by decide) (vs := [Sl.v s_a0_0]) ⟨rfl, trivial⟩ Try.call63 (slices_Clone_api_Voter_api_Voter_sim h73 w0 _ M _ (sc4 (sc1 hM)) (hs_a0_0.mono (FLe.trans (FLe.trans (FLe.trans (FLe.trans hF32 hF41) hF52) hF60) hF68) (.refl _))) (fun F101 L' v hF102 hv => ?_)
   obtain ⟨s100, rfl, rfl⟩ := hv
   refine Lst.nil ?_
   refine At.hd inv (fun w h => (h.weaken hF102).sublist (sc1 (sk1 (sk1 (sk1 (sk1 (sk1 (.refl _)))))))) ?_
   refine HdJ.step [5, 7] (by kernel_rfl) rfl ?_
   refine HdStep.c (fun inv => ?_) ?_
   ·refine Lst.call rfl rfl (by decide) (vs := [Sl.v s_a0_1]) ⟨rfl, trivial⟩ Try.call64 (slices_Clone_api_Round_api_Round_sim h79 w0 _ M _ (sc4 (sc2 hM)) (hs_a0_1.mono (FLe.trans (FLe.trans (FLe.trans (FLe.trans (FLe.trans hF32 hF41) hF52) hF60) hF68) hF102) (.refl _))) (fun F104 L' v hF105 hv => ?_)
    obtain ⟨s103, rfl, rfl⟩ := hv
    refine Lst.nil ?_
    refine At.hd inv (fun w h => (h.weaken (FLe.trans hF102 hF105)).sublist (sc1 (sc1 (sk1 (sk1 (sk1 (sk1 (sk1 (.refl _))))))))) ?_
    refine HdJ.keep (fun w => St w0 F104 ((.own s103 91 6 (encs r78)) :: (.own s100 93 3 (encs r72)) :: (.blk b7 (enc (SynodR.mk ({ Synod.zero with Voters := ([] : List Voter), Rounds := ([] : List Round) } : Synod) Sl.nil Sl.nil)) 44) :: (.own Sl.nil 91 6 (encs ([] : List Round))) :: (.own Sl.nil 93 3 (encs ([] : List Voter))) :: (.blk b3 (enc a1) 46) :: (.blk b1 (enc (SynodR.mk a0 s_a0_0 s_a0_1)) 44) :: L) w) (fun w h => (h.weaken (FLe.trans hF102 hF105)).sublist (sc1 (sc1 (sk1 (sk1 (sk1 (sk1 (sk1 (.refl _))))))))) ?_
    refine HdJ.tk hsel hlt 6 (fun w h => h.sublist (sk1 (sk1 (sk1 (sk1 (sk1 (sk1 (sk1 (.refl _))))))))) rfl (Ev.build (v := .agg (enc (SynodR.mk ({ Synod.zero with Voters := r72, Rounds := r78 } : Synod) s100 s103)).toArray) (pv := [(0, Sl.v s100), (1, Sl.v s103)]) ⟨rfl, rfl, ⟨rfl, rfl, trivial⟩⟩ (run_buildStruct (places := #[(0, 1), (1, 1)]) Try.zeroValue44 (zs := enc (SynodR.mk Synod.zero Sl.nil Sl.nil)) rfl Try.runUnderlying44 (fun w => by kernel_rfl) (fill_cons (cs := enc (SynodR.mk Synod.zero Sl.nil Sl.nil)) (cs' := enc (SynodR.mk ({ Synod.zero with Voters := r72 } : Synod) s100 Sl.nil)) (vs := [Sl.v s100]) rfl rfl rfl ((SynodR.put_Voters (p := (SynodR.mk Synod.zero Sl.nil Sl.nil)) (y := s100) (Put.here (vs := [Sl.v s100]) rfl)).off rfl) (fill_cons (cs := enc (SynodR.mk ({ Synod.zero with Voters := r72 } : Synod) s100 Sl.nil)) (cs' := enc (SynodR.mk ({ Synod.zero with Voters := r72, Rounds := r78 } : Synod) s100 s103)) (vs := [Sl.v s103]) rfl rfl rfl ((SynodR.put_Rounds (p := (SynodR.mk ({ Synod.zero with Voters := r72 } : Synod) s100 Sl.nil)) (y := s103) (Put.here (vs := [Sl.v s103]) rfl)).off rfl) fill_nil)))) ?_
    refine HdJ.step [7] (by kernel_rfl) rfl ?_
    refine HdStep.c (fun inv => ?_) ?_
    ·refine Lst.addNil 93 3 ?_
     refine Lst.addNil 91 6 ?_
     refine Lst.alloc (cs := enc (SynodR.mk ({ Synod.zero with Voters := ([] : List Voter), Rounds := ([] : List Round) } : Synod) Sl.nil Sl.nil)) rfl rfl (by decide) Try.zeroValue44 rfl (fun b106 => ?_)
     refine Lst.nil ?_
     refine At.hd inv (fun w h => (h.weaken (FLe.refl _)).sublist (sc1 (sc1 (sc1 (sk1 (sk1 (sk1 (sk1 (sk1 (sk1 (sk1 (.refl _)))))))))))) ?_
     refine HdJ.done (by kernel_rfl) ?_
     exact At.meetN (b106, Sl.nil, ([] : List Round), Sl.nil, ([] : List Voter), s103, r78, s100, r72) (FLe.trans hF102 hF105) ⟨rfl, rfl, rfl, rfl, rfl, trivial⟩ rfl h99
    exact trivial
   refine HdStep.c (fun inv => ?_) ?_
   ·refine Lst.addNil 93 3 ?_
    refine Lst.addNil 91 6 ?_
    refine Lst.alloc (cs := enc (SynodR.mk ({ Synod.zero with Voters := ([] : List Voter), Rounds := ([] : List Round) } : Synod) Sl.nil Sl.nil)) rfl rfl (by decide) Try.zeroValue44 rfl (fun b107 => ?_)
    refine Lst.nil ?_
    refine At.hd inv (fun w h => (h.weaken hF102).sublist (sc1 (sc1 (sc1 (sc1 (sk1 (sk1 (sk1 (sk1 (sk1 (.refl _))))))))))) ?_
    refine HdJ.step [5] (by kernel_rfl) rfl ?_
    refine HdStep.c (fun inv => ?_) ?_
    ·refine Lst.call rfl rfl (by decide) (vs := [Sl.v s_a0_1]) ⟨rfl, trivial⟩ Try.call64 (slices_Clone_api_Round_api_Round_sim h79 w0 _ M _ (sc8 (sc1 hM)) (hs_a0_1.mono (FLe.trans (FLe.trans (FLe.trans (FLe.trans (FLe.trans hF32 hF41) hF52) hF60) hF68) hF102) (.refl _))) (fun F109 L' v hF110 hv => ?_)
     obtain ⟨s108, rfl, rfl⟩ := hv
     refine Lst.nil ?_
     refine At.hd inv (fun w h => (h.weaken (FLe.trans hF102 hF110)).sublist (sc1 (sc1 (sc1 (sc1 (sc1 (sk1 (sk1 (sk1 (sk1 (sk1 (.refl _)))))))))))) ?_
     refine HdJ.keep (fun w => St w0 F109 ((.own s108 91 6 (encs r78)) :: (.blk b107 (enc (SynodR.mk ({ Synod.zero with Voters := ([] : List Voter), Rounds := ([] : List Round) } : Synod) Sl.nil Sl.nil)) 44) :: (.own Sl.nil 91 6 (encs ([] : List Round))) :: (.own Sl.nil 93 3 (encs ([] : List Voter))) :: (.own s100 93 3 (encs r72)) :: (.blk b7 (enc (SynodR.mk ({ Synod.zero with Voters := ([] : List Voter), Rounds := ([] : List Round) } : Synod) Sl.nil Sl.nil)) 44) :: (.own Sl.nil 91 6 (encs ([] : List Round))) :: (.own Sl.nil 93 3 (encs ([] : List Voter))) :: (.blk b3 (enc a1) 46) :: (.blk b1 (enc (SynodR.mk a0 s_a0_0 s_a0_1)) 44) :: L) w) (fun w h => (h.weaken (FLe.trans hF102 hF110)).sublist (sc1 (sc1 (sc1 (sc1 (sc1 (sk1 (sk1 (sk1 (sk1 (sk1 (.refl _)))))))))))) ?_
     refine HdJ.tk hsel hlt 6 (fun w h => h.sublist (sk1 (sk1 (sk1 (sk1 (sk1 (sk1 (sk1 (sk1 (sk1 (sk1 (.refl _)))))))))))) rfl (Ev.build (v := .agg (enc (SynodR.mk ({ Synod.zero with Voters := r72, Rounds := r78 } : Synod) s100 s108)).toArray) (pv := [(0, Sl.v s100), (1, Sl.v s108)]) ⟨rfl, rfl, ⟨rfl, rfl, trivial⟩⟩ (run_buildStruct (places := #[(0, 1), (1, 1)]) Try.zeroValue44 (zs := enc (SynodR.mk Synod.zero Sl.nil Sl.nil)) rfl Try.runUnderlying44 (fun w => by kernel_rfl) (fill_cons (cs := enc (SynodR.mk Synod.zero Sl.nil Sl.nil)) (cs' := enc (SynodR.mk ({ Synod.zero with Voters := r72 } : Synod) s100 Sl.nil)) (vs := [Sl.v s100]) rfl rfl rfl ((SynodR.put_Voters (p := (SynodR.mk Synod.zero Sl.nil Sl.nil)) (y := s100) (Put.here (vs := [Sl.v s100]) rfl)).off rfl) (fill_cons (cs := enc (SynodR.mk ({ Synod.zero with Voters := r72 } : Synod) s100 Sl.nil)) (cs' := enc (SynodR.mk ({ Synod.zero with Voters := r72, Rounds := r78 } : Synod) s100 s108)) (vs := [Sl.v s108]) rfl rfl rfl ((SynodR.put_Rounds (p := (SynodR.mk ({ Synod.zero with Voters := r72 } : Synod) s100 Sl.nil)) (y := s108) (Put.here (vs := [Sl.v s108]) rfl)).off rfl) fill_nil)))) ?_
     refine HdJ.done (by kernel_rfl) ?_
     refine At.front (i := 3) rfl rfl ?_
     refine At.front (i := 3) rfl rfl ?_
     refine At.front (i := 3) rfl (L' := (.blk b107 (enc (SynodR.mk ({ Synod.zero with Voters := ([] : List Voter), Rounds := ([] : List Round) } : Synod) Sl.nil Sl.nil)) 44) :: (.own Sl.nil 91 6 (encs ([] : List Round))) :: (.own Sl.nil 93 3 (encs ([] : List Voter))) :: (.own s108 91 6 (encs r78)) :: (.own s100 93 3 (encs r72)) :: (.blk b7 (enc (SynodR.mk ({ Synod.zero with Voters := ([] : List Voter), Rounds := ([] : List Round) } : Synod) Sl.nil Sl.nil)) 44) :: (.own Sl.nil 91 6 (encs ([] : List Round))) :: (.own Sl.nil 93 3 (encs ([] : List Voter))) :: (.blk b3 (enc a1) 46) :: (.blk b1 (enc (SynodR.mk a0 s_a0_0 s_a0_1)) 44) :: L) rfl ?_
     exact At.meetN (b107, Sl.nil, ([] : List Round), Sl.nil, ([] : List Voter), s108, r78, s100, r72) (FLe.trans hF102 hF110) ⟨rfl, rfl, rfl, rfl, rfl, trivial⟩ rfl h99
    exact trivial
   exact trivial
  refine HdStep.c (fun inv => ?_) ?_
  ·refine Lst.addNil 93 3 ?_
   refine Lst.addNil 91 6 ?_
   refine Lst.alloc (cs := enc (SynodR.mk ({ Synod.zero with Voters := ([] : List Voter), Rounds := ([] : List Round) } : Synod) Sl.nil Sl.nil)) rfl rfl (by decide) Try.zeroValue44 rfl (fun b111 => ?_)
   refine Lst.nil ?_
   refine At.hd inv (fun w h => (h.weaken (FLe.refl _)).sublist (sc1 (sc1 (sc1 (sk1 (sk1 (sk1 (sk1 (sk1 (.refl _)))))))))) ?_
   refine HdJ.step [2] (by kernel_rfl) rfl ?_
   refine HdStep.c (fun inv => ?_) ?_
   ·refine Lst.call rfl rfl (by decide) (vs := [Sl.v s_a0_0]) ⟨rfl, trivial⟩ Try.call63 (slices_Clone_api_Voter_api_Voter_sim h73 w0 _ M _ (sc8 hM) (hs_a0_0.mono (FLe.trans (FLe.trans (FLe.trans (FLe.trans hF32 hF41) hF52) hF60) hF68) (.refl _))) (fun F113 L' v hF114 hv => ?_)
    obtain ⟨s112, rfl, rfl⟩ := hv
    refine Lst.nil ?_
    refine At.hd inv (fun w h => (h.weaken hF114).sublist (sc1 (sc1 (sc1 (sc1 (sk1 (sk1 (sk1 (sk1 (sk1 (.refl _))))))))))) ?_
    refine HdJ.step [5] (by kernel_rfl) rfl ?_
    refine HdStep.c (fun inv => ?_) ?_
    ·refine Lst.call rfl rfl (by decide) (vs := [Sl.v s_a0_1]) ⟨rfl, trivial⟩ Try.call64 (slices_Clone_api_Round_api_Round_sim h79 w0 _ M _ (sc8 (sc1 hM)) (hs_a0_1.mono (FLe.trans (FLe.trans (FLe.trans (FLe.trans (FLe.trans hF32 hF41) hF52) hF60) hF68) hF114) (.refl _))) (fun F116 L' v hF117 hv => ?_)
     obtain ⟨s115, rfl, rfl⟩ := hv
     refine Lst.nil ?_
     refine At.hd inv (fun w h => (h.weaken (FLe.trans hF114 hF117)).sublist (sc1 (sc1 (sc1 (sc1 (sc1 (sk1 (sk1 (sk1 (sk1 (sk1 (.refl _)))))))))))) ?_
     refine HdJ.keep (fun w => St w0 F116 ((.own s115 91 6 (encs r78)) :: (.own s112 93 3 (encs r72)) :: (.blk b111 (enc (SynodR.mk ({ Synod.zero with Voters := ([] : List Voter), Rounds := ([] : List Round) } : Synod) Sl.nil Sl.nil)) 44) :: (.own Sl.nil 91 6 (encs ([] : List Round))) :: (.own Sl.nil 93 3 (encs ([] : List Voter))) :: (.blk b7 (enc (SynodR.mk ({ Synod.zero with Voters := ([] : List Voter), Rounds := ([] : List Round) } : Synod) Sl.nil Sl.nil)) 44) :: (.own Sl.nil 91 6 (encs ([] : List Round))) :: (.own Sl.nil 93 3 (encs ([] : List Voter))) :: (.blk b3 (enc a1) 46) :: (.blk b1 (enc (SynodR.mk a0 s_a0_0 s_a0_1)) 44) :: L) w) (fun w h => (h.weaken (FLe.trans hF114 hF117)).sublist (sc1 (sc1 (sc1 (sc1 (sc1 (sk1 (sk1 (sk1 (sk1 (sk1 (.refl _)))))))))))) ?_
     refine HdJ.tk hsel hlt 6 (fun w h => h.sublist (sk1 (sk1 (sk1 (sk1 (sk1 (sk1 (sk1 (sk1 (sk1 (sk1 (.refl _)))))))))))) rfl (Ev.build (v := .agg (enc (SynodR.mk ({ Synod.zero with Voters := r72, Rounds := r78 } : Synod) s112 s115)).toArray) (pv := [(0, Sl.v s112), (1, Sl.v s115)]) ⟨rfl, rfl, ⟨rfl, rfl, trivial⟩⟩ (run_buildStruct (places := #[(0, 1), (1, 1)]) Try.zeroValue44 (zs := enc (SynodR.mk Synod.zero Sl.nil Sl.nil)) rfl Try.runUnderlying44 (fun w => by kernel_rfl) (fill_cons (cs := enc (SynodR.mk Synod.zero Sl.nil Sl.nil)) (cs' := enc (SynodR.mk ({ Synod.zero with Voters := r72 } : Synod) s112 Sl.nil)) (vs := [Sl.v s112]) rfl rfl rfl ((SynodR.put_Voters (p := (SynodR.mk Synod.zero Sl.nil Sl.nil)) (y := s112) (Put.here (vs := [Sl.v s112]) rfl)).off rfl) (fill_cons (cs := enc (SynodR.mk ({ Synod.zero with Voters := r72 } : Synod) s112 Sl.nil)) (cs' := enc (SynodR.mk ({ Synod.zero with Voters := r72, Rounds := r78 } : Synod) s112 s115)) (vs := [Sl.v s115]) rfl rfl rfl ((SynodR.put_Rounds (p := (SynodR.mk ({ Synod.zero with Voters := r72 } : Synod) s112 Sl.nil)) (y := s115) (Put.here (vs := [Sl.v s115]) rfl)).off rfl) fill_nil)))) ?_
     refine HdJ.done (by kernel_rfl) ?_
     refine At.front (i := 4) rfl rfl ?_
     refine At.front (i := 4) rfl rfl ?_
     refine At.front (i := 4) rfl (L' := (.blk b111 (enc (SynodR.mk ({ Synod.zero with Voters := ([] : List Voter), Rounds := ([] : List Round) } : Synod) Sl.nil Sl.nil)) 44) :: (.own Sl.nil 91 6 (encs ([] : List Round))) :: (.own Sl.nil 93 3 (encs ([] : List Voter))) :: (.own s115 91 6 (encs r78)) :: (.own s112 93 3 (encs r72)) :: (.blk b7 (enc (SynodR.mk ({ Synod.zero with Voters := ([] : List Voter), Rounds := ([] : List Round) } : Synod) Sl.nil Sl.nil)) 44) :: (.own Sl.nil 91 6 (encs ([] : List Round))) :: (.own Sl.nil 93 3 (encs ([] : List Voter))) :: (.blk b3 (enc a1) 46) :: (.blk b1 (enc (SynodR.mk a0 s_a0_0 s_a0_1)) 44) :: L) rfl ?_
     exact At.meetN (b111, Sl.nil, ([] : List Round), Sl.nil, ([] : List Voter), s115, r78, s112, r72) (FLe.trans hF114 hF117) ⟨rfl, rfl, rfl, rfl, rfl, trivial⟩ rfl h99
    exact trivial
   exact trivial
  exact trivial
 rintro F118 ⟨b89, s90, l91, s92, l93, s94, l95, s96, l97⟩ hF119 hy
 subst hy
 refine Lst.as (e' := [(3, pv b3 0), (4, pv b7 0), (7, iv r16), (8, pv b89 0), (82, .agg (enc (SynodR.mk ({ Synod.zero with Voters := l97, Rounds := l95 } : Synod) s96 s94)).toArray)]) (L' := (.blk b89 (enc (SynodR.mk ({ Synod.zero with Voters := l93, Rounds := l91 } : Synod) s92 s90)) 44) :: (.own s90 91 6 (encs l91)) :: (.own s92 93 3 (encs l93)) :: (.own s94 91 6 (encs l95)) :: (.own s96 93 3 (encs l97)) :: (.blk b7 (enc (SynodR.mk ({ Synod.zero with Voters := ([] : List Voter), Rounds := ([] : List Round) } : Synod) Sl.nil Sl.nil)) 44) :: (.own Sl.nil 91 6 (encs ([] : List Round))) :: (.own Sl.nil 93 3 (encs ([] : List Voter))) :: (.blk b3 (enc a1) 46) :: (.blk b1 (enc (SynodR.mk a0 s_a0_0 s_a0_1)) 44) :: L) ⟨rfl, rfl, rfl, rfl, rfl, trivial⟩ rfl ?_
 refine Lst.store (i := 0) rfl rfl rfl rfl rfl Try.sizeOf44 (vs := enc (SynodR.mk ({ Synod.zero with Voters := l97, Rounds := l95 } : Synod) s96 s94)) rfl (Enc.len _) (Enc.one _) (cs' := enc (SynodR.mk ({ Synod.zero with Voters := l97, Rounds := l95 } : Synod) s96 s94)) (Put.here ((Enc.len _).trans (Enc.len _).symm)) (L' := (.blk b89 (enc (SynodR.mk ({ Synod.zero with Voters := l97, Rounds := l95 } : Synod) s96 s94)) 44) :: (.own s90 91 6 (encs l91)) :: (.own s92 93 3 (encs l93)) :: (.own s94 91 6 (encs l95)) :: (.own s96 93 3 (encs l97)) :: (.blk b7 (enc (SynodR.mk ({ Synod.zero with Voters := ([] : List Voter), Rounds := ([] : List Round) } : Synod) Sl.nil Sl.nil)) 44) :: (.own Sl.nil 91 6 (encs ([] : List Round))) :: (.own Sl.nil 93 3 (encs ([] : List Voter))) :: (.blk b3 (enc a1) 46) :: (.blk b1 (enc (SynodR.mk a0 s_a0_0 s_a0_1)) 44) :: L) rfl ?_
 refine Lst.nil ?_
 refine At.then ?_
 refine Cd.seq ?_
 refine Cd.seq ?_
 refine Cd.region ?_
 refine Lst.r (Ev.fieldAddr (off' := 0) rfl Try.runUnderlying46 rfl Try.sizeOf3 rfl rfl) ?_
 refine Lst.r (Ev.load (i := 8) rfl rfl Try.isAgg3 (v := iv a1.Kind) ((Act.get_Kind (Get.here _)).off (by rfl))) ?_
 refine Lst.r (Ev.eql rfl rfl) ?_
 refine Lst.nil ?_
 refine At.then ?_
 rcases Bool.eq_false_or_eq_true (a1.Kind == (1 : Int)) with hb120 | hb120
 ·replace H := ite_t hb120 H
  refine Cd.condT rfl hb120 ?_
  refine Cd.seq ?_
  refine Cd.region ?_
  refine Lst.r (Ev.fieldAddr (off' := 1) rfl Try.runUnderlying44 rfl Try.sizeOf42 rfl rfl) ?_
  refine Lst.r (Ev.load (i := 0) rfl rfl Try.isAgg42 (v := Sl.v s94) ((SynodR.get_Rounds (Get.here _)).off (by rfl))) ?_
  refine Lst.r (Ev.fieldAddr (off' := 1) rfl Try.runUnderlying46 rfl Try.sizeOf3 rfl rfl) ?_
  refine Lst.r (Ev.load (i := 8) rfl rfl Try.isAgg3 (v := iv a1.Ballot) ((Act.get_Ballot (Get.here _)).off (by rfl))) ?_
  refine Lst.r (Ev.fieldAddr (off' := 3) rfl Try.runUnderlying46 rfl Try.sizeOf9 rfl rfl) ?_
  refine Lst.r (Ev.load (i := 8) rfl rfl Try.isAgg9 (v := Str.v a1.Text) ((Act.get_Text (Get.here _)).off (by rfl))) ?_
  refine Lst.r (Ev.build (v := .agg (enc ({ Round.zero with Ballot := a1.Ballot, Text := a1.Text } : Round)).toArray) (pv := [(0, iv a1.Ballot), (5, Str.v a1.Text)]) ⟨rfl, rfl, ⟨rfl, rfl, trivial⟩⟩ (fun w => by kernel_rfl)) ?_
  refine Lst.buildSlice (α := Round) (xs := ([({ Round.zero with Ballot := a1.Ballot, Text := a1.Text } : Round)] : List Round)) (pv := [(0, .agg (enc ({ Round.zero with Ballot := a1.Ballot, Text := a1.Text } : Round)).toArray)]) rfl rfl (by decide) ⟨rfl, rfl, trivial⟩ (run_buildSlice (α := Round) (z0 := Round.zero) (xs := ([({ Round.zero with Ballot := a1.Ballot, Text := a1.Text } : Round)] : List Round)) Try.runUnderlying42 Try.sizeOf91 Try.zeroValue91 rfl rfl rfl (by decide) rfl (fill_cons (cs := encs (List.replicate 1 Round.zero)) (cs' := encs ((List.replicate 1 Round.zero).set 0 ({ Round.zero with Ballot := a1.Ballot, Text := a1.Text } : Round))) (vs := enc ({ Round.zero with Ballot := a1.Ballot, Text := a1.Text } : Round)) rfl rfl (Enc.len _) ((Put.elemN (s := 6) (i := 0) (x := Round.zero) (y := ({ Round.zero with Ballot := a1.Ballot, Text := a1.Text } : Round)) rfl rfl (Put.here ((Enc.len _).trans (Enc.len _).symm))).off rfl) fill_nil)) rfl rfl (by decide) (fun s121 _ => ?_)
  obtain ⟨u123, h124, H⟩ := bind_some H
  refine Lst.append (i := 4) (α := Round) (xs := l95) (ys := ([({ Round.zero with Ballot := a1.Ballot, Text := a1.Text } : Round)] : List Round)) rfl rfl (by decide) rfl rfl Try.runUnderlying42 Try.typeInfo91 rfl rfl rfl rfl rfl rfl (Rd.own (i := 0) rfl rfl rfl) rfl (room_some h124) rfl (fun s125 => ?_)
  refine Lst.its (L' := (.own s121 91 6 (encs ([({ Round.zero with Ballot := a1.Ballot, Text := a1.Text } : Round)] : List Round))) :: (.blk b89 (enc (SynodR.mk ({ Synod.zero with Voters := l97, Rounds := l95 } : Synod) s96 s94)) 44) :: (.own s90 91 6 (encs l91)) :: (.own s92 93 3 (encs l93)) :: (.own s125 91 6 (encs (l95 ++ ([({ Round.zero with Ballot := a1.Ballot, Text := a1.Text } : Round)] : List Round)))) :: (.own s96 93 3 (encs l97)) :: (.blk b7 (enc (SynodR.mk ({ Synod.zero with Voters := ([] : List Voter), Rounds := ([] : List Round) } : Synod) Sl.nil Sl.nil)) 44) :: (.own Sl.nil 91 6 (encs ([] : List Round))) :: (.own Sl.nil 93 3 (encs ([] : List Voter))) :: (.blk b3 (enc a1) 46) :: (.blk b1 (enc (SynodR.mk a0 s_a0_0 s_a0_1)) 44) :: L) rfl ?_
  refine Lst.r (Ev.fieldAddr (off' := 1) rfl Try.runUnderlying44 rfl Try.sizeOf42 rfl rfl) ?_
  refine Lst.store (i := 1) rfl rfl rfl rfl rfl Try.sizeOf42 (vs := [Sl.v s125]) rfl rfl rfl (cs' := enc (SynodR.mk ({ Synod.zero with Voters := l97, Rounds := l95 ++ ([({ Round.zero with Ballot := a1.Ballot, Text := a1.Text } : Round)] : List Round) } : Synod) s96 s125)) ((SynodR.put_Rounds (Put.here (vs := [Sl.v s125]) rfl)).off (by rfl)) (L' := (.own s121 91 6 (encs ([({ Round.zero with Ballot := a1.Ballot, Text := a1.Text } : Round)] : List Round))) :: (.blk b89 (enc (SynodR.mk ({ Synod.zero with Voters := l97, Rounds := l95 ++ ([({ Round.zero with Ballot := a1.Ballot, Text := a1.Text } : Round)] : List Round) } : Synod) s96 s125)) 44) :: (.own s90 91 6 (encs l91)) :: (.own s92 93 3 (encs l93)) :: (.own s125 91 6 (encs (l95 ++ ([({ Round.zero with Ballot := a1.Ballot, Text := a1.Text } : Round)] : List Round)))) :: (.own s96 93 3 (encs l97)) :: (.blk b7 (enc (SynodR.mk ({ Synod.zero with Voters := ([] : List Voter), Rounds := ([] : List Round) } : Synod) Sl.nil Sl.nil)) 44) :: (.own Sl.nil 91 6 (encs ([] : List Round))) :: (.own Sl.nil 93 3 (encs ([] : List Voter))) :: (.blk b3 (enc a1) 46) :: (.blk b1 (enc (SynodR.mk a0 s_a0_0 s_a0_1)) 44) :: L) rfl ?_
  refine Lst.nil ?_
  refine At.then ?_
  refine Cd.seq ?_
  refine Cd.as (e' := [(4, pv b7 0), (8, pv b89 0)]) (L' := (.own s121 91 6 (encs ([({ Round.zero with Ballot := a1.Ballot, Text := a1.Text } : Round)] : List Round))) :: (.blk b89 (enc (SynodR.mk ({ Synod.zero with Voters := l97, Rounds := l95 ++ ([({ Round.zero with Ballot := a1.Ballot, Text := a1.Text } : Round)] : List Round) } : Synod) s96 s125)) 44) :: (.own s90 91 6 (encs l91)) :: (.own s92 93 3 (encs l93)) :: (.own s125 91 6 (encs (l95 ++ ([({ Round.zero with Ballot := a1.Ballot, Text := a1.Text } : Round)] : List Round)))) :: (.own s96 93 3 (encs l97)) :: (.blk b7 (enc (SynodR.mk ({ Synod.zero with Voters := ([] : List Voter), Rounds := ([] : List Round) } : Synod) Sl.nil Sl.nil)) 44) :: (.own Sl.nil 91 6 (encs ([] : List Round))) :: (.own Sl.nil 93 3 (encs ([] : List Voter))) :: (.blk b3 (enc a1) 46) :: (.blk b1 (enc (SynodR.mk a0 s_a0_0 s_a0_1)) 44) :: L) ⟨rfl, rfl, trivial⟩ rfl ?_
  refine Cd.region ?_
  refine Lst.r (Ev.loadA (i := 1) rfl rfl Try.isAgg44 Try.sizeOf44 (ch := enc (SynodR.mk ({ Synod.zero with Voters := l97, Rounds := l95 ++ ([({ Round.zero with Ballot := a1.Ballot, Text := a1.Text } : Round)] : List Round) } : Synod) s96 s125)) (Enc.len _) (Get.here _)) ?_
  refine Lst.store (i := 6) rfl rfl rfl rfl rfl Try.sizeOf44 (vs := enc (SynodR.mk ({ Synod.zero with Voters := l97, Rounds := l95 ++ ([({ Round.zero with Ballot := a1.Ballot, Text := a1.Text } : Round)] : List Round) } : Synod) s96 s125)) rfl (Enc.len _) (Enc.one _) (cs' := enc (SynodR.mk ({ Synod.zero with Voters := l97, Rounds := l95 ++ ([({ Round.zero with Ballot := a1.Ballot, Text := a1.Text } : Round)] : List Round) } : Synod) s96 s125)) (Put.here ((Enc.len _).trans (Enc.len _).symm)) (L' := (.own s121 91 6 (encs ([({ Round.zero with Ballot := a1.Ballot, Text := a1.Text } : Round)] : List Round))) :: (.blk b89 (enc (SynodR.mk ({ Synod.zero with Voters := l97, Rounds := l95 ++ ([({ Round.zero with Ballot := a1.Ballot, Text := a1.Text } : Round)] : List Round) } : Synod) s96 s125)) 44) :: (.own s90 91 6 (encs l91)) :: (.own s92 93 3 (encs l93)) :: (.own s125 91 6 (encs (l95 ++ ([({ Round.zero with Ballot := a1.Ballot, Text := a1.Text } : Round)] : List Round)))) :: (.own s96 93 3 (encs l97)) :: (.blk b7 (enc (SynodR.mk ({ Synod.zero with Voters := l97, Rounds := l95 ++ ([({ Round.zero with Ballot := a1.Ballot, Text := a1.Text } : Round)] : List Round) } : Synod) s96 s125)) 44) :: (.own Sl.nil 91 6 (encs ([] : List Round))) :: (.own Sl.nil 93 3 (encs ([] : List Voter))) :: (.blk b3 (enc a1) 46) :: (.blk b1 (enc (SynodR.mk a0 s_a0_0 s_a0_1)) 44) :: L) rfl ?_
  refine Lst.r (Ev.assign rfl) ?_
  refine Lst.nil ?_
  refine At.then ?_
  obtain rfl := some_inj H
  refine Cd.ret ?_
  refine At.then_ret ?_
  refine At.front (i := 5) rfl (L' := (.own s96 93 3 (encs l97)) :: (.own s121 91 6 (encs ([({ Round.zero with Ballot := a1.Ballot, Text := a1.Text } : Round)] : List Round))) :: (.blk b89 (enc (SynodR.mk ({ Synod.zero with Voters := l97, Rounds := l95 ++ ([({ Round.zero with Ballot := a1.Ballot, Text := a1.Text } : Round)] : List Round) } : Synod) s96 s125)) 44) :: (.own s90 91 6 (encs l91)) :: (.own s92 93 3 (encs l93)) :: (.own s125 91 6 (encs (l95 ++ ([({ Round.zero with Ballot := a1.Ballot, Text := a1.Text } : Round)] : List Round)))) :: (.blk b7 (enc (SynodR.mk ({ Synod.zero with Voters := l97, Rounds := l95 ++ ([({ Round.zero with Ballot := a1.Ballot, Text := a1.Text } : Round)] : List Round) } : Synod) s96 s125)) 44) :: (.own Sl.nil 91 6 (encs ([] : List Round))) :: (.own Sl.nil 93 3 (encs ([] : List Voter))) :: (.blk b3 (enc a1) 46) :: (.blk b1 (enc (SynodR.mk a0 s_a0_0 s_a0_1)) 44) :: L) rfl ?_
  exact At.ret2 rfl (Res.cellA (i := 6) rfl rfl Try.isAgg44 Try.sizeOf44 (Enc.len _)) (Res.tmp rfl) (FLe.trans (FLe.trans (FLe.trans (FLe.trans (FLe.trans hF32 hF41) hF52) hF60) hF68) hF119) (sk1 (sc1 (sc1 (sc1 (sc1 (sk1 (sc1 (sc1 (sc1 (sc1 (sc1 (.refl _)))))))))))) ⟨s96, s125, rfl, rfl⟩
 replace H := ite_f hb120 H
 refine Cd.condF rfl hb120 ?_
 refine Cd.skip ?_
 refine At.then ?_
 refine Cd.seq ?_
 refine Cd.tail 5 (by kernel_rfl) (by kernel_rfl) ?_
 refine Qt.r (Ev.fieldAddr (off' := 1) rfl Try.runUnderlying44 rfl Try.sizeOf42 rfl rfl) ?_
 refine Qt.r (Ev.load (i := 0) rfl rfl Try.isAgg42 (v := Sl.v s94) ((SynodR.get_Rounds (Get.here _)).off (by rfl))) ?_
 refine Qt.r (Ev.move rfl) ?_
 obtain ⟨x126, h127, H⟩ := bind_some H
 have g128 := lat_some h127
 refine Qt.r (Ev.indexS (α := Round) (xs := l95) rfl rfl Try.runUnderlying42 Try.sizeOf91 rfl (by decide) (Rd.own (i := 3) rfl rfl rfl) g128.1 g128.2.1) ?_
 refine Qt.r (Ev.loadA (i := 8) rfl rfl Try.isAgg46 Try.sizeOf46 (ch := enc a1) (Enc.len _) (Get.here _)) ?_
 refine Qt.tail ?_
 obtain ⟨r129, h130, H⟩ := bind_some H
 refine Lst.front (i := 3) rfl rfl ?_
 refine Lst.front (i := 4) rfl (L' := (.own s96 93 3 (encs l97)) :: (.own s94 91 6 (encs l95)) :: (.blk b89 (enc (SynodR.mk ({ Synod.zero with Voters := l97, Rounds := l95 } : Synod) s96 s94)) 44) :: (.own s90 91 6 (encs l91)) :: (.own s92 93 3 (encs l93)) :: (.blk b7 (enc (SynodR.mk ({ Synod.zero with Voters := ([] : List Voter), Rounds := ([] : List Round) } : Synod) Sl.nil Sl.nil)) 44) :: (.own Sl.nil 91 6 (encs ([] : List Round))) :: (.own Sl.nil 93 3 (encs ([] : List Voter))) :: (.blk b3 (enc a1) 46) :: (.blk b1 (enc (SynodR.mk a0 s_a0_0 s_a0_1)) 44) :: L) rfl ?_
 refine Lst.call rfl rfl (by decide) (vs := [pv b89 0, Sl.at s94 (r16.toNat * 6), .agg (enc a1).toArray]) ⟨rfl, rfl, rfl, trivial⟩ Try.call65 (synod_act_sim h130 w0 _ M _ (sc4 (sc2 (sc1 hM)))) (fun F131 L' v hF132 hv => ?_)
 obtain ⟨rfl, rfl⟩ := hv
 refine Lst.nil ?_
 refine At.then ?_
 refine Cd.seq ?_
 refine Cd.region ?_
 refine Lst.r (Ev.loadA (i := 2) rfl rfl Try.isAgg44 Try.sizeOf44 (ch := enc (SynodR.mk ({ r129.2.2 with Voters := r129.1, Rounds := r129.2.1 } : Synod) s96 s94)) (Enc.len _) (Get.here _)) ?_
 refine Lst.store (i := 5) rfl rfl rfl rfl rfl Try.sizeOf44 (vs := enc (SynodR.mk ({ r129.2.2 with Voters := r129.1, Rounds := r129.2.1 } : Synod) s96 s94)) rfl (Enc.len _) (Enc.one _) (cs' := enc (SynodR.mk ({ r129.2.2 with Voters := r129.1, Rounds := r129.2.1 } : Synod) s96 s94)) (Put.here ((Enc.len _).trans (Enc.len _).symm)) (L' := (.own s96 93 3 (encs r129.1)) :: (.own s94 91 6 (encs r129.2.1)) :: (.blk b89 (enc (SynodR.mk ({ r129.2.2 with Voters := r129.1, Rounds := r129.2.1 } : Synod) s96 s94)) 44) :: (.own s90 91 6 (encs l91)) :: (.own s92 93 3 (encs l93)) :: (.blk b7 (enc (SynodR.mk ({ r129.2.2 with Voters := r129.1, Rounds := r129.2.1 } : Synod) s96 s94)) 44) :: (.own Sl.nil 91 6 (encs ([] : List Round))) :: (.own Sl.nil 93 3 (encs ([] : List Voter))) :: (.blk b3 (enc a1) 46) :: (.blk b1 (enc (SynodR.mk a0 s_a0_0 s_a0_1)) 44) :: L) rfl ?_
 refine Lst.r (Ev.assign rfl) ?_
 refine Lst.nil ?_
 refine At.then ?_
 obtain rfl := some_inj H
 refine Cd.ret ?_
 exact At.ret2 rfl (Res.cellA (i := 5) rfl rfl Try.isAgg44 Try.sizeOf44 (Enc.len _)) (Res.tmp rfl) (FLe.trans (FLe.trans (FLe.trans (FLe.trans (FLe.trans (FLe.trans hF32 hF41) hF52) hF60) hF68) hF119) hF132) (sk1 (sk1 (sc1 (sc1 (sc1 (sc1 (sc1 (sc1 (sc1 (sc1 (.refl _))))))))))) ⟨s96, s94, rfl, rfl⟩
set_option maxRecDepth 20000 in
theorem math_bits_Len64_sim {a0 : BitVec 64} {r : Int} (H : math_bits_Len64 a0 = some r) (w0 : World) (F : Frz) (M L : List Item) (hM : M.Sublist L) : Ok Try.prog w0 125 [.int .u64 a0.toNat] F (L) (Is (iv r) (L)) := by
 unfold math_bits_Len64 at H
 refine Ok.enter (m := 1) (n := 25) Try.func125 rfl rfl rfl (by decide) ?_
 refine Cd.env (e' := [(0, .int .u64 a0.toNat)]) rfl ?_
 refine Cd.seq ?_
 refine Cd.region ?_
 refine Lst.r (Ev.assign rfl) ?_
 refine Lst.nil ?_
 refine At.then ?_
 obtain ⟨o3, H, HKo3⟩ := bind_some H
 refine Cd.join (σ := (BitVec 64) × Int) (fun (y1, y2) => [(0, .int .u64 y1.toNat), (2, iv y2)]) (fun (y1, y2) => L) (fun _ (y1, y2) => (y1, y2) = o3) ?_ ?_
 ·refine Cd.seq ?_
  refine Cd.region ?_
  refine Lst.r (Ev.move rfl) ?_
  refine Lst.r (Ev.geq rfl rfl) ?_
  refine Lst.nil ?_
  refine At.then ?_
  rcases (Bool.eq_false_or_eq_true (decide ((a0.toNat : Int) ≥ ((4294967296 : BitVec 64).toNat : Int)))).symm with hb4 | hb4
  ·replace H := ite_f hb4 H
   refine Cd.condF rfl hb4 ?_
   refine Cd.skip ?_
   exact At.meet (a0, (0 : Int)) (FLe.refl _) ⟨rfl, rfl, trivial⟩ rfl (some_inj H)
  replace H := ite_t hb4 H
  refine Cd.condT rfl hb4 ?_
  refine Cd.seq ?_
  refine Cd.region ?_
  refine Lst.r (Ev.move rfl) ?_
  refine Lst.r (Ev.shrU64 (i := a0) (m := 32) rfl rfl) ?_
  refine Lst.r (Ev.assign rfl) ?_
  refine Lst.nil ?_
  refine At.then ?_
  refine Cd.region ?_
  refine Lst.r (Ev.assign rfl) ?_
  refine Lst.nil ?_
  exact At.meet (a0 >>> 32, (32 : Int)) (FLe.refl _) ⟨rfl, rfl, trivial⟩ rfl (some_inj H)
 rintro F5 ⟨y1, y2⟩ hF6 hy
 subst hy
 refine Cd.as (e' := [(0, .int .u64 y1.toNat), (2, iv y2)]) (L' := L) ⟨rfl, rfl, trivial⟩ rfl ?_
 replace H := HKo3
 obtain ⟨o9, H, HKo9⟩ := bind_some H
 refine Cd.join (σ := (BitVec 64) × Int) (fun (y7, y8) => [(0, .int .u64 y7.toNat), (2, iv y8)]) (fun (y7, y8) => L) (fun _ (y7, y8) => (y7, y8) = o9) ?_ ?_
 ·refine Cd.seq ?_
  refine Cd.region ?_
  refine Lst.r (Ev.move rfl) ?_
  refine Lst.r (Ev.geq rfl rfl) ?_
  refine Lst.nil ?_
  refine At.then ?_
  rcases (Bool.eq_false_or_eq_true (decide ((y1.toNat : Int) ≥ ((65536 : BitVec 64).toNat : Int)))).symm with hb10 | hb10
  ·replace H := ite_f hb10 H
   refine Cd.condF rfl hb10 ?_
   refine Cd.skip ?_
   exact At.meet (y1, y2) (FLe.refl _) ⟨rfl, rfl, trivial⟩ rfl (some_inj H)
  replace H := ite_t hb10 H
  refine Cd.condT rfl hb10 ?_
  refine Cd.seq ?_
  refine Cd.region ?_
  refine Lst.r (Ev.move rfl) ?_
  refine Lst.r (Ev.shrU64 (i := y1) (m := 16) rfl rfl) ?_
  refine Lst.r (Ev.assign rfl) ?_
  refine Lst.nil ?_
  refine At.then ?_
  refine Cd.region ?_
  refine Lst.r (Ev.move rfl) ?_
  refine Lst.r (Ev.add rfl rfl) ?_
  refine Lst.r (Ev.assign rfl) ?_
  refine Lst.nil ?_
  exact At.meet (y1 >>> 16, w64 (y2 + (16 : Int))) (FLe.refl _) ⟨rfl, rfl, trivial⟩ rfl (some_inj H)
 rintro F11 ⟨y7, y8⟩ hF12 hy
 subst hy
 refine Cd.as (e' := [(0, .int .u64 y7.toNat), (2, iv y8)]) (L' := L) ⟨rfl, rfl, trivial⟩ rfl ?_
 replace H := HKo9
 obtain ⟨o15, H, HKo15⟩ := bind_some H
 refine Cd.join (σ := (BitVec 64) × Int) (fun (y13, y14) => [(0, .int .u64 y13.toNat), (2, iv y14)]) (fun (y13, y14) => L) (fun _ (y13, y14) => (y13, y14) = o15) ?_ ?_
 ·refine Cd.seq ?_
  refine Cd.region ?_
  refine Lst.r (Ev.move rfl) ?_
  refine Lst.r (Ev.geq rfl rfl) ?_
  refine Lst.nil ?_
  refine At.then ?_
  rcases (Bool.eq_false_or_eq_true (decide ((y7.toNat : Int) ≥ ((256 : BitVec 64).toNat : Int)))).symm with hb16 | hb16
  ·replace H := ite_f hb16 H
   refine Cd.condF rfl hb16 ?_
   refine Cd.skip ?_
   exact At.meet (y7, y8) (FLe.refl _) ⟨rfl, rfl, trivial⟩ rfl (some_inj H)
  replace H := ite_t hb16 H
  refine Cd.condT rfl hb16 ?_
  refine Cd.seq ?_
  refine Cd.region ?_
  refine Lst.r (Ev.move rfl) ?_
  refine Lst.r (Ev.shrU64 (i := y7) (m := 8) rfl rfl) ?_
  refine Lst.r (Ev.assign rfl) ?_
  refine Lst.nil ?_
  refine At.then ?_
  refine Cd.region ?_
  refine Lst.r (Ev.move rfl) ?_
  refine Lst.r (Ev.add rfl rfl) ?_
  refine Lst.r (Ev.assign rfl) ?_
  refine Lst.nil ?_
  exact At.meet (y7 >>> 8, w64 (y8 + (8 : Int))) (FLe.refl _) ⟨rfl, rfl, trivial⟩ rfl (some_inj H)
 rintro F17 ⟨y13, y14⟩ hF18 hy
 subst hy
 refine Cd.as (e' := [(0, .int .u64 y13.toNat), (2, iv y14)]) (L' := L) ⟨rfl, rfl, trivial⟩ rfl ?_
 replace H := HKo15
 refine Cd.seq ?_
 refine Cd.region ?_
 refine Lst.r (Ev.move rfl) ?_
 refine Lst.r (Ev.move rfl) ?_
 refine Lst.r (Ev.convTo8 rfl Try.runUnderlying148 Try.runUnderlying5) ?_
 obtain ⟨x19, h20, H⟩ := bind_some H
 refine Lst.r (Ev.indexStr rfl rfl Try.runUnderlying9 h20) ?_
 refine Lst.r (Ev.convIS (j := (x19.toBitVec.toNat : Int)) rfl Try.runUnderlying5 Try.runUnderlying3 (w64_id (by omega) (by omega))) ?_
 refine Lst.r (Ev.add rfl rfl) ?_
 refine Lst.r (Ev.assign rfl) ?_
 refine Lst.nil ?_
 refine At.then ?_
 obtain rfl := some_inj H
 refine Cd.ret ?_
 exact At.ret1 rfl (Res.tmp rfl) (FLe.trans (FLe.trans hF6 hF12) hF18) (.refl _) ⟨rfl, rfl⟩
set_option maxRecDepth 20000 in
theorem math_bits_Len_sim {a0 : BitVec 64} {r : Int} (H : math_bits_Len a0 = some r) (w0 : World) (F : Frz) (M L : List Item) (hM : M.Sublist L) : Ok Try.prog w0 106 [.int .u64 a0.toNat] F (L) (Is (iv r) (L)) := by
 unfold math_bits_Len at H
 refine Ok.enter (m := 1) (n := 8) Try.func106 rfl rfl rfl (by decide) ?_
 refine Cd.env (e' := [(0, .int .u64 a0.toNat)]) rfl ?_
 refine Cd.seq ?_
 refine Cd.region ?_
 refine Lst.r (Ev.assign rfl) ?_
 refine Lst.nil ?_
 refine At.then ?_
 refine Cd.seq ?_
 refine Cd.condF rfl rfl ?_
 refine Cd.skip ?_
 refine At.then ?_
 refine Cd.seq ?_
 refine Cd.region ?_
 refine Lst.r (Ev.move rfl) ?_
 obtain ⟨r1, h2, H⟩ := bind_some H
 refine Lst.call1 rfl rfl (by decide) (vs := [.int .u64 a0.toNat]) ⟨rfl, trivial⟩ Try.call125 (math_bits_Len64_sim h2 w0 _ M _ hM) ?_
 refine Lst.r (Ev.assign rfl) ?_
 refine Lst.nil ?_
 refine At.then ?_
 obtain rfl := some_inj H
 refine Cd.ret ?_
 exact At.ret1 rfl (Res.tmp rfl) (FLe.refl _) (.refl _) ⟨rfl, rfl⟩
set_option maxRecDepth 20000 in
theorem cmp_isNaN_string_sim {a0 : Str} {r : Bool} (H : cmp_isNaN_string a0 = some r) (w0 : World) (F : Frz) (M L : List Item) (hM : M.Sublist L) : Ok Try.prog w0 147 [Str.v a0] F (L) (Is (.bool r) (L)) := by
 unfold cmp_isNaN_string at H
 refine Ok.enter (m := 1) (n := 6) Try.func147 rfl rfl rfl (by decide) ?_
 refine Cd.env (e' := [(0, Str.v a0)]) rfl ?_
 refine Cd.seq ?_
 refine Cd.region ?_
 refine Lst.r (Ev.assign rfl) ?_
 refine Lst.nil ?_
 refine At.then ?_
 refine Cd.seq ?_
 refine Cd.region ?_
 refine Lst.r (Ev.move rfl) ?_
 refine Lst.r (Ev.move rfl) ?_
 refine Lst.r (Ev.neqStr (s := a0) (m := a0) rfl rfl) ?_
 refine Lst.r (Ev.assign rfl) ?_
 refine Lst.nil ?_
 refine At.then ?_
 obtain rfl := some_inj H
 refine Cd.ret ?_
 exact At.ret1 rfl (Res.tmp rfl) (FLe.refl _) (.refl _) ⟨rfl, rfl⟩
set_option maxRecDepth 20000 in
theorem cmp_Less_string_sim {a0 : Str} {a1 : Str} {r : Bool} (H : cmp_Less_string a0 a1 = some r) (w0 : World) (F : Frz) (M L : List Item) (hM : M.Sublist L) : Ok Try.prog w0 121 [Str.v a0, Str.v a1] F (L) (Is (.bool r) (L)) := by
 unfold cmp_Less_string at H
 refine Ok.enter (m := 2) (n := 17) Try.func121 rfl rfl rfl (by decide) ?_
 refine Cd.env (e' := [(0, Str.v a0), (1, Str.v a1)]) rfl ?_
 refine Cd.seq ?_
 refine Cd.region ?_
 refine Lst.r (Ev.assign rfl) ?_
 refine Lst.nil ?_
 refine At.then ?_
 refine Cd.seq ?_
 refine Cd.region ?_
 refine Lst.r (Ev.move rfl) ?_
 obtain ⟨r1, h2, H⟩ := bind_some H
 refine Lst.call1 rfl rfl (by decide) (vs := [Str.v a0]) ⟨rfl, trivial⟩ Try.call147 (cmp_isNaN_string_sim h2 w0 _ M _ hM) ?_
 refine Lst.r (Ev.move rfl) ?_
 obtain ⟨o5, H, HKo5⟩ := bind_some H
 refine Lst.join (σ := Bool) 4 (fun y6 => [(0, Str.v a0), (1, Str.v a1), (11, .bool y6)]) (fun y6 => L) (fun _ y6 => y6 = o5) ?_ ?_
 ·rcases (Bool.eq_false_or_eq_true r1).symm with hb7 | hb7
  ·replace H := ite_f hb7 H
   refine Lst.skip rfl rfl rfl hb7 rfl (by decide) ?_
   refine Lst.skip rfl rfl rfl hb7 rfl (by decide) ?_
   refine Lst.skip rfl rfl rfl hb7 rfl (by decide) ?_
   refine Lst.r (Ev.pickF rfl hb7 rfl) ?_
   refine Lst.nil ?_
   exact At.meet false (FLe.refl _) ⟨rfl, rfl, rfl, trivial⟩ rfl (some_inj H)
  replace H := ite_t hb7 H
  refine Lst.rG hb7 (Ev.move rfl) ?_
  obtain ⟨r8, h9, H⟩ := bind_some H
  refine Lst.call1G rfl rfl rfl hb7 rfl (by decide) (vs := [Str.v a1]) ⟨rfl, trivial⟩ Try.call147 (cmp_isNaN_string_sim h9 w0 _ M _ hM) ?_
  refine Lst.rG hb7 (Ev.not rfl) ?_
  refine Lst.r (Ev.pickT rfl hb7 rfl) ?_
  refine Lst.nil ?_
  exact At.meet (!r8) (FLe.refl _) ⟨rfl, rfl, rfl, trivial⟩ rfl (some_inj H)
 rintro F12 y6 hF13 hy
 subst hy
 refine Lst.as (e' := [(0, Str.v a0), (1, Str.v a1), (11, .bool y6)]) (L' := L) ⟨rfl, rfl, rfl, trivial⟩ rfl ?_
 replace H := HKo5
 refine Lst.r (Ev.move rfl) ?_
 obtain ⟨o14, H, HKo14⟩ := bind_some H
 refine Lst.join (σ := Bool) 4 (fun y15 => [(16, .bool y15)]) (fun y15 => L) (fun _ y15 => y15 = o14) ?_ ?_
 ·rcases Bool.eq_false_or_eq_true y6 with hb16 | hb16
  ·replace H := ite_t hb16 H
   refine Lst.skip rfl rfl rfl hb16 rfl (by decide) ?_
   refine Lst.skip rfl rfl rfl hb16 rfl (by decide) ?_
   refine Lst.skip rfl rfl rfl hb16 rfl (by decide) ?_
   refine Lst.r (Ev.pickT rfl hb16 rfl) ?_
   refine Lst.nil ?_
   exact At.meet true (FLe.refl _) ⟨rfl, trivial⟩ rfl (some_inj H)
  replace H := ite_f hb16 H
  refine Lst.rG hb16 (Ev.move rfl) ?_
  refine Lst.rG hb16 (Ev.move rfl) ?_
  refine Lst.rG hb16 (Ev.lssStr (s := a0) (m := a1) rfl rfl) ?_
  refine Lst.r (Ev.pickF rfl hb16 rfl) ?_
  refine Lst.nil ?_
  exact At.meet (Op.bytesLess a0 a1) (FLe.refl _) ⟨rfl, trivial⟩ rfl (some_inj H)
 rintro F17 y15 hF18 hy
 subst hy
 refine Lst.as (e' := [(16, .bool y15)]) (L' := L) ⟨rfl, trivial⟩ rfl ?_
 replace H := HKo14
 refine Lst.r (Ev.assign rfl) ?_
 refine Lst.nil ?_
 refine At.then ?_
 obtain rfl := some_inj H
 refine Cd.ret ?_
 exact At.ret1 rfl (Res.tmp rfl) (FLe.trans hF13 hF18) (.refl _) ⟨rfl, rfl⟩
end Go.Proofs.Ytnljiedichjagaa
