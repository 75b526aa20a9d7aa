/-
  The functions compute their specs; printed by a program.
-/
import Derived.Test.YticifbmaapnfbaaPpP4
namespace Go.Proofs.Yticifbmaapnfbaa
open Go.RowKit Enc
set_option linter.unusedVariables false
set_option linter.unusedSimpArgs false
set_option maxRecDepth 20000 in
theorem partref_Cover_sim {fu : Nat} {a0 : Int} {a1 : Int} {a2 : List Pair} {s_a2 : Sl} {r : (List Int) × (List Int)} (H : partref_Cover fu a0 a1 a2 = some r) (w0 : World) (F : Frz) (M L : List Item) (hM : M.Sublist L) (hs_a2 : Rd w0 F M s_a2 a2) : Ok Try.prog w0 38 [iv a0, iv a1, Sl.v s_a2] F (L) (fun _ L' v => ∃ (s1 : Sl) (s3 : Sl), v = .tuple #[Sl.v s1, Sl.v s3] ∧ L' = (.own s1 3 1 (encs r.1)) :: (.own s3 3 1 (encs r.2)) :: L) := by
 unfold partref_Cover at H
 refine Ok.enter (m := 3) (n := 125) Try.func38 rfl rfl rfl (by decide) ?_
 refine Cd.env (e' := [(0, iv a0), (1, iv a1), (2, Sl.v s_a2)]) rfl ?_
 refine sr0 ?_
 refine Lst.addNil 3 1 ?_
 refine Lst.r (Ev.assign rfl) ?_
 refine Lst.addNil 3 1 ?_
 refine Lst.r (Ev.assign rfl) ?_
 refine nsr ?_
 refine mv0 rfl ?_
 refine mv0 rfl ?_
 refine mv0 rfl ?_
 obtain ⟨r3, h4, H⟩ := bind_some H
 refine Lst.call rfl rfl (by decide) (vs := [iv a0, iv a1, Sl.v s_a2]) ⟨rfl, rfl, rfl, trivial⟩ Try.call40 (partref_Most_sim h4 w0 _ M _ (sc2 hM) (hs_a2.mono fl (.refl _))) (fun F7 L' v hF8 hv => ?_)
 obtain ⟨s5, rfl, rfl⟩ := hv
 refine Lst.r (Ev.assign rfl) ?_
 refine nt0 ?_
 refine Cd.seq ?_
 obtain ⟨n9, h10, H⟩ := bind_some H
 obtain ⟨n14, h15, H⟩ := bind_some H
 obtain ⟨o24, h25, H⟩ := Let_some H
 refine Cd.headMeet (σ := Sl × (List Bool) × Sl × (List Bool)) 5 (fun (s20, l21, s22, l23) => [(0, iv a0), (1, iv a1), (2, Sl.v s_a2), (8, Sl.v s5), (9, Sl.v s22), (27, Sl.v s20)]) (fun (s20, l21, s22, l23) => (.own s20 4 1 (encs l21)) :: (.own s22 4 1 (encs l23)) :: (.own s5 3 1 (encs r3)) :: (.own Sl.nil 3 1 (encs ([] : List Int))) :: (.own Sl.nil 3 1 (encs ([] : List Int))) :: L) (fun _ (s20, l21, s22, l23) => (l21, l23) = o24) (by kernel_rfl) (by kernel_rfl) (behind_sink (by kernel_rfl) (by kernel_rfl) (by kernel_rfl)) (by kernel_rfl) (fun hsel hlt => ?_) ?_
 ·refine HdJ.keep (fun w => St w0 F7 ((.own s5 3 1 (encs r3)) :: (.own Sl.nil 3 1 (encs ([] : List Int))) :: (.own Sl.nil 3 1 (encs ([] : List Int))) :: L) w) (fun w h => trivial) ?_
  refine HdJ.ts hsel hlt 0 (sk1 (sk1 (sk1 (.refl _)))) (Ev.move rfl) ?_
  refine HdJ.ts hsel hlt 2 (sk1 (sk1 (sk1 (.refl _)))) (Ev.move rfl) ?_
  refine HdJ.step [1, 3] (by kernel_rfl) rfl ?_
  refine HdStep.c (fun inv => ?_) ?_
  ·have g26 := mkLen_some h10
   refine Lst.make (α := Bool) (z0 := false) (k := n9) rfl rfl (by decide) (congrArg some (congrArg (Value.int .i64) g26.1)) (congrArg some (congrArg (Value.int .i64) g26.1)) Try.runUnderlying75 Try.typeInfo4 rfl rfl rfl rfl rfl g26.2 rfl (fun s27 => ?_)
   refine hds inv (sc1 (sk1 (sk1 (sk1 (.refl _))))) ?_
   refine HdJ.keep (fun w => St w0 F7 ((.own s27 4 1 (encs (List.replicate n9 false))) :: (.own s5 3 1 (encs r3)) :: (.own Sl.nil 3 1 (encs ([] : List Int))) :: (.own Sl.nil 3 1 (encs ([] : List Int))) :: L) w) (fun w h => (h.weaken fl).sublist (sc1 (sk1 (sk1 (sk1 (.refl _)))))) ?_
   refine HdJ.ts hsel hlt 4 (sk1 (sk1 (sk1 (sk1 (.refl _))))) (Ev.assign rfl) ?_
   refine HdJ.o1 3 (fun inv => ?_)
   have g28 := mkLen_some h15
   refine Lst.make (α := Bool) (z0 := false) (k := n14) rfl rfl (by decide) (congrArg some (congrArg (Value.int .i64) g28.1)) (congrArg some (congrArg (Value.int .i64) g28.1)) Try.runUnderlying75 Try.typeInfo4 rfl rfl rfl rfl rfl g28.2 rfl (fun s29 => ?_)
   refine hds inv (sc1 (sk1 (sk1 (sk1 (sk1 (.refl _)))))) ?_
   refine HdJ.done (by kernel_rfl) ?_
   exact At.meetN (s29, (List.replicate n14 false), s27, (List.replicate n9 false)) fl ⟨rfl, rfl, rfl, rfl, rfl, rfl, trivial⟩ rfl h25
  refine HdStep.c (fun inv => ?_) trivial
  have g30 := mkLen_some h15
  refine Lst.make (α := Bool) (z0 := false) (k := n14) rfl rfl (by decide) (congrArg some (congrArg (Value.int .i64) g30.1)) (congrArg some (congrArg (Value.int .i64) g30.1)) Try.runUnderlying75 Try.typeInfo4 rfl rfl rfl rfl rfl g30.2 rfl (fun s31 => ?_)
  refine hds inv (sc1 (sk1 (sk1 (sk1 (.refl _))))) ?_
  refine HdJ.o1 1 (fun inv => ?_)
  have g32 := mkLen_some h10
  refine Lst.make (α := Bool) (z0 := false) (k := n9) rfl rfl (by decide) (congrArg some (congrArg (Value.int .i64) g32.1)) (congrArg some (congrArg (Value.int .i64) g32.1)) Try.runUnderlying75 Try.typeInfo4 rfl rfl rfl rfl rfl g32.2 rfl (fun s33 => ?_)
  refine hds inv (sc1 (sc1 (sk1 (sk1 (sk1 (.refl _)))))) ?_
  refine HdJ.keep (fun w => St w0 F7 ((.own s33 4 1 (encs (List.replicate n9 false))) :: (.own s31 4 1 (encs (List.replicate n14 false))) :: (.own s5 3 1 (encs r3)) :: (.own Sl.nil 3 1 (encs ([] : List Int))) :: (.own Sl.nil 3 1 (encs ([] : List Int))) :: L) w) (fun w h => (h.weaken fl).sublist (sc1 (sc1 (sk1 (sk1 (sk1 (.refl _))))))) ?_
  refine HdJ.ts hsel hlt 4 (sk1 (sk1 (sk1 (sk1 (sk1 (.refl _)))))) (Ev.assign rfl) ?_
  refine HdJ.done (by kernel_rfl) ?_
  refine At.front (i := 1) rfl (L' := (.own s31 4 1 (encs (List.replicate n14 false))) :: (.own s33 4 1 (encs (List.replicate n9 false))) :: (.own s5 3 1 (encs r3)) :: (.own Sl.nil 3 1 (encs ([] : List Int))) :: (.own Sl.nil 3 1 (encs ([] : List Int))) :: L) rfl ?_
  exact At.meetN (s31, (List.replicate n14 false), s33, (List.replicate n9 false)) fl ⟨rfl, rfl, rfl, rfl, rfl, rfl, trivial⟩ rfl h25
 rintro F34 ⟨s20, l21, s22, l23⟩ hF35 hy
 subst hy
 try dsimp only at H
 refine Lst.as (e' := [(0, iv a0), (1, iv a1), (2, Sl.v s_a2), (8, Sl.v s5), (9, Sl.v s22), (27, Sl.v s20)]) (L' := (.own s20 4 1 (encs l21)) :: (.own s22 4 1 (encs l23)) :: (.own s5 3 1 (encs r3)) :: (.own Sl.nil 3 1 (encs ([] : List Int))) :: (.own Sl.nil 3 1 (encs ([] : List Int))) :: L) ⟨rfl, rfl, rfl, rfl, rfl, rfl, trivial⟩ rfl ?_
 refine Lst.r (Ev.assign rfl) ?_
 refine nt0 ?_
 refine Cd.seq ?_
 refine sr0 ?_
 refine mv0 rfl ?_
 refine mv0 rfl ?_
 refine nt0 ?_
 refine Cd.block ?_
 obtain ⟨nn40, hN144, H⟩ := bind_some H
 replace hN144 := upTo_some hN144
 obtain ⟨ol36, H, HKl36⟩ := bind_some H
 refine Cd.loop (σ := Nat × Nat × (List Bool)) (fun (i36, k36, l37) => [(0, iv a0), (1, iv a1), (2, Sl.v s_a2), (8, Sl.v s5), (9, Sl.v s22), (10, Sl.v s20), (28, iv a0), (29, iv (i36 : Int))]) (fun (i36, k36, l37) => (.own s20 4 1 (encs l21)) :: (.own s22 4 1 (encs l37)) :: (.own s5 3 1 (encs r3)) :: (.own Sl.nil 3 1 (encs ([] : List Int))) :: (.own Sl.nil 3 1 (encs ([] : List Int))) :: L) (fun _ => (fun (i36, k36, l37) => rangeF (partref_Cover_B0 r3) k36 i36 l37 = some ol36 ∧ i36 + k36 = nn40)) (fun (i36, k36, l37) => k36) (0, nn40, l23) ⟨rfl, rfl, rfl, rfl, rfl, rfl, rfl, rfl, trivial⟩ rfl ⟨H, by omega⟩ ?_
 rintro F38 ⟨i36, k36, l37⟩ hF39 ⟨H, hik36⟩
 refine Cd.as (e' := [(0, iv a0), (1, iv a1), (2, Sl.v s_a2), (8, Sl.v s5), (9, Sl.v s22), (10, Sl.v s20), (28, iv a0), (29, iv (i36 : Int))]) (L' := (.own s20 4 1 (encs l21)) :: (.own s22 4 1 (encs l37)) :: (.own s5 3 1 (encs r3)) :: (.own Sl.nil 3 1 (encs ([] : List Int))) :: (.own Sl.nil 3 1 (encs ([] : List Int))) :: L) ⟨rfl, rfl, rfl, rfl, rfl, rfl, rfl, rfl, trivial⟩ rfl ?_
 rcases k36 with _ | k36
 ·have hc36 : decide ((i36 : Int) < a0) = false := decide_eq_false (by omega)
  replace H := rangeF_end H
  refine sr0 ?_
  refine Lst.r (Ev.lss rfl rfl) ?_
  refine nt0 ?_
  refine Cd.seq ?_
  refine Cd.condF rfl hc36 ?_
  refine Cd.exit ?_
  refine At.then_exit ?_
  refine At.then_exit ?_
  refine At.in_exit ?_
  subst H
  replace H := HKl36
  refine At.then ?_
  refine Cd.seq ?_
  refine sr0 ?_
  refine mv0 rfl ?_
  refine mv0 rfl ?_
  refine Lst.r (Ev.add rfl rfl) ?_
  refine Lst.r (Ev.add rfl rfl) ?_
  refine mv0 rfl ?_
  refine nt0 ?_
  refine Cd.block ?_
  obtain ⟨nn54, hN143, H⟩ := bind_some H
  replace hN143 := upTo_some hN143
  obtain ⟨ol49, H, HKl49⟩ := bind_some H
  refine Cd.loop (σ := Nat × Nat × (List Bool) × (List Bool)) (fun (i49, k49, l50, l51) => [(0, iv a0), (1, iv a1), (2, Sl.v s_a2), (8, Sl.v s5), (9, Sl.v s22), (10, Sl.v s20), (44, iv (w64 ((w64 (a0 + a1)) + (1 : Int)))), (45, iv (i49 : Int))]) (fun (i49, k49, l50, l51) => (.own s20 4 1 (encs l50)) :: (.own s22 4 1 (encs l51)) :: (.own s5 3 1 (encs r3)) :: (.own Sl.nil 3 1 (encs ([] : List Int))) :: (.own Sl.nil 3 1 (encs ([] : List Int))) :: L) (fun _ => (fun (i49, k49, l50, l51) => rangeF (partref_Cover_B2 a2 r3) k49 i49 (l50, l51) = some ol49 ∧ i49 + k49 = nn54)) (fun (i49, k49, l50, l51) => k49) (0, nn54, l21, l37) ⟨rfl, rfl, rfl, rfl, rfl, rfl, rfl, rfl, trivial⟩ rfl ⟨H, by omega⟩ ?_
  rintro F52 ⟨i49, k49, l50, l51⟩ hF53 ⟨H, hik49⟩
  refine Cd.as (e' := [(0, iv a0), (1, iv a1), (2, Sl.v s_a2), (8, Sl.v s5), (9, Sl.v s22), (10, Sl.v s20), (44, iv (w64 ((w64 (a0 + a1)) + (1 : Int)))), (45, iv (i49 : Int))]) (L' := (.own s20 4 1 (encs l50)) :: (.own s22 4 1 (encs l51)) :: (.own s5 3 1 (encs r3)) :: (.own Sl.nil 3 1 (encs ([] : List Int))) :: (.own Sl.nil 3 1 (encs ([] : List Int))) :: L) ⟨rfl, rfl, rfl, rfl, rfl, rfl, rfl, rfl, trivial⟩ rfl ?_
  rcases k49 with _ | k49
  ·have hc49 : decide ((i49 : Int) < (w64 ((w64 (a0 + a1)) + (1 : Int)))) = false := decide_eq_false (by omega)
   replace H := rangeF_end H
   refine sr0 ?_
   refine Lst.r (Ev.lss rfl rfl) ?_
   refine nt0 ?_
   refine Cd.seq ?_
   refine Cd.condF rfl hc49 ?_
   refine Cd.exit ?_
   refine At.then_exit ?_
   refine At.then_exit ?_
   refine At.in_exit ?_
   subst H
   replace H := HKl49
   refine At.then ?_
   refine sr0 ?_
   refine Lst.addNil 3 1 ?_
   refine Lst.r (Ev.assign rfl) ?_
   refine Lst.addNil 3 1 ?_
   refine Lst.r (Ev.assign rfl) ?_
   refine nt0 ?_
   refine Cd.seq ?_
   refine sr0 ?_
   refine mv0 rfl ?_
   refine mv0 rfl ?_
   refine nt0 ?_
   refine Cd.block ?_
   obtain ⟨nn116, hN142, H⟩ := bind_some H
   replace hN142 := upTo_some hN142
   obtain ⟨ol111, H, HKl111⟩ := bind_some H
   refine Cd.loop (σ := Nat × Nat × Sl × (List Int)) (fun (i111, k111, s112, l113) => [(1, iv a1), (9, Sl.v s22), (10, Sl.v s20), (16, Sl.v s112), (17, Sl.v Sl.nil), (96, iv a0), (97, iv (i111 : Int))]) (fun (i111, k111, s112, l113) => (.own Sl.nil 3 1 (encs ([] : List Int))) :: (.own s112 3 1 (encs l113)) :: (.own s20 4 1 (encs l50)) :: (.own s22 4 1 (encs l51)) :: (.own s5 3 1 (encs r3)) :: (.own Sl.nil 3 1 (encs ([] : List Int))) :: (.own Sl.nil 3 1 (encs ([] : List Int))) :: L) (fun _ => (fun (i111, k111, s112, l113) => rangeF (partref_Cover_B8 l51) k111 i111 l113 = some ol111 ∧ i111 + k111 = nn116)) (fun (i111, k111, s112, l113) => k111) (0, nn116, Sl.nil, ([] : List Int)) ⟨rfl, rfl, rfl, rfl, rfl, rfl, rfl, trivial⟩ rfl ⟨H, by omega⟩ ?_
   rintro F114 ⟨i111, k111, s112, l113⟩ hF115 ⟨H, hik111⟩
   refine Cd.as (e' := [(1, iv a1), (9, Sl.v s22), (10, Sl.v s20), (16, Sl.v s112), (17, Sl.v Sl.nil), (96, iv a0), (97, iv (i111 : Int))]) (L' := (.own Sl.nil 3 1 (encs ([] : List Int))) :: (.own s112 3 1 (encs l113)) :: (.own s20 4 1 (encs l50)) :: (.own s22 4 1 (encs l51)) :: (.own s5 3 1 (encs r3)) :: (.own Sl.nil 3 1 (encs ([] : List Int))) :: (.own Sl.nil 3 1 (encs ([] : List Int))) :: L) ⟨rfl, rfl, rfl, rfl, rfl, rfl, rfl, trivial⟩ rfl ?_
   rcases k111 with _ | k111
   ·have hc111 : decide ((i111 : Int) < a0) = false := decide_eq_false (by omega)
    replace H := rangeF_end H
    refine sr0 ?_
    refine Lst.r (Ev.lss rfl rfl) ?_
    refine nt0 ?_
    refine Cd.seq ?_
    refine Cd.condF rfl hc111 ?_
    refine Cd.exit ?_
    refine At.then_exit ?_
    refine At.then_exit ?_
    refine At.in_exit ?_
    subst H
    replace H := HKl111
    refine At.then ?_
    refine Cd.seq ?_
    refine sr0 ?_
    refine mv0 rfl ?_
    refine mv0 rfl ?_
    refine nt0 ?_
    refine Cd.block ?_
    obtain ⟨nn131, hN141, H⟩ := bind_some H
    replace hN141 := upTo_some hN141
    obtain ⟨ol126, H, HKl126⟩ := bind_some H
    refine Cd.loop (σ := Nat × Nat × Sl × (List Int)) (fun (i126, k126, s127, l128) => [(10, Sl.v s20), (16, Sl.v s112), (17, Sl.v s127), (110, iv a1), (111, iv (i126 : Int))]) (fun (i126, k126, s127, l128) => (.own s127 3 1 (encs l128)) :: (.own s112 3 1 (encs l113)) :: (.own s20 4 1 (encs l50)) :: (.own s22 4 1 (encs l51)) :: (.own s5 3 1 (encs r3)) :: (.own Sl.nil 3 1 (encs ([] : List Int))) :: (.own Sl.nil 3 1 (encs ([] : List Int))) :: L) (fun _ => (fun (i126, k126, s127, l128) => rangeF (partref_Cover_B10 l50) k126 i126 l128 = some ol126 ∧ i126 + k126 = nn131)) (fun (i126, k126, s127, l128) => k126) (0, nn131, Sl.nil, ([] : List Int)) ⟨rfl, rfl, rfl, rfl, rfl, trivial⟩ rfl ⟨H, by omega⟩ ?_
    rintro F129 ⟨i126, k126, s127, l128⟩ hF130 ⟨H, hik126⟩
    refine Cd.as (e' := [(10, Sl.v s20), (16, Sl.v s112), (17, Sl.v s127), (110, iv a1), (111, iv (i126 : Int))]) (L' := (.own s127 3 1 (encs l128)) :: (.own s112 3 1 (encs l113)) :: (.own s20 4 1 (encs l50)) :: (.own s22 4 1 (encs l51)) :: (.own s5 3 1 (encs r3)) :: (.own Sl.nil 3 1 (encs ([] : List Int))) :: (.own Sl.nil 3 1 (encs ([] : List Int))) :: L) ⟨rfl, rfl, rfl, rfl, rfl, trivial⟩ rfl ?_
    rcases k126 with _ | k126
    ·have hc126 : decide ((i126 : Int) < a1) = false := decide_eq_false (by omega)
     replace H := rangeF_end H
     refine sr0 ?_
     refine Lst.r (Ev.lss rfl rfl) ?_
     refine nt0 ?_
     refine Cd.seq ?_
     refine Cd.condF rfl hc126 ?_
     refine Cd.exit ?_
     refine At.then_exit ?_
     refine At.then_exit ?_
     refine At.in_exit ?_
     subst H
     replace H := HKl126
     refine At.then ?_
     refine sr0 ?_
     refine mv0 rfl ?_
     refine mv0 rfl ?_
     refine Lst.r (Ev.assign rfl) ?_
     refine Lst.r (Ev.assign rfl) ?_
     refine nt0 ?_
     obtain rfl := some_inj H
     refine Cd.ret ?_
     refine At.front (i := 1) rfl (L' := (.own s112 3 1 (encs l113)) :: (.own s127 3 1 (encs l128)) :: (.own s20 4 1 (encs l50)) :: (.own s22 4 1 (encs l51)) :: (.own s5 3 1 (encs r3)) :: (.own Sl.nil 3 1 (encs ([] : List Int))) :: (.own Sl.nil 3 1 (encs ([] : List Int))) :: L) rfl ?_
     exact At.ret2 rfl (Res.tmp rfl) (Res.tmp rfl) (FLe.trans (FLe.trans (FLe.trans (FLe.trans (FLe.trans hF8 hF35) hF39) hF53) hF115) hF130) (sk1 (sk1 (sc1 (sc1 (sc1 (sc1 (sc1 (.refl _)))))))) ⟨s112, s127, rfl, rfl⟩
    have hc126 : decide ((i126 : Int) < a1) = true := decide_eq_true (by omega)
    obtain ⟨c126, H, hgo126⟩ := rangeF_go H
    unfold partref_Cover_B10 at H
    try dsimp only at H
    refine sr0 ?_
    refine Lst.r (Ev.lss rfl rfl) ?_
    refine nt0 ?_
    refine Cd.seq ?_
    refine Cd.condT rfl hc126 ?_
    refine Cd.skip ?_
    refine At.then ?_
    refine Cd.seq ?_
    refine Cd.block ?_
    refine sr0 ?_
    refine mv0 rfl ?_
    refine Lst.r (Ev.assign rfl) ?_
    refine nsr ?_
    refine mv0 rfl ?_
    refine mv0 rfl ?_
    obtain ⟨x132, h133, H⟩ := bind_some H
    have g134 := lat_some h133
    refine Lst.r (Ev.indexS (α := Bool) (xs := l50) rfl rfl Try.runUnderlying75 Try.sizeOf4 rfl (by decide) (rdo 2 rfl rfl rfl) g134.1 g134.2.1) ?_
    refine Lst.r (Ev.loadS (α := Bool) rfl (rdo 2 rfl rfl rfl) Try.isAgg4 (v := .bool x132) ((Get.elemN (s := 1) (x := x132) rfl g134.2.2 gh0).off (by omega))) ?_
    refine nt0 ?_
    rcases (Bool.eq_false_or_eq_true x132).symm with hb135 | hb135
    ·replace H := ite_f hb135 H
     refine Cd.condF rfl hb135 ?_
     refine Cd.skip ?_
     refine At.in_normal ?_
     refine At.then ?_
     refine Cd.region ?_
     refine Lst.r (Ev.incr (by omega) rfl rfl) ?_
     refine mv0 rfl ?_
     refine Lst.nil ?_
     exact At.meet (i126 + 1, k126, s127, l128) hF130 ⟨rfl, rfl, rfl, rfl, rfl, trivial⟩ rfl ⟨⟨hgo126 _ (some_inj H).symm, by omega⟩, Nat.lt_succ_self _⟩
    replace H := ite_t hb135 H
    refine Cd.condT rfl hb135 ?_
    refine Cd.region ?_
    refine mv0 rfl ?_
    refine mv0 rfl ?_
    refine Lst.buildSlice (α := Int) (xs := ([(i126 : Int)] : List Int)) (pv := [(0, iv (i126 : Int))]) rfl rfl (by decide) ⟨rfl, rfl, trivial⟩ (run_buildSlice (α := Int) (z0 := (0 : Int)) (xs := ([(i126 : Int)] : List Int)) Try.runUnderlying34 Try.sizeOf3 Try.zeroValue3 rfl rfl rfl (by decide) rfl (fill_cons (cs := encs (List.replicate 1 (0 : Int))) (cs' := encs ((List.replicate 1 (0 : Int)).set 0 (i126 : Int))) (vs := [iv (i126 : Int)]) rfl rfl rfl ((Put.elemN (s := 1) (i := 0) (x := (0 : Int)) (y := (i126 : Int)) rfl rfl (Put.here (vs := [iv (i126 : Int)]) rfl)).off rfl) fill_nil)) rfl rfl (by decide) (fun s136 _ => ?_)
    obtain ⟨u138, h139, H⟩ := bind_some H
    refine Lst.append (i := 1) (α := Int) (xs := l128) (ys := ([(i126 : Int)] : List Int)) rfl rfl (by decide) rfl rfl Try.runUnderlying34 Try.typeInfo3 rfl rfl rfl rfl rfl rfl (rdo 0 rfl rfl rfl) rfl (room_some h139) rfl (fun s140 => ?_)
    refine Lst.its (L' := (.own s136 3 1 (encs ([(i126 : Int)] : List Int))) :: (.own s140 3 1 (encs (l128 ++ ([(i126 : Int)] : List Int)))) :: (.own s112 3 1 (encs l113)) :: (.own s20 4 1 (encs l50)) :: (.own s22 4 1 (encs l51)) :: (.own s5 3 1 (encs r3)) :: (.own Sl.nil 3 1 (encs ([] : List Int))) :: (.own Sl.nil 3 1 (encs ([] : List Int))) :: L) rfl ?_
    refine Lst.r (Ev.assign rfl) ?_
    refine Lst.nil ?_
    refine At.in_normal ?_
    refine At.then ?_
    refine Cd.region ?_
    refine Lst.r (Ev.incr (by omega) rfl rfl) ?_
    refine mv0 rfl ?_
    refine Lst.nil ?_
    refine At.less (L' := (.own s140 3 1 (encs (l128 ++ ([(i126 : Int)] : List Int)))) :: (.own s112 3 1 (encs l113)) :: (.own s20 4 1 (encs l50)) :: (.own s22 4 1 (encs l51)) :: (.own s5 3 1 (encs r3)) :: (.own Sl.nil 3 1 (encs ([] : List Int))) :: (.own Sl.nil 3 1 (encs ([] : List Int))) :: L) (sc1 (sk1 (sk1 (sk1 (sk1 (sk1 (sk1 (sk1 (.refl _))))))))) ?_
    exact At.meet (i126 + 1, k126, s140, l128 ++ ([(i126 : Int)] : List Int)) hF130 ⟨rfl, rfl, rfl, rfl, rfl, trivial⟩ rfl ⟨⟨hgo126 _ (some_inj H).symm, by omega⟩, Nat.lt_succ_self _⟩
   have hc111 : decide ((i111 : Int) < a0) = true := decide_eq_true (by omega)
   obtain ⟨c111, H, hgo111⟩ := rangeF_go H
   unfold partref_Cover_B8 at H
   try dsimp only at H
   refine sr0 ?_
   refine Lst.r (Ev.lss rfl rfl) ?_
   refine nt0 ?_
   refine Cd.seq ?_
   refine Cd.condT rfl hc111 ?_
   refine Cd.skip ?_
   refine At.then ?_
   refine Cd.seq ?_
   refine Cd.block ?_
   refine sr0 ?_
   refine mv0 rfl ?_
   refine Lst.r (Ev.assign rfl) ?_
   refine nsr ?_
   refine mv0 rfl ?_
   refine mv0 rfl ?_
   obtain ⟨x117, h118, H⟩ := bind_some H
   have g119 := lat_some h118
   refine Lst.r (Ev.indexS (α := Bool) (xs := l51) rfl rfl Try.runUnderlying75 Try.sizeOf4 rfl (by decide) (rdo 3 rfl rfl rfl) g119.1 g119.2.1) ?_
   refine Lst.r (Ev.loadS (α := Bool) rfl (rdo 3 rfl rfl rfl) Try.isAgg4 (v := .bool x117) ((Get.elemN (s := 1) (x := x117) rfl g119.2.2 gh0).off (by omega))) ?_
   refine Lst.r (Ev.not rfl) ?_
   refine nt0 ?_
   rcases (Bool.eq_false_or_eq_true (!x117)).symm with hb120 | hb120
   ·replace H := ite_f hb120 H
    refine Cd.condF rfl hb120 ?_
    refine Cd.skip ?_
    refine At.in_normal ?_
    refine At.then ?_
    refine Cd.region ?_
    refine Lst.r (Ev.incr (by omega) rfl rfl) ?_
    refine mv0 rfl ?_
    refine Lst.nil ?_
    exact At.meet (i111 + 1, k111, s112, l113) hF115 ⟨rfl, rfl, rfl, rfl, rfl, rfl, rfl, trivial⟩ rfl ⟨⟨hgo111 _ (some_inj H).symm, by omega⟩, Nat.lt_succ_self _⟩
   replace H := ite_t hb120 H
   refine Cd.condT rfl hb120 ?_
   refine Cd.region ?_
   refine mv0 rfl ?_
   refine mv0 rfl ?_
   refine Lst.buildSlice (α := Int) (xs := ([(i111 : Int)] : List Int)) (pv := [(0, iv (i111 : Int))]) rfl rfl (by decide) ⟨rfl, rfl, trivial⟩ (run_buildSlice (α := Int) (z0 := (0 : Int)) (xs := ([(i111 : Int)] : List Int)) Try.runUnderlying34 Try.sizeOf3 Try.zeroValue3 rfl rfl rfl (by decide) rfl (fill_cons (cs := encs (List.replicate 1 (0 : Int))) (cs' := encs ((List.replicate 1 (0 : Int)).set 0 (i111 : Int))) (vs := [iv (i111 : Int)]) rfl rfl rfl ((Put.elemN (s := 1) (i := 0) (x := (0 : Int)) (y := (i111 : Int)) rfl rfl (Put.here (vs := [iv (i111 : Int)]) rfl)).off rfl) fill_nil)) rfl rfl (by decide) (fun s121 _ => ?_)
   obtain ⟨u123, h124, H⟩ := bind_some H
   refine Lst.append (i := 2) (α := Int) (xs := l113) (ys := ([(i111 : Int)] : List Int)) rfl rfl (by decide) rfl rfl Try.runUnderlying34 Try.typeInfo3 rfl rfl rfl rfl rfl rfl (rdo 0 rfl rfl rfl) rfl (room_some h124) rfl (fun s125 => ?_)
   refine Lst.its (L' := (.own s121 3 1 (encs ([(i111 : Int)] : List Int))) :: (.own Sl.nil 3 1 (encs ([] : List Int))) :: (.own s125 3 1 (encs (l113 ++ ([(i111 : Int)] : List Int)))) :: (.own s20 4 1 (encs l50)) :: (.own s22 4 1 (encs l51)) :: (.own s5 3 1 (encs r3)) :: (.own Sl.nil 3 1 (encs ([] : List Int))) :: (.own Sl.nil 3 1 (encs ([] : List Int))) :: L) rfl ?_
   refine Lst.r (Ev.assign rfl) ?_
   refine Lst.nil ?_
   refine At.in_normal ?_
   refine At.then ?_
   refine Cd.region ?_
   refine Lst.r (Ev.incr (by omega) rfl rfl) ?_
   refine mv0 rfl ?_
   refine Lst.nil ?_
   refine At.less (L' := (.own Sl.nil 3 1 (encs ([] : List Int))) :: (.own s125 3 1 (encs (l113 ++ ([(i111 : Int)] : List Int)))) :: (.own s20 4 1 (encs l50)) :: (.own s22 4 1 (encs l51)) :: (.own s5 3 1 (encs r3)) :: (.own Sl.nil 3 1 (encs ([] : List Int))) :: (.own Sl.nil 3 1 (encs ([] : List Int))) :: L) (sc1 (sk1 (sk1 (sk1 (sk1 (sk1 (sk1 (sk1 (.refl _))))))))) ?_
   exact At.meet (i111 + 1, k111, s125, l113 ++ ([(i111 : Int)] : List Int)) hF115 ⟨rfl, rfl, rfl, rfl, rfl, rfl, rfl, trivial⟩ rfl ⟨⟨hgo111 _ (some_inj H).symm, by omega⟩, Nat.lt_succ_self _⟩
  have hc49 : decide ((i49 : Int) < (w64 ((w64 (a0 + a1)) + (1 : Int)))) = true := decide_eq_true (by omega)
  obtain ⟨c49, H, hgo49⟩ := rangeF_go H
  unfold partref_Cover_B2 at H
  try dsimp only at H
  refine sr0 ?_
  refine Lst.r (Ev.lss rfl rfl) ?_
  refine nt0 ?_
  refine Cd.seq ?_
  refine Cd.condT rfl hc49 ?_
  refine Cd.skip ?_
  refine At.then ?_
  refine Cd.seq ?_
  refine Cd.block ?_
  refine Cd.seq ?_
  refine sr0 ?_
  refine mv0 rfl ?_
  refine Lst.r (Ev.lenS (α := Pair) (xs := a2) (by decide) rfl rfl Try.runUnderlying22 (hs_a2.mono (FLe.trans (FLe.trans (FLe.trans hF8 hF35) hF39) hF53) (sc4 (sc1 hM)))) ?_
  refine mv0 rfl ?_
  refine nt0 ?_
  refine Cd.block ?_
  refine Cd.bound (Rd.le (α := Pair) (xs := a2) (by decide) (hs_a2.mono (FLe.trans (FLe.trans (FLe.trans hF8 hF35) hF39) hF53) (sc4 (sc1 hM)))) (fun hN108 => ?_)
  obtain ⟨ol55, H, HKl55⟩ := bind_some H
  refine Cd.loop (σ := Nat × Nat × (List Bool)) (fun (i55, k55, l56) => [(0, iv a0), (1, iv a1), (2, Sl.v s_a2), (8, Sl.v s5), (9, Sl.v s22), (10, Sl.v s20), (44, iv (w64 ((w64 (a0 + a1)) + (1 : Int)))), (45, iv (i49 : Int)), (47, Sl.v s_a2), (48, iv (a2.length : Int)), (49, iv (i55 : Int))]) (fun (i55, k55, l56) => (.own s20 4 1 (encs l56)) :: (.own s22 4 1 (encs l51)) :: (.own s5 3 1 (encs r3)) :: (.own Sl.nil 3 1 (encs ([] : List Int))) :: (.own Sl.nil 3 1 (encs ([] : List Int))) :: L) (fun _ => (fun (i55, k55, l56) => rangeF (partref_Cover_B4 a2 l51) k55 i55 l56 = some ol55 ∧ i55 + k55 = a2.length)) (fun (i55, k55, l56) => k55) (0, a2.length, l50) ⟨rfl, rfl, rfl, rfl, rfl, rfl, rfl, rfl, rfl, rfl, rfl, trivial⟩ rfl ⟨H, by omega⟩ ?_
  rintro F57 ⟨i55, k55, l56⟩ hF58 ⟨H, hik55⟩
  refine Cd.as (e' := [(0, iv a0), (1, iv a1), (2, Sl.v s_a2), (8, Sl.v s5), (9, Sl.v s22), (10, Sl.v s20), (44, iv (w64 ((w64 (a0 + a1)) + (1 : Int)))), (45, iv (i49 : Int)), (47, Sl.v s_a2), (48, iv (a2.length : Int)), (49, iv (i55 : Int))]) (L' := (.own s20 4 1 (encs l56)) :: (.own s22 4 1 (encs l51)) :: (.own s5 3 1 (encs r3)) :: (.own Sl.nil 3 1 (encs ([] : List Int))) :: (.own Sl.nil 3 1 (encs ([] : List Int))) :: L) ⟨rfl, rfl, rfl, rfl, rfl, rfl, rfl, rfl, rfl, rfl, rfl, trivial⟩ rfl ?_
  rcases k55 with _ | k55
  ·have hc55 : decide ((i55 : Int) < (a2.length : Int)) = false := decide_eq_false (by omega)
   replace H := rangeF_end H
   refine sr0 ?_
   refine Lst.r (Ev.lss rfl rfl) ?_
   refine nt0 ?_
   refine Cd.seq ?_
   refine Cd.condF rfl hc55 ?_
   refine Cd.exit ?_
   refine At.then_exit ?_
   refine At.then_exit ?_
   refine At.in_exit ?_
   subst H
   replace H := HKl55
   refine At.then ?_
   refine sr0 ?_
   refine mv0 rfl ?_
   refine Lst.r (Ev.lenS (α := Int) (xs := r3) (by decide) rfl rfl Try.runUnderlying34 (rdo 2 rfl rfl rfl)) ?_
   refine mv0 rfl ?_
   refine nt0 ?_
   refine Cd.block ?_
   refine Cd.bound (Rd.le (α := Int) (xs := r3) (by decide) (rdo 2 rfl rfl rfl)) (fun hN107 => ?_)
   obtain ⟨ol78, H, HKl78⟩ := bind_some H
   refine Cd.loop (σ := Nat × Nat × (List Bool)) (fun (i78, k78, l79) => [(0, iv a0), (1, iv a1), (2, Sl.v s_a2), (8, Sl.v s5), (9, Sl.v s22), (10, Sl.v s20), (44, iv (w64 ((w64 (a0 + a1)) + (1 : Int)))), (45, iv (i49 : Int)), (70, Sl.v s5), (71, iv (r3.length : Int)), (72, iv (i78 : Int))]) (fun (i78, k78, l79) => (.own s20 4 1 (encs l56)) :: (.own s22 4 1 (encs l79)) :: (.own s5 3 1 (encs r3)) :: (.own Sl.nil 3 1 (encs ([] : List Int))) :: (.own Sl.nil 3 1 (encs ([] : List Int))) :: L) (fun _ => (fun (i78, k78, l79) => rangeF (partref_Cover_B6 r3 l56) k78 i78 l79 = some ol78 ∧ i78 + k78 = r3.length)) (fun (i78, k78, l79) => k78) (0, r3.length, l51) ⟨rfl, rfl, rfl, rfl, rfl, rfl, rfl, rfl, rfl, rfl, rfl, trivial⟩ rfl ⟨H, by omega⟩ ?_
   rintro F80 ⟨i78, k78, l79⟩ hF81 ⟨H, hik78⟩
   refine Cd.as (e' := [(0, iv a0), (1, iv a1), (2, Sl.v s_a2), (8, Sl.v s5), (9, Sl.v s22), (10, Sl.v s20), (44, iv (w64 ((w64 (a0 + a1)) + (1 : Int)))), (45, iv (i49 : Int)), (70, Sl.v s5), (71, iv (r3.length : Int)), (72, iv (i78 : Int))]) (L' := (.own s20 4 1 (encs l56)) :: (.own s22 4 1 (encs l79)) :: (.own s5 3 1 (encs r3)) :: (.own Sl.nil 3 1 (encs ([] : List Int))) :: (.own Sl.nil 3 1 (encs ([] : List Int))) :: L) ⟨rfl, rfl, rfl, rfl, rfl, rfl, rfl, rfl, rfl, rfl, rfl, trivial⟩ rfl ?_
   rcases k78 with _ | k78
   ·have hc78 : decide ((i78 : Int) < (r3.length : Int)) = false := decide_eq_false (by omega)
    replace H := rangeF_end H
    refine sr0 ?_
    refine Lst.r (Ev.lss rfl rfl) ?_
    refine nt0 ?_
    refine Cd.seq ?_
    refine Cd.condF rfl hc78 ?_
    refine Cd.exit ?_
    refine At.then_exit ?_
    refine At.then_exit ?_
    refine At.in_exit ?_
    subst H
    replace H := HKl78
    refine At.in_normal ?_
    refine At.then ?_
    refine Cd.region ?_
    refine Lst.r (Ev.incr (by omega) rfl rfl) ?_
    refine mv0 rfl ?_
    refine Lst.nil ?_
    exact At.meet (i49 + 1, k49, l56, l79) (FLe.trans (FLe.trans hF53 hF58) hF81) ⟨rfl, rfl, rfl, rfl, rfl, rfl, rfl, rfl, trivial⟩ rfl ⟨⟨hgo49 _ (some_inj H).symm, by omega⟩, Nat.lt_succ_self _⟩
   have hc78 : decide ((i78 : Int) < (r3.length : Int)) = true := decide_eq_true (by omega)
   obtain ⟨c78, H, hgo78⟩ := rangeF_go H
   unfold partref_Cover_B6 at H
   try dsimp only at H
   refine sr0 ?_
   refine Lst.r (Ev.lss rfl rfl) ?_
   refine nt0 ?_
   refine Cd.seq ?_
   refine Cd.condT rfl hc78 ?_
   refine Cd.skip ?_
   refine At.then ?_
   refine Cd.seq ?_
   refine Cd.block ?_
   refine sr0 ?_
   refine mv0 rfl ?_
   obtain ⟨x82, h83, H⟩ := bind_some H
   have g84 := lat_some h83
   refine Lst.r (Ev.indexS (α := Int) (xs := r3) rfl rfl Try.runUnderlying34 Try.sizeOf3 rfl (by decide) (rdo 2 rfl rfl rfl) g84.1 g84.2.1) ?_
   refine Lst.r (Ev.loadS (α := Int) rfl (rdo 2 rfl rfl rfl) Try.isAgg3 (v := iv x82) ((Get.elemN (s := 1) (x := x82) rfl g84.2.2 gh0).off (by omega))) ?_
   refine Lst.r (Ev.assign rfl) ?_
   refine Lst.r (Ev.assign rfl) ?_
   refine nt0 ?_
   refine Cd.region ?_
   refine mv0 rfl ?_
   refine mv0 rfl ?_
   refine mv0 rfl ?_
   refine mv0 rfl ?_
   obtain ⟨x85, h86, H⟩ := bind_some H
   have g87 := lat_some h86
   refine Lst.r (Ev.indexS (α := Bool) (xs := l79) rfl rfl Try.runUnderlying75 Try.sizeOf4 rfl (by decide) (rdo 1 rfl rfl rfl) g87.1 g87.2.1) ?_
   refine Lst.r (Ev.loadS (α := Bool) rfl (rdo 1 rfl rfl rfl) Try.isAgg4 (v := .bool x85) ((Get.elemN (s := 1) (x := x85) rfl g87.2.2 gh0).off (by omega))) ?_
   refine mv0 rfl ?_
   rcases Bool.eq_false_or_eq_true x85 with hb88 | hb88
   ·replace H := ite_t hb88 H
    refine Lst.skip rfl rfl rfl hb88 rfl (by decide) ?_
    refine Lst.skip rfl rfl rfl hb88 rfl (by decide) ?_
    refine Lst.skip rfl rfl rfl hb88 rfl (by decide) ?_
    refine Lst.skipU rfl rfl rfl rfl (by decide) ?_
    refine Lst.skipU rfl rfl rfl rfl (by decide) ?_
    refine Lst.skipU rfl rfl rfl rfl (by decide) ?_
    refine Lst.skipU rfl rfl rfl rfl (by decide) ?_
    refine Lst.skip rfl rfl rfl hb88 rfl (by decide) ?_
    refine Lst.r (Ev.pickT rfl hb88 rfl) ?_
    obtain ⟨x89, h90, H⟩ := bind_some H
    have g91 := lat_some h90
    refine Lst.r (Ev.indexS (α := Bool) (xs := l79) rfl rfl Try.runUnderlying75 Try.sizeOf4 rfl (by decide) (rdo 1 rfl rfl rfl) g91.1 g91.2.1) ?_
    obtain ⟨p92, h93, H⟩ := Let_some H
    refine Lst.storeS (i := 1) rfl rfl rfl rfl rfl Try.sizeOf4 (vs := [.bool true]) rfl rfl (by decide) rfl (xs' := encs p92) (by rw [← h93]; exact (Put.elemN (s := 1) (x := x89) rfl g91.2.2 (Put.here (vs := [.bool true]) rfl)).off (by omega)) (L' := (.own s20 4 1 (encs l56)) :: (.own s22 4 1 (encs p92)) :: (.own s5 3 1 (encs r3)) :: (.own Sl.nil 3 1 (encs ([] : List Int))) :: (.own Sl.nil 3 1 (encs ([] : List Int))) :: L) rfl ?_
    refine Lst.nil ?_
    refine At.in_normal ?_
    refine At.then ?_
    refine Cd.as (e' := [(0, iv a0), (1, iv a1), (2, Sl.v s_a2), (8, Sl.v s5), (9, Sl.v s22), (10, Sl.v s20), (44, iv (w64 ((w64 (a0 + a1)) + (1 : Int)))), (45, iv (i49 : Int)), (70, Sl.v s5), (71, iv (r3.length : Int)), (72, iv (i78 : Int))]) (L' := (.own s20 4 1 (encs l56)) :: (.own s22 4 1 (encs p92)) :: (.own s5 3 1 (encs r3)) :: (.own Sl.nil 3 1 (encs ([] : List Int))) :: (.own Sl.nil 3 1 (encs ([] : List Int))) :: L) ⟨rfl, rfl, rfl, rfl, rfl, rfl, rfl, rfl, rfl, rfl, rfl, trivial⟩ rfl ?_
    refine Cd.region ?_
    refine Lst.r (Ev.incr (by omega) rfl rfl) ?_
    refine mv0 rfl ?_
    refine Lst.nil ?_
    exact At.meet (i78 + 1, k78, p92) hF81 ⟨rfl, rfl, rfl, rfl, rfl, rfl, rfl, rfl, rfl, rfl, rfl, trivial⟩ rfl ⟨⟨hgo78 _ (some_inj H).symm, by omega⟩, Nat.lt_succ_self _⟩
   replace H := ite_f hb88 H
   refine Lst.rG hb88 (Ev.move rfl) ?_
   refine Lst.rG hb88 (Ev.geq rfl rfl) ?_
   refine Lst.rG hb88 (Ev.move rfl) ?_
   obtain ⟨o94, H, HKo94⟩ := bind_some H
   refine Lst.join (σ := Bool) 5 (fun y95 => [(0, iv a0), (1, iv a1), (2, Sl.v s_a2), (8, Sl.v s5), (9, Sl.v s22), (10, Sl.v s20), (44, iv (w64 ((w64 (a0 + a1)) + (1 : Int)))), (45, iv (i49 : Int)), (70, Sl.v s5), (71, iv (r3.length : Int)), (72, iv (i78 : Int)), (77, Sl.v s22), (78, iv (i78 : Int)), (83, .bool x85), (91, .bool y95)]) (fun y95 => (.own s20 4 1 (encs l56)) :: (.own s22 4 1 (encs l79)) :: (.own s5 3 1 (encs r3)) :: (.own Sl.nil 3 1 (encs ([] : List Int))) :: (.own Sl.nil 3 1 (encs ([] : List Int))) :: L) (fun _ y95 => y95 = o94) ?_ ?_
   ·rcases (Bool.eq_false_or_eq_true (decide (x82 ≥ (0 : Int)))).symm with hb96 | hb96
    ·replace H := ite_f hb96 H
     refine Lst.skip rfl rfl rfl hb96 rfl (by decide) ?_
     refine Lst.skip rfl rfl rfl hb96 rfl (by decide) ?_
     refine Lst.skip rfl rfl rfl hb96 rfl (by decide) ?_
     refine Lst.skip rfl rfl rfl hb96 rfl (by decide) ?_
     refine Lst.rG hb88 (Ev.pickF rfl hb96 rfl) ?_
     refine Lst.nil ?_
     exact At.meet false fl ⟨rfl, rfl, rfl, rfl, rfl, rfl, rfl, rfl, rfl, rfl, rfl, rfl, rfl, rfl, rfl, trivial⟩ rfl (some_inj H)
    replace H := ite_t hb96 H
    refine Lst.rG hb96 (Ev.move rfl) ?_
    refine Lst.rG hb96 (Ev.move rfl) ?_
    obtain ⟨x97, h98, H⟩ := bind_some H
    have g99 := lat_some h98
    refine Lst.rG hb96 (Ev.indexS (α := Bool) (xs := l56) rfl rfl Try.runUnderlying75 Try.sizeOf4 rfl (by decide) (rdo 0 rfl rfl rfl) g99.1 g99.2.1) ?_
    refine Lst.rG hb96 (Ev.loadS (α := Bool) rfl (rdo 0 rfl rfl rfl) Try.isAgg4 (v := .bool x97) ((Get.elemN (s := 1) (x := x97) rfl g99.2.2 gh0).off (by omega))) ?_
    refine Lst.rG hb88 (Ev.pickT rfl hb96 rfl) ?_
    refine Lst.nil ?_
    exact At.meet x97 fl ⟨rfl, rfl, rfl, rfl, rfl, rfl, rfl, rfl, rfl, rfl, rfl, rfl, rfl, rfl, rfl, trivial⟩ rfl (some_inj H)
   rintro F100 y95 hF101 hy
   subst hy
   refine Lst.as (e' := [(0, iv a0), (1, iv a1), (2, Sl.v s_a2), (8, Sl.v s5), (9, Sl.v s22), (10, Sl.v s20), (44, iv (w64 ((w64 (a0 + a1)) + (1 : Int)))), (45, iv (i49 : Int)), (70, Sl.v s5), (71, iv (r3.length : Int)), (72, iv (i78 : Int)), (77, Sl.v s22), (78, iv (i78 : Int)), (83, .bool x85), (91, .bool y95)]) (L' := (.own s20 4 1 (encs l56)) :: (.own s22 4 1 (encs l79)) :: (.own s5 3 1 (encs r3)) :: (.own Sl.nil 3 1 (encs ([] : List Int))) :: (.own Sl.nil 3 1 (encs ([] : List Int))) :: L) ⟨rfl, rfl, rfl, rfl, rfl, rfl, rfl, rfl, rfl, rfl, rfl, rfl, rfl, rfl, rfl, trivial⟩ rfl ?_
   replace H := HKo94
   refine Lst.r (Ev.pickF rfl hb88 rfl) ?_
   obtain ⟨x102, h103, H⟩ := bind_some H
   have g104 := lat_some h103
   refine Lst.r (Ev.indexS (α := Bool) (xs := l79) rfl rfl Try.runUnderlying75 Try.sizeOf4 rfl (by decide) (rdo 1 rfl rfl rfl) g104.1 g104.2.1) ?_
   obtain ⟨p105, h106, H⟩ := Let_some H
   refine Lst.storeS (i := 1) rfl rfl rfl rfl rfl Try.sizeOf4 (vs := [.bool y95]) rfl rfl (by decide) rfl (xs' := encs p105) (by rw [← h106]; exact (Put.elemN (s := 1) (x := x102) rfl g104.2.2 (Put.here (vs := [.bool y95]) rfl)).off (by omega)) (L' := (.own s20 4 1 (encs l56)) :: (.own s22 4 1 (encs p105)) :: (.own s5 3 1 (encs r3)) :: (.own Sl.nil 3 1 (encs ([] : List Int))) :: (.own Sl.nil 3 1 (encs ([] : List Int))) :: L) rfl ?_
   refine Lst.nil ?_
   refine At.in_normal ?_
   refine At.then ?_
   refine Cd.region ?_
   refine Lst.r (Ev.incr (by omega) rfl rfl) ?_
   refine mv0 rfl ?_
   refine Lst.nil ?_
   exact At.meet (i78 + 1, k78, p105) (FLe.trans hF81 hF101) ⟨rfl, rfl, rfl, rfl, rfl, rfl, rfl, rfl, rfl, rfl, rfl, trivial⟩ rfl ⟨⟨hgo78 _ (some_inj H).symm, by omega⟩, Nat.lt_succ_self _⟩
  have hc55 : decide ((i55 : Int) < (a2.length : Int)) = true := decide_eq_true (by omega)
  obtain ⟨c55, H, hgo55⟩ := rangeF_go H
  unfold partref_Cover_B4 at H
  try dsimp only at H
  refine sr0 ?_
  refine Lst.r (Ev.lss rfl rfl) ?_
  refine nt0 ?_
  refine Cd.seq ?_
  refine Cd.condT rfl hc55 ?_
  refine Cd.skip ?_
  refine At.then ?_
  refine Cd.seq ?_
  refine Cd.block ?_
  refine sr0 ?_
  obtain ⟨x59, h60, H⟩ := bind_some H
  have g61 := lat_some h60
  refine Lst.r (Ev.indexS (α := Pair) (xs := a2) rfl rfl Try.runUnderlying22 Try.sizeOf49 rfl (by decide) (hs_a2.mono (FLe.trans (FLe.trans (FLe.trans (FLe.trans hF8 hF35) hF39) hF53) hF58) (sc4 (sc1 hM))) g61.1 g61.2.1) ?_
  refine Lst.r (Ev.loadSA (α := Pair) rfl (hs_a2.mono (FLe.trans (FLe.trans (FLe.trans (FLe.trans hF8 hF35) hF39) hF53) hF58) (sc4 (sc1 hM))) Try.isAgg49 Try.sizeOf49 (ch := enc x59) (Enc.len _) (by decide) ((Get.elemN (s := 2) (x := x59) rfl g61.2.2 gh0).off (by omega))) ?_
  refine Lst.alloc (cs := enc Pair.zero) rfl rfl (by decide) Try.zeroValue49 rfl (fun b62 => ?_)
  refine Lst.store (i := 0) rfl rfl rfl rfl rfl Try.sizeOf49 (vs := enc x59) rfl (Enc.len _) (Enc.one _) (cs' := enc x59) (Put.here ((Enc.len _).trans (Enc.len _).symm)) (L' := (.blk b62 (enc x59) 49) :: (.own s20 4 1 (encs l56)) :: (.own s22 4 1 (encs l51)) :: (.own s5 3 1 (encs r3)) :: (.own Sl.nil 3 1 (encs ([] : List Int))) :: (.own Sl.nil 3 1 (encs ([] : List Int))) :: L) rfl ?_
  refine nt0 ?_
  refine Cd.tail 16 (by kernel_rfl) (by kernel_rfl) ?_
  refine Qt.r (Ev.move rfl) ?_
  refine Qt.r (Ev.fieldAddr (off' := 1) rfl Try.runUnderlying49 rfl Try.sizeOf3 rfl rfl) ?_
  refine Qt.r (Ev.load (i := 0) rfl rfl Try.isAgg3 (v := iv x59.B) ((Pair.get_B gh0).off (by rfl))) ?_
  refine Qt.r (Ev.move rfl) ?_
  refine Qt.r (Ev.fieldAddr (off' := 1) rfl Try.runUnderlying49 rfl Try.sizeOf3 rfl rfl) ?_
  refine Qt.r (Ev.load (i := 0) rfl rfl Try.isAgg3 (v := iv x59.B) ((Pair.get_B gh0).off (by rfl))) ?_
  obtain ⟨x64, h65, H⟩ := bind_some H
  have g66 := lat_some h65
  refine Qt.r (Ev.indexS (α := Bool) (xs := l56) rfl rfl Try.runUnderlying75 Try.sizeOf4 rfl (by decide) (rdo 1 rfl rfl rfl) g66.1 g66.2.1) ?_
  refine Qt.r (Ev.loadS (α := Bool) rfl (rdo 1 rfl rfl rfl) Try.isAgg4 (v := .bool x64) ((Get.elemN (s := 1) (x := x64) rfl g66.2.2 gh0).off (by omega))) ?_
  refine Qt.r (Ev.move rfl) ?_
  obtain ⟨o67, H, HKo67⟩ := bind_some H
  refine Qt.join (σ := Bool) 6 (fun y68 => [(0, iv a0), (1, iv a1), (2, Sl.v s_a2), (8, Sl.v s5), (9, Sl.v s22), (10, Sl.v s20), (44, iv (w64 ((w64 (a0 + a1)) + (1 : Int)))), (45, iv (i49 : Int)), (47, Sl.v s_a2), (48, iv (a2.length : Int)), (49, iv (i55 : Int)), (53, Sl.v s20), (55, iv x59.B), (67, .bool y68)]) (fun y68 => y68 = o67) ?_ ?_
  ·rcases Bool.eq_false_or_eq_true x64 with hb69 | hb69
   ·replace H := ite_t hb69 H
    refine Qt.skip rfl rfl rfl hb69 rfl (by decide) ?_
    refine Qt.skip rfl rfl rfl hb69 rfl (by decide) ?_
    refine Qt.skip rfl rfl rfl hb69 rfl (by decide) ?_
    refine Qt.skip rfl rfl rfl hb69 rfl (by decide) ?_
    refine Qt.skip rfl rfl rfl hb69 rfl (by decide) ?_
    refine Qt.r (Ev.pickT rfl hb69 rfl) ?_
    exact Qt.meet true ⟨rfl, rfl, rfl, rfl, rfl, rfl, rfl, rfl, rfl, rfl, rfl, rfl, rfl, rfl, trivial⟩ (some_inj H)
   replace H := ite_f hb69 H
   refine Qt.rG hb69 (Ev.move rfl) ?_
   refine Qt.rG hb69 (Ev.fieldAddr (off' := 0) rfl Try.runUnderlying49 rfl Try.sizeOf3 rfl rfl) ?_
   refine Qt.rG hb69 (Ev.load (i := 0) rfl rfl Try.isAgg3 (v := iv x59.A) ((Pair.get_A gh0).off (by rfl))) ?_
   obtain ⟨x70, h71, H⟩ := bind_some H
   have g72 := lat_some h71
   refine Qt.rG hb69 (Ev.indexS (α := Bool) (xs := l51) rfl rfl Try.runUnderlying75 Try.sizeOf4 rfl (by decide) (rdo 2 rfl rfl rfl) g72.1 g72.2.1) ?_
   refine Qt.rG hb69 (Ev.loadS (α := Bool) rfl (rdo 2 rfl rfl rfl) Try.isAgg4 (v := .bool x70) ((Get.elemN (s := 1) (x := x70) rfl g72.2.2 gh0).off (by omega))) ?_
   refine Qt.r (Ev.pickF rfl hb69 rfl) ?_
   exact Qt.meet x70 ⟨rfl, rfl, rfl, rfl, rfl, rfl, rfl, rfl, rfl, rfl, rfl, rfl, rfl, rfl, trivial⟩ (some_inj H)
  rintro y68 hy
  subst hy
  refine Qt.as (e' := [(0, iv a0), (1, iv a1), (2, Sl.v s_a2), (8, Sl.v s5), (9, Sl.v s22), (10, Sl.v s20), (44, iv (w64 ((w64 (a0 + a1)) + (1 : Int)))), (45, iv (i49 : Int)), (47, Sl.v s_a2), (48, iv (a2.length : Int)), (49, iv (i55 : Int)), (53, Sl.v s20), (55, iv x59.B), (67, .bool y68)]) ⟨rfl, rfl, rfl, rfl, rfl, rfl, rfl, rfl, rfl, rfl, rfl, rfl, rfl, rfl, trivial⟩ ?_
  replace H := HKo67
  obtain ⟨x73, h74, H⟩ := bind_some H
  have g75 := lat_some h74
  refine Qt.r (Ev.indexS (α := Bool) (xs := l56) rfl rfl Try.runUnderlying75 Try.sizeOf4 rfl (by decide) (rdo 1 rfl rfl rfl) g75.1 g75.2.1) ?_
  refine Qt.tail ?_
  obtain ⟨p76, h77, H⟩ := Let_some H
  refine Lst.storeS (i := 1) rfl rfl rfl rfl rfl Try.sizeOf4 (vs := [.bool y68]) rfl rfl (by decide) rfl (xs' := encs p76) (by rw [← h77]; exact (Put.elemN (s := 1) (x := x73) rfl g75.2.2 (Put.here (vs := [.bool y68]) rfl)).off (by omega)) (L' := (.blk b62 (enc x59) 49) :: (.own s20 4 1 (encs p76)) :: (.own s22 4 1 (encs l51)) :: (.own s5 3 1 (encs r3)) :: (.own Sl.nil 3 1 (encs ([] : List Int))) :: (.own Sl.nil 3 1 (encs ([] : List Int))) :: L) rfl ?_
  refine Lst.nil ?_
  refine At.in_normal ?_
  refine At.then ?_
  refine Cd.region ?_
  refine Lst.r (Ev.incr (by omega) rfl rfl) ?_
  refine mv0 rfl ?_
  refine Lst.nil ?_
  refine At.less (L' := (.own s20 4 1 (encs p76)) :: (.own s22 4 1 (encs l51)) :: (.own s5 3 1 (encs r3)) :: (.own Sl.nil 3 1 (encs ([] : List Int))) :: (.own Sl.nil 3 1 (encs ([] : List Int))) :: L) (sc1 (sk1 (sk1 (sk1 (sk1 (sk1 (.refl _))))))) ?_
  exact At.meet (i55 + 1, k55, p76) hF58 ⟨rfl, rfl, rfl, rfl, rfl, rfl, rfl, rfl, rfl, rfl, rfl, trivial⟩ rfl ⟨⟨hgo55 _ (some_inj H).symm, by omega⟩, Nat.lt_succ_self _⟩
 have hc36 : decide ((i36 : Int) < a0) = true := decide_eq_true (by omega)
 obtain ⟨c36, H, hgo36⟩ := rangeF_go H
 unfold partref_Cover_B0 at H
 try dsimp only at H
 refine sr0 ?_
 refine Lst.r (Ev.lss rfl rfl) ?_
 refine nt0 ?_
 refine Cd.seq ?_
 refine Cd.condT rfl hc36 ?_
 refine Cd.skip ?_
 refine At.then ?_
 refine Cd.seq ?_
 refine Cd.block ?_
 refine sr0 ?_
 refine mv0 rfl ?_
 refine Lst.r (Ev.assign rfl) ?_
 refine nt0 ?_
 refine Cd.region ?_
 refine mv0 rfl ?_
 refine mv0 rfl ?_
 refine mv0 rfl ?_
 refine mv0 rfl ?_
 obtain ⟨x41, h42, H⟩ := bind_some H
 have g43 := lat_some h42
 refine Lst.r (Ev.indexS (α := Int) (xs := r3) rfl rfl Try.runUnderlying34 Try.sizeOf3 rfl (by decide) (rdo 2 rfl rfl rfl) g43.1 g43.2.1) ?_
 refine Lst.r (Ev.loadS (α := Int) rfl (rdo 2 rfl rfl rfl) Try.isAgg3 (v := iv x41) ((Get.elemN (s := 1) (x := x41) rfl g43.2.2 gh0).off (by omega))) ?_
 refine Lst.r (Ev.lss rfl rfl) ?_
 obtain ⟨x44, h45, H⟩ := bind_some H
 have g46 := lat_some h45
 refine Lst.r (Ev.indexS (α := Bool) (xs := l37) rfl rfl Try.runUnderlying75 Try.sizeOf4 rfl (by decide) (rdo 1 rfl rfl rfl) g46.1 g46.2.1) ?_
 obtain ⟨p47, h48, H⟩ := Let_some H
 refine Lst.storeS (i := 1) rfl rfl rfl rfl rfl Try.sizeOf4 (vs := [.bool (decide (x41 < (0 : Int)))]) rfl rfl (by decide) rfl (xs' := encs p47) (by rw [← h48]; exact (Put.elemN (s := 1) (x := x44) rfl g46.2.2 (Put.here (vs := [.bool (decide (x41 < (0 : Int)))]) rfl)).off (by omega)) (L' := (.own s20 4 1 (encs l21)) :: (.own s22 4 1 (encs p47)) :: (.own s5 3 1 (encs r3)) :: (.own Sl.nil 3 1 (encs ([] : List Int))) :: (.own Sl.nil 3 1 (encs ([] : List Int))) :: L) rfl ?_
 refine Lst.nil ?_
 refine At.in_normal ?_
 refine At.then ?_
 refine Cd.region ?_
 refine Lst.r (Ev.incr (by omega) rfl rfl) ?_
 refine mv0 rfl ?_
 refine Lst.nil ?_
 exact At.meet (i36 + 1, k36, p47) hF39 ⟨rfl, rfl, rfl, rfl, rfl, rfl, rfl, rfl, trivial⟩ rfl ⟨⟨hgo36 _ (some_inj H).symm, by omega⟩, Nat.lt_succ_self _⟩
set_option maxRecDepth 20000 in
theorem partref_Apart_sim {fu : Nat} {a0 : Poset} {s_a0_1 : Sl} {r : (List Int)} (H : partref_Apart fu a0 = some r) (w0 : World) (F : Frz) (M L : List Item) (hM : M.Sublist L) (hs_a0_1 : Rd w0 F M s_a0_1 a0.Pairs) : Ok Try.prog w0 44 [.agg (enc (PosetR.mk a0 s_a0_1)).toArray] F (L) (fun _ L' v => ∃ (s1 : Sl), v = Sl.v s1 ∧ L' = (.own s1 3 1 (encs r)) :: L) := by
 unfold partref_Apart at H
 refine Ok.enter (m := 1) (n := 38) Try.func44 rfl rfl rfl (by decide) ?_
 refine Cd.env (e' := [(0, .agg (enc (PosetR.mk a0 s_a0_1)).toArray)]) rfl ?_
 refine sr0 ?_
 refine Lst.box rfl rfl (by decide) rfl (cs := enc (PosetR.mk a0 s_a0_1)) rfl (fun b1 => ?_)
 refine Lst.addNil 3 1 ?_
 refine Lst.r (Ev.assign rfl) ?_
 refine nt0 ?_
 refine Cd.seq ?_
 obtain ⟨r4, h5, H⟩ := bind_some H
 obtain ⟨r10, h11, H⟩ := bind_some H
 obtain ⟨o23, h24, H⟩ := Let_some H
 refine Cd.headMeet (σ := Sl × (List Int) × Sl × (List Int)) 11 (fun (s19, l20, s21, l22) => [(1, pv b1 0), (3, Sl.v s19), (16, Sl.v s21)]) (fun (s19, l20, s21, l22) => (.own s19 3 1 (encs l20)) :: (.own s21 3 1 (encs l22)) :: (.own Sl.nil 3 1 (encs ([] : List Int))) :: (.blk b1 (enc (PosetR.mk a0 s_a0_1)) 24) :: L) (fun _ (s19, l20, s21, l22) => (l20, l22) = o23) (by kernel_rfl) (by kernel_rfl) (behind_sink (by kernel_rfl) (by kernel_rfl) (by kernel_rfl)) (by kernel_rfl) (fun hsel hlt => ?_) ?_
 ·refine HdJ.keep (fun w => St w0 F ((.own Sl.nil 3 1 (encs ([] : List Int))) :: (.blk b1 (enc (PosetR.mk a0 s_a0_1)) 24) :: L) w) (fun w h => trivial) ?_
  refine HdJ.ts hsel hlt 0 (sk1 (sk1 (.refl _))) (Ev.fieldAddr (off' := 0) rfl Try.runUnderlying24 rfl Try.sizeOf3 rfl rfl) ?_
  refine HdJ.ts hsel hlt 1 (sk1 (sk1 (.refl _))) (Ev.load (i := 1) rfl rfl Try.isAgg3 (v := iv a0.N) ((PosetR.get_N gh0).off (by rfl))) ?_
  refine HdJ.ts hsel hlt 2 (sk1 (sk1 (.refl _))) (Ev.fieldAddr (off' := 0) rfl Try.runUnderlying24 rfl Try.sizeOf3 rfl rfl) ?_
  refine HdJ.ts hsel hlt 3 (sk1 (sk1 (.refl _))) (Ev.load (i := 1) rfl rfl Try.isAgg3 (v := iv a0.N) ((PosetR.get_N gh0).off (by rfl))) ?_
  refine HdJ.ts hsel hlt 4 (sk1 (sk1 (.refl _))) (Ev.loadA (i := 1) rfl rfl Try.isAgg24 Try.sizeOf24 (ch := enc (PosetR.mk a0 s_a0_1)) (Enc.len _) gh0) ?_
  refine HdJ.o1 5 (fun inv => ?_)
  refine Lst.call rfl rfl (by decide) (vs := [.agg (enc (PosetR.mk a0 s_a0_1)).toArray, .bool false]) ⟨rfl, rfl, trivial⟩ Try.call29 (partref_AllPairs_sim h5 w0 _ M _ (sc2 hM) (hs_a0_1.mono fl (.refl _))) (fun F26 L' v hF27 hv => ?_)
  obtain ⟨s25, rfl, rfl⟩ := hv
  refine Lst.nil ?_
  refine At.hd inv (fun w h => (h.weaken hF27).sublist (sc1 (sk1 (sk1 (.refl _))))) ?_
  refine HdJ.o1 6 (fun inv => ?_)
  refine Lst.call rfl rfl (by decide) (vs := [iv a0.N, iv a0.N, Sl.v s25]) ⟨rfl, rfl, rfl, trivial⟩ Try.call38 (partref_Cover_sim h11 w0 _ _ _ (.refl _) (rdo 0 rfl rfl rfl)) (fun F30 L' v hF31 hv => ?_)
  obtain ⟨s28, s29, rfl, rfl⟩ := hv
  refine Lst.nil ?_
  refine At.hd inv (fun w h => (h.weaken (FLe.trans hF27 hF31)).sublist (sc1 (sc1 (sc1 (sk1 (sk1 (.refl _))))))) ?_
  refine HdJ.keep (fun w => St w0 F30 ((.own s28 3 1 (encs r10.1)) :: (.own s29 3 1 (encs r10.2)) :: (.own s25 49 2 (encs r4)) :: (.own Sl.nil 3 1 (encs ([] : List Int))) :: (.blk b1 (enc (PosetR.mk a0 s_a0_1)) 24) :: L) w) (fun w h => (h.weaken (FLe.trans hF27 hF31)).sublist (sc1 (sc1 (sc1 (sk1 (sk1 (.refl _))))))) ?_
  refine HdJ.ts hsel hlt 7 (sk1 (sk1 (sk1 (sk1 (sk1 (.refl _)))))) (Ev.move rfl) ?_
  refine HdJ.ts hsel hlt 8 (sk1 (sk1 (sk1 (sk1 (sk1 (.refl _)))))) (Ev.extract rfl rfl) ?_
  refine HdJ.ts hsel hlt 9 (sk1 (sk1 (sk1 (sk1 (sk1 (.refl _)))))) (Ev.extract rfl rfl) ?_
  refine HdJ.ts hsel hlt 10 (sk1 (sk1 (sk1 (sk1 (sk1 (.refl _)))))) (Ev.assign rfl) ?_
  refine HdJ.done (by kernel_rfl) ?_
  refine At.less (L' := (.own s28 3 1 (encs r10.1)) :: (.own s29 3 1 (encs r10.2)) :: (.own Sl.nil 3 1 (encs ([] : List Int))) :: (.blk b1 (enc (PosetR.mk a0 s_a0_1)) 24) :: L) (sk1 (sk1 (sc1 (sk1 (sk1 (.refl _)))))) ?_
  exact At.meetN (s28, r10.1, s29, r10.2) (FLe.trans hF27 hF31) ⟨rfl, rfl, rfl, trivial⟩ rfl h24
 rintro F32 ⟨s19, l20, s21, l22⟩ hF33 hy
 subst hy
 try dsimp only at H
 refine Lst.as (e' := [(1, pv b1 0), (3, Sl.v s19), (16, Sl.v s21)]) (L' := (.own s19 3 1 (encs l20)) :: (.own s21 3 1 (encs l22)) :: (.own Sl.nil 3 1 (encs ([] : List Int))) :: (.blk b1 (enc (PosetR.mk a0 s_a0_1)) 24) :: L) ⟨rfl, rfl, rfl, trivial⟩ rfl ?_
 refine Lst.r (Ev.assign rfl) ?_
 refine nsr ?_
 refine Lst.addNil 3 1 ?_
 refine Lst.r (Ev.assign rfl) ?_
 refine nt0 ?_
 refine Cd.seq ?_
 refine sr0 ?_
 refine Lst.r (Ev.fieldAddr (off' := 0) rfl Try.runUnderlying24 rfl Try.sizeOf3 rfl rfl) ?_
 refine Lst.r (Ev.load (i := 4) rfl rfl Try.isAgg3 (v := iv a0.N) ((PosetR.get_N gh0).off (by rfl))) ?_
 refine mv0 rfl ?_
 refine nt0 ?_
 refine Cd.block ?_
 obtain ⟨nn40, hN60, H⟩ := bind_some H
 replace hN60 := upTo_some hN60
 obtain ⟨ol35, H, HKl35⟩ := bind_some H
 refine Cd.loop (σ := Nat × Nat × Sl × (List Int)) (fun (i35, k35, s36, l37) => [(3, Sl.v s19), (4, Sl.v s21), (5, Sl.v s36), (18, iv a0.N), (19, iv (i35 : Int))]) (fun (i35, k35, s36, l37) => (.own s36 3 1 (encs l37)) :: (.own s19 3 1 (encs l20)) :: (.own s21 3 1 (encs l22)) :: (.own Sl.nil 3 1 (encs ([] : List Int))) :: (.blk b1 (enc (PosetR.mk a0 s_a0_1)) 24) :: L) (fun _ => (fun (i35, k35, s36, l37) => rangeF (partref_Apart_B0 l20 l22) k35 i35 l37 = some ol35 ∧ i35 + k35 = nn40)) (fun (i35, k35, s36, l37) => k35) (0, nn40, Sl.nil, ([] : List Int)) ⟨rfl, rfl, rfl, rfl, rfl, trivial⟩ rfl ⟨H, by omega⟩ ?_
 rintro F38 ⟨i35, k35, s36, l37⟩ hF39 ⟨H, hik35⟩
 refine Cd.as (e' := [(3, Sl.v s19), (4, Sl.v s21), (5, Sl.v s36), (18, iv a0.N), (19, iv (i35 : Int))]) (L' := (.own s36 3 1 (encs l37)) :: (.own s19 3 1 (encs l20)) :: (.own s21 3 1 (encs l22)) :: (.own Sl.nil 3 1 (encs ([] : List Int))) :: (.blk b1 (enc (PosetR.mk a0 s_a0_1)) 24) :: L) ⟨rfl, rfl, rfl, rfl, rfl, trivial⟩ rfl ?_
 rcases k35 with _ | k35
 ·have hc35 : decide ((i35 : Int) < a0.N) = false := decide_eq_false (by omega)
  replace H := rangeF_end H
  refine sr0 ?_
  refine Lst.r (Ev.lss rfl rfl) ?_
  refine nt0 ?_
  refine Cd.seq ?_
  refine Cd.condF rfl hc35 ?_
  refine Cd.exit ?_
  refine At.then_exit ?_
  refine At.then_exit ?_
  refine At.in_exit ?_
  subst H
  replace H := HKl35
  refine At.then ?_
  refine sr0 ?_
  refine mv0 rfl ?_
  refine Lst.r (Ev.assign rfl) ?_
  refine nt0 ?_
  obtain rfl := some_inj H
  refine Cd.ret ?_
  exact At.ret1 rfl (Res.tmp rfl) (FLe.trans hF33 hF39) (sk1 (sc1 (sc1 (sc1 (sc1 (.refl _)))))) ⟨s36, rfl, rfl⟩
 have hc35 : decide ((i35 : Int) < a0.N) = true := decide_eq_true (by omega)
 obtain ⟨c35, H, hgo35⟩ := rangeF_go H
 unfold partref_Apart_B0 at H
 try dsimp only at H
 refine sr0 ?_
 refine Lst.r (Ev.lss rfl rfl) ?_
 refine nt0 ?_
 refine Cd.seq ?_
 refine Cd.condT rfl hc35 ?_
 refine Cd.skip ?_
 refine At.then ?_
 refine Cd.seq ?_
 refine Cd.block ?_
 refine sr0 ?_
 refine mv0 rfl ?_
 refine Lst.r (Ev.assign rfl) ?_
 refine nsr ?_
 refine mv0 rfl ?_
 refine mv0 rfl ?_
 obtain ⟨r41, h42, H⟩ := bind_some H
 refine Lst.call1 rfl rfl (by decide) (vs := [Sl.v s19, iv (i35 : Int)]) ⟨rfl, rfl, trivial⟩ Try.call57 (slices_Contains_int_int_sim h42 w0 _ _ _ (.refl _) (rdo 1 rfl rfl rfl)) ?_
 refine Lst.r (Ev.not rfl) ?_
 refine mv0 rfl ?_
 obtain ⟨o45, H, HKo45⟩ := bind_some H
 refine Lst.join (σ := Bool) 5 (fun y46 => [(3, Sl.v s19), (4, Sl.v s21), (5, Sl.v s36), (6, iv (i35 : Int)), (18, iv a0.N), (19, iv (i35 : Int)), (31, .bool y46)]) (fun y46 => (.own s36 3 1 (encs l37)) :: (.own s19 3 1 (encs l20)) :: (.own s21 3 1 (encs l22)) :: (.own Sl.nil 3 1 (encs ([] : List Int))) :: (.blk b1 (enc (PosetR.mk a0 s_a0_1)) 24) :: L) (fun _ y46 => y46 = o45) ?_ ?_
 ·rcases (Bool.eq_false_or_eq_true (!r41)).symm with hb47 | hb47
  ·replace H := ite_f hb47 H
   refine Lst.skip rfl rfl rfl hb47 rfl (by decide) ?_
   refine Lst.skip rfl rfl rfl hb47 rfl (by decide) ?_
   refine Lst.skip rfl rfl rfl hb47 rfl (by decide) ?_
   refine Lst.skip rfl rfl rfl hb47 rfl (by decide) ?_
   refine Lst.r (Ev.pickF rfl hb47 rfl) ?_
   refine Lst.nil ?_
   exact At.meet false fl ⟨rfl, rfl, rfl, rfl, rfl, rfl, rfl, trivial⟩ rfl (some_inj H)
  replace H := ite_t hb47 H
  refine Lst.rG hb47 (Ev.move rfl) ?_
  refine Lst.rG hb47 (Ev.move rfl) ?_
  obtain ⟨r48, h49, H⟩ := bind_some H
  refine Lst.call1G rfl rfl rfl hb47 rfl (by decide) (vs := [Sl.v s21, iv (i35 : Int)]) ⟨rfl, rfl, trivial⟩ Try.call57 (slices_Contains_int_int_sim h49 w0 _ _ _ (.refl _) (rdo 2 rfl rfl rfl)) ?_
  refine Lst.rG hb47 (Ev.not rfl) ?_
  refine Lst.r (Ev.pickT rfl hb47 rfl) ?_
  refine Lst.nil ?_
  exact At.meet (!r48) fl ⟨rfl, rfl, rfl, rfl, rfl, rfl, rfl, trivial⟩ rfl (some_inj H)
 rintro F52 y46 hF53 hy
 subst hy
 refine Lst.as (e' := [(3, Sl.v s19), (4, Sl.v s21), (5, Sl.v s36), (6, iv (i35 : Int)), (18, iv a0.N), (19, iv (i35 : Int)), (31, .bool y46)]) (L' := (.own s36 3 1 (encs l37)) :: (.own s19 3 1 (encs l20)) :: (.own s21 3 1 (encs l22)) :: (.own Sl.nil 3 1 (encs ([] : List Int))) :: (.blk b1 (enc (PosetR.mk a0 s_a0_1)) 24) :: L) ⟨rfl, rfl, rfl, rfl, rfl, rfl, rfl, trivial⟩ rfl ?_
 replace H := HKo45
 refine nt0 ?_
 rcases (Bool.eq_false_or_eq_true y46).symm with hb54 | hb54
 ·replace H := ite_f hb54 H
  refine Cd.condF rfl hb54 ?_
  refine Cd.skip ?_
  refine At.in_normal ?_
  refine At.then ?_
  refine Cd.region ?_
  refine Lst.r (Ev.incr (by omega) rfl rfl) ?_
  refine mv0 rfl ?_
  refine Lst.nil ?_
  exact At.meet (i35 + 1, k35, s36, l37) (FLe.trans hF39 hF53) ⟨rfl, rfl, rfl, rfl, rfl, trivial⟩ rfl ⟨⟨hgo35 _ (some_inj H).symm, by omega⟩, Nat.lt_succ_self _⟩
 replace H := ite_t hb54 H
 refine Cd.condT rfl hb54 ?_
 refine Cd.region ?_
 refine mv0 rfl ?_
 refine mv0 rfl ?_
 refine Lst.buildSlice (α := Int) (xs := ([(i35 : Int)] : List Int)) (pv := [(0, iv (i35 : Int))]) rfl rfl (by decide) ⟨rfl, rfl, trivial⟩ (run_buildSlice (α := Int) (z0 := (0 : Int)) (xs := ([(i35 : Int)] : List Int)) Try.runUnderlying34 Try.sizeOf3 Try.zeroValue3 rfl rfl rfl (by decide) rfl (fill_cons (cs := encs (List.replicate 1 (0 : Int))) (cs' := encs ((List.replicate 1 (0 : Int)).set 0 (i35 : Int))) (vs := [iv (i35 : Int)]) rfl rfl rfl ((Put.elemN (s := 1) (i := 0) (x := (0 : Int)) (y := (i35 : Int)) rfl rfl (Put.here (vs := [iv (i35 : Int)]) rfl)).off rfl) fill_nil)) rfl rfl (by decide) (fun s55 _ => ?_)
 obtain ⟨u57, h58, H⟩ := bind_some H
 refine Lst.append (i := 1) (α := Int) (xs := l37) (ys := ([(i35 : Int)] : List Int)) rfl rfl (by decide) rfl rfl Try.runUnderlying34 Try.typeInfo3 rfl rfl rfl rfl rfl rfl (rdo 0 rfl rfl rfl) rfl (room_some h58) rfl (fun s59 => ?_)
 refine Lst.its (L' := (.own s55 3 1 (encs ([(i35 : Int)] : List Int))) :: (.own s59 3 1 (encs (l37 ++ ([(i35 : Int)] : List Int)))) :: (.own s19 3 1 (encs l20)) :: (.own s21 3 1 (encs l22)) :: (.own Sl.nil 3 1 (encs ([] : List Int))) :: (.blk b1 (enc (PosetR.mk a0 s_a0_1)) 24) :: L) rfl ?_
 refine Lst.r (Ev.assign rfl) ?_
 refine Lst.nil ?_
 refine At.in_normal ?_
 refine At.then ?_
 refine Cd.region ?_
 refine Lst.r (Ev.incr (by omega) rfl rfl) ?_
 refine mv0 rfl ?_
 refine Lst.nil ?_
 refine At.less (L' := (.own s59 3 1 (encs (l37 ++ ([(i35 : Int)] : List Int)))) :: (.own s19 3 1 (encs l20)) :: (.own s21 3 1 (encs l22)) :: (.own Sl.nil 3 1 (encs ([] : List Int))) :: (.blk b1 (enc (PosetR.mk a0 s_a0_1)) 24) :: L) (sc1 (sk1 (sk1 (sk1 (sk1 (sk1 (.refl _))))))) ?_
 exact At.meet (i35 + 1, k35, s59, l37 ++ ([(i35 : Int)] : List Int)) (FLe.trans hF39 hF53) ⟨rfl, rfl, rfl, rfl, rfl, trivial⟩ rfl ⟨⟨hgo35 _ (some_inj H).symm, by omega⟩, Nat.lt_succ_self _⟩
set_option maxRecDepth 20000 in
theorem partlaw_PosetParts_sim {fu : Nat} {a0 : Poset} {s_a0_1 : Sl} {r : Bool} (H : partlaw_PosetParts fu a0 = some r) (w0 : World) (F : Frz) (M L : List Item) (hM : M.Sublist L) (hs_a0_1 : Rd w0 F M s_a0_1 a0.Pairs) : Ok Try.prog w0 8 [.agg (enc (PosetR.mk a0 s_a0_1)).toArray] F (L) (Is (.bool r) (L)) := by
 unfold partlaw_PosetParts at H
 refine Ok.enter (m := 1) (n := 58) Try.func8 rfl rfl rfl (by decide) ?_
 refine Cd.env (e' := [(0, .agg (enc (PosetR.mk a0 s_a0_1)).toArray)]) rfl ?_
 refine sr0 ?_
 refine Lst.box rfl rfl (by decide) rfl (cs := enc (PosetR.mk a0 s_a0_1)) rfl (fun b1 => ?_)
 refine Lst.r (Ev.assign rfl) ?_
 refine nsr ?_
 refine Lst.r (Ev.loadA (i := 0) rfl rfl Try.isAgg24 Try.sizeOf24 (ch := enc (PosetR.mk a0 s_a0_1)) (Enc.len _) gh0) ?_
 obtain ⟨r3, h4, H⟩ := bind_some H
 refine Lst.call1 rfl rfl (by decide) (vs := [.agg (enc (PosetR.mk a0 s_a0_1)).toArray]) ⟨rfl, trivial⟩ Try.call9 (partref_PosetErr_sim h4 w0 _ M _ (sc1 hM) (hs_a0_1.mono fl (.refl _))) ?_
 refine Lst.r (Ev.assign rfl) ?_
 refine nsr ?_
 refine Lst.r (Ev.loadA (i := 0) rfl rfl Try.isAgg24 Try.sizeOf24 (ch := enc (PosetR.mk a0 s_a0_1)) (Enc.len _) gh0) ?_
 obtain ⟨r7, h8, H⟩ := bind_some H
 refine Lst.call rfl rfl (by decide) (vs := [.agg (enc (PosetR.mk a0 s_a0_1)).toArray]) ⟨rfl, trivial⟩ Try.call41 (poset_Chains_sim h8 w0 _ M _ (sc1 hM) (hs_a0_1.mono fl (.refl _))) (fun F14 L' v hF15 hv => ?_)
 obtain ⟨s9, rs10, rfl, rfl, fm11, fa13⟩ := hv
 refine mv0 rfl ?_
 refine Lst.r (Ev.extract rfl rfl) ?_
 refine Lst.r (Ev.extract rfl rfl) ?_
 refine Lst.r (Ev.assign rfl) ?_
 refine Lst.r (Ev.assign rfl) ?_
 refine nsr ?_
 refine Lst.r (Ev.loadA (i := 1) rfl rfl Try.isAgg24 Try.sizeOf24 (ch := enc (PosetR.mk a0 s_a0_1)) (Enc.len _) gh0) ?_
 obtain ⟨r16, h17, H⟩ := bind_some H
 refine Lst.call rfl rfl (by decide) (vs := [.agg (enc (PosetR.mk a0 s_a0_1)).toArray]) ⟨rfl, trivial⟩ Try.call42 (poset_Apart_sim h17 w0 _ M _ (sc2 hM) (hs_a0_1.mono hF15 (.refl _))) (fun F20 L' v hF21 hv => ?_)
 obtain ⟨s18, rfl, rfl⟩ := hv
 refine mv0 rfl ?_
 refine Lst.r (Ev.extract rfl rfl) ?_
 refine Lst.r (Ev.extract rfl rfl) ?_
 refine Lst.r (Ev.assign rfl) ?_
 refine Lst.r (Ev.assign rfl) ?_
 refine nt0 ?_
 refine Cd.seq ?_
 refine sr0 ?_
 refine mv0 rfl ?_
 refine Lst.r (Ev.neq rfl rfl) ?_
 refine nt0 ?_
 rcases Bool.eq_false_or_eq_true (r3 != (0 : Int)) with hb22 | hb22
 ·replace H := ite_t hb22 H
  refine Cd.condT rfl hb22 ?_
  refine Cd.seq ?_
  refine Cd.as (e' := [(3, iv r3), (4, Sl.v s9), (5, iv r7.2), (6, Sl.v s18), (7, iv r16.2)]) (L' := (.own s18 3 1 (encs r16.1)) :: (.own s9 34 1 (encs rs10)) :: (.blk b1 (enc (PosetR.mk a0 s_a0_1)) 24) :: L) ⟨rfl, rfl, rfl, rfl, rfl, trivial⟩ rfl ?_
  refine Cd.region ?_
  refine mv0 rfl ?_
  refine Lst.r (Ev.lenM (map_len fm11) (Ev.lenS (α := LR Int) (xs := rs10) (by decide) rfl rfl Try.runUnderlying56 (rdo 1 rfl rfl rfl))) ?_
  refine Lst.r (Ev.eql rfl rfl) ?_
  refine mv0 rfl ?_
  obtain ⟨o24, H, HKo24⟩ := bind_some H
  refine Lst.join (σ := Bool) 4 (fun y25 => [(3, iv r3), (6, Sl.v s18), (7, iv r16.2), (29, .bool y25)]) (fun y25 => (.own s18 3 1 (encs r16.1)) :: (.own s9 34 1 (encs rs10)) :: (.blk b1 (enc (PosetR.mk a0 s_a0_1)) 24) :: L) (fun _ y25 => y25 = o24) ?_ ?_
  ·rcases (Bool.eq_false_or_eq_true ((r7.1.length : Int) == (0 : Int))).symm with hb26 | hb26
   ·replace H := ite_f hb26 H
    refine Lst.skip rfl rfl rfl hb26 rfl (by decide) ?_
    refine Lst.skip rfl rfl rfl hb26 rfl (by decide) ?_
    refine Lst.skip rfl rfl rfl hb26 rfl (by decide) ?_
    refine Lst.r (Ev.pickF rfl hb26 rfl) ?_
    refine Lst.nil ?_
    exact At.meet false fl ⟨rfl, rfl, rfl, rfl, trivial⟩ rfl (some_inj H)
   replace H := ite_t hb26 H
   refine Lst.rG hb26 (Ev.move rfl) ?_
   refine Lst.rG hb26 (Ev.move rfl) ?_
   refine Lst.rG hb26 (Ev.eql rfl rfl) ?_
   refine Lst.r (Ev.pickT rfl hb26 rfl) ?_
   refine Lst.nil ?_
   exact At.meet (r7.2 == r3) fl ⟨rfl, rfl, rfl, rfl, trivial⟩ rfl (some_inj H)
  rintro F27 y25 hF28 hy
  subst hy
  refine Lst.as (e' := [(3, iv r3), (6, Sl.v s18), (7, iv r16.2), (29, .bool y25)]) (L' := (.own s18 3 1 (encs r16.1)) :: (.own s9 34 1 (encs rs10)) :: (.blk b1 (enc (PosetR.mk a0 s_a0_1)) 24) :: L) ⟨rfl, rfl, rfl, rfl, trivial⟩ rfl ?_
  replace H := HKo24
  refine mv0 rfl ?_
  obtain ⟨o29, H, HKo29⟩ := bind_some H
  refine Lst.join (σ := Bool) 4 (fun y30 => [(3, iv r3), (7, iv r16.2), (34, .bool y30)]) (fun y30 => (.own s18 3 1 (encs r16.1)) :: (.own s9 34 1 (encs rs10)) :: (.blk b1 (enc (PosetR.mk a0 s_a0_1)) 24) :: L) (fun _ y30 => y30 = o29) ?_ ?_
  ·rcases (Bool.eq_false_or_eq_true y25).symm with hb31 | hb31
   ·replace H := ite_f hb31 H
    refine Lst.skip rfl rfl rfl hb31 rfl (by decide) ?_
    refine Lst.skip rfl rfl rfl hb31 rfl (by decide) ?_
    refine Lst.skip rfl rfl rfl hb31 rfl (by decide) ?_
    refine Lst.r (Ev.pickF rfl hb31 rfl) ?_
    refine Lst.nil ?_
    exact At.meet false fl ⟨rfl, rfl, rfl, trivial⟩ rfl (some_inj H)
   replace H := ite_t hb31 H
   refine Lst.rG hb31 (Ev.move rfl) ?_
   refine Lst.rG hb31 (Ev.lenS (α := Int) (xs := r16.1) (by decide) rfl rfl Try.runUnderlying34 (rdo 0 rfl rfl rfl)) ?_
   refine Lst.rG hb31 (Ev.eql rfl rfl) ?_
   refine Lst.r (Ev.pickT rfl hb31 rfl) ?_
   refine Lst.nil ?_
   exact At.meet ((r16.1.length : Int) == (0 : Int)) fl ⟨rfl, rfl, rfl, trivial⟩ rfl (some_inj H)
  rintro F32 y30 hF33 hy
  subst hy
  refine Lst.as (e' := [(3, iv r3), (7, iv r16.2), (34, .bool y30)]) (L' := (.own s18 3 1 (encs r16.1)) :: (.own s9 34 1 (encs rs10)) :: (.blk b1 (enc (PosetR.mk a0 s_a0_1)) 24) :: L) ⟨rfl, rfl, rfl, trivial⟩ rfl ?_
  replace H := HKo29
  refine mv0 rfl ?_
  obtain ⟨o34, H, HKo34⟩ := bind_some H
  refine Lst.join (σ := Bool) 4 (fun y35 => [(39, .bool y35)]) (fun y35 => (.own s18 3 1 (encs r16.1)) :: (.own s9 34 1 (encs rs10)) :: (.blk b1 (enc (PosetR.mk a0 s_a0_1)) 24) :: L) (fun _ y35 => y35 = o34) ?_ ?_
  ·rcases (Bool.eq_false_or_eq_true y30).symm with hb36 | hb36
   ·replace H := ite_f hb36 H
    refine Lst.skip rfl rfl rfl hb36 rfl (by decide) ?_
    refine Lst.skip rfl rfl rfl hb36 rfl (by decide) ?_
    refine Lst.skip rfl rfl rfl hb36 rfl (by decide) ?_
    refine Lst.r (Ev.pickF rfl hb36 rfl) ?_
    refine Lst.nil ?_
    exact At.meet false fl ⟨rfl, trivial⟩ rfl (some_inj H)
   replace H := ite_t hb36 H
   refine Lst.rG hb36 (Ev.move rfl) ?_
   refine Lst.rG hb36 (Ev.move rfl) ?_
   refine Lst.rG hb36 (Ev.eql rfl rfl) ?_
   refine Lst.r (Ev.pickT rfl hb36 rfl) ?_
   refine Lst.nil ?_
   exact At.meet (r16.2 == r3) fl ⟨rfl, trivial⟩ rfl (some_inj H)
  rintro F37 y35 hF38 hy
  subst hy
  refine Lst.as (e' := [(39, .bool y35)]) (L' := (.own s18 3 1 (encs r16.1)) :: (.own s9 34 1 (encs rs10)) :: (.blk b1 (enc (PosetR.mk a0 s_a0_1)) 24) :: L) ⟨rfl, trivial⟩ rfl ?_
  replace H := HKo34
  refine Lst.r (Ev.assign rfl) ?_
  refine nt0 ?_
  obtain rfl := some_inj H
  refine Cd.ret ?_
  refine At.then_ret ?_
  exact At.ret1 rfl (Res.tmp rfl) (FLe.trans (FLe.trans (FLe.trans (FLe.trans hF15 hF21) hF28) hF33) hF38) (sc1 (sc1 (sc1 (.refl _)))) ⟨rfl, rfl⟩
 replace H := ite_f hb22 H
 refine Cd.condF rfl hb22 ?_
 refine Cd.skip ?_
 refine At.then ?_
 refine Cd.seq ?_
 refine Cd.as (e' := [(1, pv b1 0), (4, Sl.v s9), (5, iv r7.2), (6, Sl.v s18), (7, iv r16.2)]) (L' := (.own s18 3 1 (encs r16.1)) :: (.own s9 34 1 (encs rs10)) :: (.blk b1 (enc (PosetR.mk a0 s_a0_1)) 24) :: L) ⟨rfl, rfl, rfl, rfl, rfl, trivial⟩ rfl ?_
 refine Cd.region ?_
 refine mv0 rfl ?_
 refine Lst.r (Ev.loadA (i := 2) rfl rfl Try.isAgg24 Try.sizeOf24 (ch := enc (PosetR.mk a0 s_a0_1)) (Enc.len _) gh0) ?_
 obtain ⟨r39, h40, H⟩ := bind_some H
 refine Lst.call rfl rfl (by decide) (vs := [.agg (enc (PosetR.mk a0 s_a0_1)).toArray]) ⟨rfl, trivial⟩ Try.call43 (partref_Chains_sim h40 w0 _ M _ (sc2 (sc1 hM)) (hs_a0_1.mono (FLe.trans hF15 hF21) (.refl _))) (fun F46 L' v hF47 hv => ?_)
 obtain ⟨s41, rs42, rfl, rfl, fm43, fa45⟩ := hv
 obtain ⟨r48, h49, H⟩ := bind_some H
 refine Lst.call1 rfl rfl (by decide) (vs := [Sl.v s9, Sl.v s41, .func (.func 30) #[] #[]]) ⟨rfl, rfl, rfl, trivial⟩ Try.call32 (slices_EqualFunc_int_int_int_int_int_int_sim h49 w0 _ _ _ (.refl _) fm11 (rdo 2 rfl rfl rfl) (All.monoLR fa13 (FLe.trans hF21 hF47) (sc4 hM)) fm43 (rdo 0 rfl rfl rfl) (All.monoLR fa45 fl (sc4 hM))) ?_
 refine mv0 rfl ?_
 obtain ⟨o52, H, HKo52⟩ := bind_some H
 refine Lst.join (σ := Bool) 3 (fun y53 => [(1, pv b1 0), (6, Sl.v s18), (7, iv r16.2), (47, .bool y53)]) (fun y53 => (.own s41 34 1 (encs rs42)) :: (.own s18 3 1 (encs r16.1)) :: (.own s9 34 1 (encs rs10)) :: (.blk b1 (enc (PosetR.mk a0 s_a0_1)) 24) :: L) (fun _ y53 => y53 = o52) ?_ ?_
 ·rcases (Bool.eq_false_or_eq_true r48).symm with hb54 | hb54
  ·replace H := ite_f hb54 H
   refine Lst.skip rfl rfl rfl hb54 rfl (by decide) ?_
   refine Lst.skip rfl rfl rfl hb54 rfl (by decide) ?_
   refine Lst.r (Ev.pickF rfl hb54 rfl) ?_
   refine Lst.nil ?_
   exact At.meet false fl ⟨rfl, rfl, rfl, rfl, trivial⟩ rfl (some_inj H)
  replace H := ite_t hb54 H
  refine Lst.rG hb54 (Ev.move rfl) ?_
  refine Lst.rG hb54 (Ev.eql rfl rfl) ?_
  refine Lst.r (Ev.pickT rfl hb54 rfl) ?_
  refine Lst.nil ?_
  exact At.meet (r7.2 == (0 : Int)) fl ⟨rfl, rfl, rfl, rfl, trivial⟩ rfl (some_inj H)
 rintro F55 y53 hF56 hy
 subst hy
 refine Lst.as (e' := [(1, pv b1 0), (6, Sl.v s18), (7, iv r16.2), (47, .bool y53)]) (L' := (.own s41 34 1 (encs rs42)) :: (.own s18 3 1 (encs r16.1)) :: (.own s9 34 1 (encs rs10)) :: (.blk b1 (enc (PosetR.mk a0 s_a0_1)) 24) :: L) ⟨rfl, rfl, rfl, rfl, trivial⟩ rfl ?_
 replace H := HKo52
 refine mv0 rfl ?_
 rcases (Bool.eq_false_or_eq_true y53).symm with hb57 | hb57
 ·replace H := ite_f hb57 H
  refine Lst.skip rfl rfl rfl hb57 rfl (by decide) ?_
  refine Lst.skip rfl rfl rfl hb57 rfl (by decide) ?_
  refine Lst.skip rfl rfl rfl hb57 rfl (by decide) ?_
  refine Lst.skip rfl rfl rfl hb57 rfl (by decide) ?_
  refine Lst.r (Ev.pickF rfl hb57 rfl) ?_
  refine mv0 rfl ?_
  refine Lst.skip rfl rfl rfl rfl rfl (by decide) ?_
  refine Lst.skip rfl rfl rfl rfl rfl (by decide) ?_
  refine Lst.r (Ev.pickF rfl rfl rfl) ?_
  refine Lst.r (Ev.assign rfl) ?_
  refine nt0 ?_
  obtain rfl := some_inj H
  refine Cd.ret ?_
  exact At.ret1 rfl (Res.tmp rfl) (FLe.trans (FLe.trans (FLe.trans hF15 hF21) hF47) hF56) (sc1 (sc1 (sc1 (sc1 (.refl _))))) ⟨rfl, rfl⟩
 replace H := ite_t hb57 H
 refine Lst.rG hb57 (Ev.move rfl) ?_
 refine Lst.rG hb57 (Ev.loadA (i := 3) rfl rfl Try.isAgg24 Try.sizeOf24 (ch := enc (PosetR.mk a0 s_a0_1)) (Enc.len _) gh0) ?_
 obtain ⟨r58, h59, H⟩ := bind_some H
 refine Lst.callG rfl rfl rfl hb57 rfl (by decide) (vs := [.agg (enc (PosetR.mk a0 s_a0_1)).toArray]) ⟨rfl, trivial⟩ Try.call44 (partref_Apart_sim h59 w0 _ M _ (sc4 hM) (hs_a0_1.mono (FLe.trans (FLe.trans (FLe.trans hF15 hF21) hF47) hF56) (.refl _))) (fun F62 L' v hF63 hv => ?_)
 obtain ⟨s60, rfl, rfl⟩ := hv
 obtain ⟨r64, h65, H⟩ := bind_some H
 refine Lst.call1G rfl rfl rfl hb57 rfl (by decide) (vs := [Sl.v s18, Sl.v s60]) ⟨rfl, rfl, trivial⟩ Try.call30 (slices_Equal_int_int_sim h65 w0 _ _ _ (.refl _) (rdo 2 rfl rfl rfl) (rdo 0 rfl rfl rfl)) ?_
 refine Lst.r (Ev.pickT rfl hb57 rfl) ?_
 refine mv0 rfl ?_
 obtain ⟨o68, H, HKo68⟩ := bind_some H
 refine Lst.join (σ := Bool) 3 (fun y69 => [(57, .bool y69)]) (fun y69 => (.own s60 3 1 (encs r58)) :: (.own s41 34 1 (encs rs42)) :: (.own s18 3 1 (encs r16.1)) :: (.own s9 34 1 (encs rs10)) :: (.blk b1 (enc (PosetR.mk a0 s_a0_1)) 24) :: L) (fun _ y69 => y69 = o68) ?_ ?_
 ·rcases (Bool.eq_false_or_eq_true r64).symm with hb70 | hb70
  ·replace H := ite_f hb70 H
   refine Lst.skip rfl rfl rfl hb70 rfl (by decide) ?_
   refine Lst.skip rfl rfl rfl hb70 rfl (by decide) ?_
   refine Lst.r (Ev.pickF rfl hb70 rfl) ?_
   refine Lst.nil ?_
   exact At.meet false fl ⟨rfl, trivial⟩ rfl (some_inj H)
  replace H := ite_t hb70 H
  refine Lst.rG hb70 (Ev.move rfl) ?_
  refine Lst.rG hb70 (Ev.eql rfl rfl) ?_
  refine Lst.r (Ev.pickT rfl hb70 rfl) ?_
  refine Lst.nil ?_
  exact At.meet (r16.2 == (0 : Int)) fl ⟨rfl, trivial⟩ rfl (some_inj H)
 rintro F71 y69 hF72 hy
 subst hy
 refine Lst.as (e' := [(57, .bool y69)]) (L' := (.own s60 3 1 (encs r58)) :: (.own s41 34 1 (encs rs42)) :: (.own s18 3 1 (encs r16.1)) :: (.own s9 34 1 (encs rs10)) :: (.blk b1 (enc (PosetR.mk a0 s_a0_1)) 24) :: L) ⟨rfl, trivial⟩ rfl ?_
 replace H := HKo68
 refine Lst.r (Ev.assign rfl) ?_
 refine nt0 ?_
 obtain rfl := some_inj H
 refine Cd.ret ?_
 exact At.ret1 rfl (Res.tmp rfl) (FLe.trans (FLe.trans (FLe.trans (FLe.trans (FLe.trans hF15 hF21) hF47) hF56) hF63) hF72) (sc1 (sc1 (sc1 (sc1 (sc1 (.refl _)))))) ⟨rfl, rfl⟩
end Go.Proofs.Yticifbmaapnfbaa
