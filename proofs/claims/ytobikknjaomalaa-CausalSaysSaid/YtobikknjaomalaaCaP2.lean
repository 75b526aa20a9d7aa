/-
  The functions compute their specs; printed by a program.
-/
import Derived.Test.YtobikknjaomalaaCaP1
namespace Go.Proofs.Ytobikknjaomalaa
open Go.RowKit Enc
set_option linter.unusedVariables false
set_option linter.unusedSimpArgs false
set_option maxRecDepth 20000 in
theorem causal_Hear_sim {fu : Nat} {a0 : Causal} {a1 : Mail} {s_a0_2 : Sl} {r : Causal × (List Mail) × Int} (H : causal_Hear fu a0 a1 = some r) (w0 : World) (F : Frz) (M L : List Item) (hM : M.Sublist L) (hs_a0_2 : Rd w0 F M s_a0_2 a0.Hold) : Ok Try.prog w0 28 [.agg (enc (CausalR.mk a0 s_a0_2)).toArray, .agg (enc a1).toArray] F (L) (fun _ L' v => ∃ (s110 : Sl) (s112 : Sl), v = .tuple #[.agg (enc (CausalR.mk r.1 s110)).toArray, Sl.v s112, .int .i64 r.2.2] ∧ L' = (.own s110 47 8 (encs r.1.Hold)) :: (.own s112 47 8 (encs r.2.1)) :: L) := by
  unfold causal_Hear at H
  refine Ok.enter (m := 2) (n := 102) Try.func28 rfl rfl rfl (by decide) ?_
  refine Cd.env (e' := [(0, .agg (enc (CausalR.mk a0 s_a0_2)).toArray), (1, .agg (enc a1).toArray)]) rfl ?_
  refine Cd.seq ?_
  refine Cd.region ?_
  refine Lst.box rfl rfl (by decide) rfl (cs := enc (CausalR.mk a0 s_a0_2)) rfl (fun b1 => ?_)
  refine Lst.box rfl rfl (by decide) rfl (cs := enc a1) rfl (fun b3 => ?_)
  refine Lst.addNil 47 8 ?_
  refine Lst.alloc (cs := enc (CausalR.mk ({ Causal.zero with Hold := ([] : List Mail) } : Causal) Sl.nil)) rfl rfl (by decide) Try.zeroValue45 rfl (fun b6 => ?_)
  refine Lst.addNil 47 8 ?_
  refine Lst.run rfl rfl (by decide) (Ev.assign rfl) ?_
  refine Lst.run rfl rfl (by decide) (Ev.assign rfl) ?_
  refine Lst.nil ?_
  refine At.then ?_
  refine Cd.seq ?_
  refine Cd.seq ?_
  refine Cd.region ?_
  refine Lst.run rfl rfl (by decide) (Ev.loadA (i := 4) rfl rfl Try.isAgg45 Try.sizeOf45 (ch := enc (CausalR.mk a0 s_a0_2)) (Enc.len _) (Get.here _)) ?_
  obtain ⟨r9, h10, H⟩ := bind_some H
  refine Lst.call1 rfl rfl (by decide) (vs := [.agg (enc (CausalR.mk a0 s_a0_2)).toArray]) ⟨rfl, trivial⟩ Try.call29 (causal_Check_sim h10 w0 _ M _ (List.Sublist.cons _ (List.Sublist.cons _ (List.Sublist.cons _ (List.Sublist.cons _ (List.Sublist.cons _ hM))))) (hs_a0_2.mono (FLe.refl _) (List.Sublist.refl _))) ?_
  refine Lst.run rfl rfl (by decide) (Ev.assign rfl) ?_
  refine Lst.nil ?_
  refine At.then ?_
  refine Cd.seq ?_
  refine Cd.region ?_
  refine Lst.run rfl rfl (by decide) (Ev.move rfl) ?_
  refine Lst.run rfl rfl (by decide) (Ev.neq rfl rfl) ?_
  refine Lst.nil ?_
  refine At.then ?_
  rcases Bool.eq_false_or_eq_true (r9 != (0 : Int)) with hb13 | hb13
  · replace H := ite_t hb13 H
    refine Cd.condT rfl hb13 ?_
    refine Cd.seq ?_
    refine Cd.region ?_
    refine Lst.run rfl rfl (by decide) (Ev.build (v := .agg (enc (CausalR.mk Causal.zero Sl.nil)).toArray) (pv := []) trivial (fun w => by kernel_rfl)) ?_
    refine Lst.run rfl rfl (by decide) (Ev.move rfl) ?_
    refine Lst.store (i := 1) rfl rfl rfl rfl rfl Try.sizeOf45 (vs := enc (CausalR.mk Causal.zero Sl.nil)) rfl (Enc.len _) (Enc.one _) (cs' := enc (CausalR.mk Causal.zero Sl.nil)) (Put.here ((Enc.len _).trans (Enc.len _).symm)) (L' := (.own Sl.nil 47 8 (encs ([] : List Mail))) :: (.blk b6 (enc (CausalR.mk Causal.zero Sl.nil)) 45) :: (.own Sl.nil 47 8 (encs ([] : List Mail))) :: (.blk b3 (enc a1) 47) :: (.blk b1 (enc (CausalR.mk a0 s_a0_2)) 45) :: L) rfl ?_
    refine Lst.addNil 47 8 ?_
    refine Lst.run rfl rfl (by decide) (Ev.assign rfl) ?_
    refine Lst.run rfl rfl (by decide) (Ev.assign rfl) ?_
    refine Lst.nil ?_
    refine At.then ?_
    obtain rfl := some_inj H
    refine Cd.ret ?_
    refine At.then_ret ?_
    refine At.addNil 47 8 ?_
    exact At.ret3 rfl (Res.cellA (i := 3) rfl rfl Try.isAgg45 Try.sizeOf45 (Enc.len _)) (Res.tmp rfl) (Res.tmp rfl) (FLe.refl _) (List.Sublist.cons_cons _ (List.Sublist.cons_cons _ (List.Sublist.cons _ (List.Sublist.cons _ (List.Sublist.cons _ (List.Sublist.cons _ (List.Sublist.cons _ (List.Sublist.refl _)))))))) ⟨Sl.nil, Sl.nil, rfl, rfl⟩
  replace H := ite_f hb13 H
  refine Cd.condF rfl hb13 ?_
  refine Cd.skip ?_
  refine At.then ?_
  refine Cd.seq ?_
  refine Cd.seq ?_
  refine Cd.region ?_
  refine Lst.run rfl rfl (by decide) (Ev.loadA (i := 3) rfl rfl Try.isAgg47 Try.sizeOf47 (ch := enc a1) (Enc.len _) (Get.here _)) ?_
  obtain ⟨r16, h17, H⟩ := bind_some H
  refine Lst.call1 rfl rfl (by decide) (vs := [.agg (enc a1).toArray]) ⟨rfl, trivial⟩ Try.call105 (causal_formed_sim h17 w0 _ M _ (List.Sublist.cons _ (List.Sublist.cons _ (List.Sublist.cons _ (List.Sublist.cons _ (List.Sublist.cons _ hM)))))) ?_
  refine Lst.run rfl rfl (by decide) (Ev.not rfl) ?_
  refine Lst.nil ?_
  refine At.then ?_
  rcases Bool.eq_false_or_eq_true (!r16) with hb20 | hb20
  · replace H := ite_t hb20 H
    refine Cd.condT rfl hb20 ?_
    refine Cd.seq ?_
    refine Cd.region ?_
    refine Lst.run rfl rfl (by decide) (Ev.build (v := .agg (enc (CausalR.mk Causal.zero Sl.nil)).toArray) (pv := []) trivial (fun w => by kernel_rfl)) ?_
    refine Lst.store (i := 1) rfl rfl rfl rfl rfl Try.sizeOf45 (vs := enc (CausalR.mk Causal.zero Sl.nil)) rfl (Enc.len _) (Enc.one _) (cs' := enc (CausalR.mk Causal.zero Sl.nil)) (Put.here ((Enc.len _).trans (Enc.len _).symm)) (L' := (.own Sl.nil 47 8 (encs ([] : List Mail))) :: (.blk b6 (enc (CausalR.mk Causal.zero Sl.nil)) 45) :: (.own Sl.nil 47 8 (encs ([] : List Mail))) :: (.blk b3 (enc a1) 47) :: (.blk b1 (enc (CausalR.mk a0 s_a0_2)) 45) :: L) rfl ?_
    refine Lst.addNil 47 8 ?_
    refine Lst.run rfl rfl (by decide) (Ev.assign rfl) ?_
    refine Lst.run rfl rfl (by decide) (Ev.assign rfl) ?_
    refine Lst.nil ?_
    refine At.then ?_
    obtain rfl := some_inj H
    refine Cd.ret ?_
    refine At.then_ret ?_
    refine At.addNil 47 8 ?_
    exact At.ret3 rfl (Res.cellA (i := 3) rfl rfl Try.isAgg45 Try.sizeOf45 (Enc.len _)) (Res.tmp rfl) (Res.tmp rfl) (FLe.refl _) (List.Sublist.cons_cons _ (List.Sublist.cons_cons _ (List.Sublist.cons _ (List.Sublist.cons _ (List.Sublist.cons _ (List.Sublist.cons _ (List.Sublist.cons _ (List.Sublist.refl _)))))))) ⟨Sl.nil, Sl.nil, rfl, rfl⟩
  replace H := ite_f hb20 H
  refine Cd.condF rfl hb20 ?_
  refine Cd.skip ?_
  refine At.then ?_
  refine Cd.seq ?_
  refine Cd.region ?_
  refine Lst.run rfl rfl (by decide) (Ev.loadA (i := 4) rfl rfl Try.isAgg45 Try.sizeOf45 (ch := enc (CausalR.mk a0 s_a0_2)) (Enc.len _) (Get.here _)) ?_
  obtain ⟨r23, h24, H⟩ := bind_some H
  refine Lst.call rfl rfl (by decide) (vs := [.agg (enc (CausalR.mk a0 s_a0_2)).toArray]) ⟨rfl, trivial⟩ Try.call104 (causal_clone_sim h24 w0 _ M _ (List.Sublist.cons _ (List.Sublist.cons _ (List.Sublist.cons _ (List.Sublist.cons _ (List.Sublist.cons _ hM))))) (hs_a0_2.mono (FLe.refl _) (List.Sublist.refl _))) (fun F27 L' v hF28 hv => ?_)
  obtain ⟨s25, rfl, rfl⟩ := hv
  refine Lst.addNil 47 8 ?_
  refine Lst.alloc (cs := enc (CausalR.mk ({ Causal.zero with Hold := ([] : List Mail) } : Causal) Sl.nil)) rfl rfl (by decide) Try.zeroValue45 rfl (fun b30 => ?_)
  refine Lst.store (i := 0) rfl rfl rfl rfl rfl Try.sizeOf45 (vs := enc (CausalR.mk r23 s25)) rfl (Enc.len _) (Enc.one _) (cs' := enc (CausalR.mk r23 s25)) (Put.here ((Enc.len _).trans (Enc.len _).symm)) (L' := (.blk b30 (enc (CausalR.mk r23 s25)) 45) :: (.own Sl.nil 47 8 (encs ([] : List Mail))) :: (.own s25 47 8 (encs r23.Hold)) :: (.own Sl.nil 47 8 (encs ([] : List Mail))) :: (.blk b6 (enc (CausalR.mk ({ Causal.zero with Hold := ([] : List Mail) } : Causal) Sl.nil)) 45) :: (.own Sl.nil 47 8 (encs ([] : List Mail))) :: (.blk b3 (enc a1) 47) :: (.blk b1 (enc (CausalR.mk a0 s_a0_2)) 45) :: L) rfl ?_
  refine Lst.nil ?_
  refine At.then ?_
  refine Cd.seq ?_
  refine Cd.seq ?_
  refine Cd.quiet (by kernel_rfl) (by kernel_rfl) ?_
  refine Qt.run rfl rfl (by decide) (Ev.fieldAddr (off' := 0) rfl Try.runUnderlying47 rfl Try.sizeOf3 rfl rfl) ?_
  refine Qt.run rfl rfl (by decide) (Ev.load (i := 6) rfl rfl Try.isAgg3 (v := .int .i64 a1.From) ((Mail.get_From (Get.here _)).off (by rfl))) ?_
  refine Qt.run rfl rfl (by decide) (Ev.fieldAddr (off' := 0) rfl Try.runUnderlying45 rfl Try.sizeOf3 rfl rfl) ?_
  refine Qt.run rfl rfl (by decide) (Ev.load (i := 7) rfl rfl Try.isAgg3 (v := .int .i64 a0.Me) ((CausalR.get_Me (Get.here _)).off (by rfl))) ?_
  refine Qt.run rfl rfl (by decide) (Ev.eql rfl rfl) ?_
  refine Qt.run rfl rfl (by decide) (Ev.move rfl) ?_
  obtain ⟨o32, H, HKo32⟩ := bind_some H
  refine Qt.join (σ := Bool) 12 (fun y33 => [(2, .pointer (some ⟨b1, 0, none⟩)), (3, .pointer (some ⟨b3, 0, none⟩)), (4, .pointer (some ⟨b6, 0, none⟩)), (8, .pointer (some ⟨b30, 0, none⟩)), (40, .bool y33)]) (fun y33 => y33 = o32) ?_ ?_
  · rcases Bool.eq_false_or_eq_true (a1.From == a0.Me) with hb34 | hb34
    · replace H := ite_t hb34 H
      refine Qt.skip rfl rfl rfl hb34 rfl (by decide) ?_
      refine Qt.skip rfl rfl rfl hb34 rfl (by decide) ?_
      refine Qt.skip rfl rfl rfl hb34 rfl (by decide) ?_
      refine Qt.skip rfl rfl rfl hb34 rfl (by decide) ?_
      refine Qt.skip rfl rfl rfl hb34 rfl (by decide) ?_
      refine Qt.skip rfl rfl rfl hb34 rfl (by decide) ?_
      refine Qt.skip rfl rfl rfl hb34 rfl (by decide) ?_
      refine Qt.skip rfl rfl rfl hb34 rfl (by decide) ?_
      refine Qt.skip rfl rfl rfl hb34 rfl (by decide) ?_
      refine Qt.skip rfl rfl rfl hb34 rfl (by decide) ?_
      refine Qt.skip rfl rfl rfl hb34 rfl (by decide) ?_
      refine Qt.run rfl rfl (by decide) (Ev.pickT rfl hb34 rfl) ?_
      exact Qt.meet true ⟨rfl, rfl, rfl, rfl, rfl, trivial⟩ (some_inj H)
    replace H := ite_f hb34 H
    refine Qt.runG rfl rfl rfl hb34 rfl (by decide) (Ev.fieldAddr (off' := 0) rfl Try.runUnderlying47 rfl Try.sizeOf3 rfl rfl) ?_
    refine Qt.runG rfl rfl rfl hb34 rfl (by decide) (Ev.load (i := 6) rfl rfl Try.isAgg3 (v := .int .i64 a1.From) ((Mail.get_From (Get.here _)).off (by rfl))) ?_
    refine Qt.runG rfl rfl rfl hb34 rfl (by decide) (Ev.fieldAddr (off' := 1) rfl Try.runUnderlying47 rfl Try.sizeOf23 rfl rfl) ?_
    obtain ⟨x35, h36, H⟩ := bind_some H
    have g37 := vat_some h36
    refine Qt.runG rfl rfl rfl hb34 rfl (by decide) (Ev.indexAddr (off' := 1 + a1.From.toNat * 1) rfl rfl Try.runUnderlying23 Try.sizeOf3 g37.1 g37.2.1 rfl) ?_
    refine Qt.runG rfl rfl rfl hb34 rfl (by decide) (Ev.load (i := 6) rfl rfl Try.isAgg3 (v := .int .i64 x35) ((Mail.get_At (Get.vecN (s := 1) (x := x35) rfl g37.2.2 (Get.here _))).off (by omega))) ?_
    refine Qt.runG rfl rfl rfl hb34 rfl (by decide) (Ev.fieldAddr (off' := 0) rfl Try.runUnderlying47 rfl Try.sizeOf3 rfl rfl) ?_
    refine Qt.runG rfl rfl rfl hb34 rfl (by decide) (Ev.load (i := 6) rfl rfl Try.isAgg3 (v := .int .i64 a1.From) ((Mail.get_From (Get.here _)).off (by rfl))) ?_
    refine Qt.runG rfl rfl rfl hb34 rfl (by decide) (Ev.fieldAddr (off' := 1) rfl Try.runUnderlying45 rfl Try.sizeOf23 rfl rfl) ?_
    obtain ⟨x38, h39, H⟩ := bind_some H
    have g40 := vat_some h39
    refine Qt.runG rfl rfl rfl hb34 rfl (by decide) (Ev.indexAddr (off' := 1 + a1.From.toNat * 1) rfl rfl Try.runUnderlying23 Try.sizeOf3 g40.1 g40.2.1 rfl) ?_
    refine Qt.runG rfl rfl rfl hb34 rfl (by decide) (Ev.load (i := 7) rfl rfl Try.isAgg3 (v := .int .i64 x38) ((CausalR.get_Seen (Get.vecN (s := 1) (x := x38) rfl g40.2.2 (Get.here _))).off (by omega))) ?_
    refine Qt.runG rfl rfl rfl hb34 rfl (by decide) (Ev.leq rfl rfl) ?_
    refine Qt.run rfl rfl (by decide) (Ev.pickF rfl hb34 rfl) ?_
    exact Qt.meet (decide (x35 ≤ x38)) ⟨rfl, rfl, rfl, rfl, rfl, trivial⟩ (some_inj H)
  rintro y33 hy
  subst hy
  refine Qt.as (e' := [(2, .pointer (some ⟨b1, 0, none⟩)), (3, .pointer (some ⟨b3, 0, none⟩)), (4, .pointer (some ⟨b6, 0, none⟩)), (8, .pointer (some ⟨b30, 0, none⟩)), (40, .bool y33)]) ⟨rfl, rfl, rfl, rfl, rfl, trivial⟩ ?_
  replace H := HKo32
  refine Qt.run rfl rfl (by decide) (Ev.move rfl) ?_
  obtain ⟨o41, H, HKo41⟩ := bind_some H
  refine Qt.join (σ := Bool) 5 (fun y42 => [(2, .pointer (some ⟨b1, 0, none⟩)), (3, .pointer (some ⟨b3, 0, none⟩)), (4, .pointer (some ⟨b6, 0, none⟩)), (8, .pointer (some ⟨b30, 0, none⟩)), (46, .bool y42)]) (fun y42 => y42 = o41) ?_ ?_
  · rcases Bool.eq_false_or_eq_true y33 with hb43 | hb43
    · replace H := ite_t hb43 H
      refine Qt.skip rfl rfl rfl hb43 rfl (by decide) ?_
      refine Qt.skip rfl rfl rfl hb43 rfl (by decide) ?_
      refine Qt.skip rfl rfl rfl hb43 rfl (by decide) ?_
      refine Qt.skip rfl rfl rfl hb43 rfl (by decide) ?_
      refine Qt.run rfl rfl (by decide) (Ev.pickT rfl hb43 rfl) ?_
      exact Qt.meet true ⟨rfl, rfl, rfl, rfl, rfl, trivial⟩ (some_inj H)
    replace H := ite_f hb43 H
    refine Qt.runG rfl rfl rfl hb43 rfl (by decide) (Ev.fieldAddr (off' := 7) rfl Try.runUnderlying45 rfl Try.sizeOf43 rfl rfl) ?_
    refine Qt.runG rfl rfl rfl hb43 rfl (by decide) (Ev.load (i := 7) rfl rfl Try.isAgg43 (v := Sl.v s_a0_2) ((CausalR.get_Hold (Get.here _)).off (by rfl))) ?_
    refine Qt.runG rfl rfl rfl hb43 rfl (by decide) (Ev.makeFunc (us := []) (vs := [.pointer (some ⟨b3, 0, none⟩)]) trivial ⟨rfl, trivial⟩) ?_
    obtain ⟨r44, h45, H⟩ := bind_some H
    refine Qt.callG rfl rfl rfl hb43 rfl (by decide) (vs := [Sl.v s_a0_2, .func (.func 106) #[] #[.pointer (some ⟨b3, 0, none⟩)]]) ⟨rfl, rfl, trivial⟩ Try.call101 (Ok.isPerm (front_perm (i := 6) rfl) (slices_ContainsFunc_api_Mail_api_Mail_Hear_1_sim h45 w0 _ M _ (List.Sublist.cons _ (List.Sublist.cons _ (List.Sublist.cons _ (List.Sublist.cons _ (List.Sublist.cons _ (List.Sublist.cons _ (List.Sublist.cons _ hM))))))) (hs_a0_2.mono hF28 (List.Sublist.refl _)))) ?_
    refine Qt.run rfl rfl (by decide) (Ev.pickF rfl hb43 rfl) ?_
    exact Qt.meet r44 ⟨rfl, rfl, rfl, rfl, rfl, trivial⟩ (some_inj H)
  rintro y42 hy
  subst hy
  refine Qt.as (e' := [(2, .pointer (some ⟨b1, 0, none⟩)), (3, .pointer (some ⟨b3, 0, none⟩)), (4, .pointer (some ⟨b6, 0, none⟩)), (8, .pointer (some ⟨b30, 0, none⟩)), (46, .bool y42)]) ⟨rfl, rfl, rfl, rfl, rfl, trivial⟩ ?_
  replace H := HKo41
  refine Qt.done ?_
  refine At.then ?_
  rcases Bool.eq_false_or_eq_true y42 with hb48 | hb48
  · replace H := ite_t hb48 H
    refine Cd.condT rfl hb48 ?_
    refine Cd.seq ?_
    refine Cd.region ?_
    refine Lst.run rfl rfl (by decide) (Ev.loadA (i := 0) rfl rfl Try.isAgg45 Try.sizeOf45 (ch := enc (CausalR.mk r23 s25)) (Enc.len _) (Get.here _)) ?_
    refine Lst.store (i := 4) rfl rfl rfl rfl rfl Try.sizeOf45 (vs := enc (CausalR.mk r23 s25)) rfl (Enc.len _) (Enc.one _) (cs' := enc (CausalR.mk r23 s25)) (Put.here ((Enc.len _).trans (Enc.len _).symm)) (L' := (.blk b30 (enc (CausalR.mk r23 s25)) 45) :: (.own Sl.nil 47 8 (encs ([] : List Mail))) :: (.own s25 47 8 (encs r23.Hold)) :: (.own Sl.nil 47 8 (encs ([] : List Mail))) :: (.blk b6 (enc (CausalR.mk r23 s25)) 45) :: (.own Sl.nil 47 8 (encs ([] : List Mail))) :: (.blk b3 (enc a1) 47) :: (.blk b1 (enc (CausalR.mk a0 s_a0_2)) 45) :: L) rfl ?_
    refine Lst.addNil 47 8 ?_
    refine Lst.run rfl rfl (by decide) (Ev.assign rfl) ?_
    refine Lst.run rfl rfl (by decide) (Ev.assign rfl) ?_
    refine Lst.nil ?_
    refine At.then ?_
    obtain rfl := some_inj H
    refine Cd.ret ?_
    refine At.then_ret ?_
    refine At.front (i := 3) rfl rfl ?_
    exact At.ret3 rfl (Res.cellA (i := 5) rfl rfl Try.isAgg45 Try.sizeOf45 (Enc.len _)) (Res.tmp rfl) (Res.tmp rfl) hF28 (List.Sublist.cons_cons _ (List.Sublist.cons_cons _ (List.Sublist.cons _ (List.Sublist.cons _ (List.Sublist.cons _ (List.Sublist.cons _ (List.Sublist.cons _ (List.Sublist.cons _ (List.Sublist.cons _ (List.Sublist.refl _)))))))))) ⟨s25, Sl.nil, rfl, rfl⟩
  replace H := ite_f hb48 H
  refine Cd.condF rfl hb48 ?_
  refine Cd.skip ?_
  refine At.then ?_
  refine Cd.seq ?_
  refine Cd.seq ?_
  refine Cd.region ?_
  refine Lst.run rfl rfl (by decide) (Ev.fieldAddr (off' := 1) rfl Try.runUnderlying45 rfl Try.sizeOf23 rfl rfl) ?_
  refine Lst.run rfl rfl (by decide) (Ev.loadA (i := 7) rfl rfl Try.isAgg23 Try.sizeOf23 (ch := enc a0.Seen) (Enc.len _) ((CausalR.get_Seen (Get.here _)).off (by rfl))) ?_
  refine Lst.run rfl rfl (by decide) (Ev.loadA (i := 6) rfl rfl Try.isAgg47 Try.sizeOf47 (ch := enc a1) (Enc.len _) (Get.here _)) ?_
  obtain ⟨r50, h51, H⟩ := bind_some H
  refine Lst.call1 rfl rfl (by decide) (vs := [.agg (enc a0.Seen).toArray, .agg (enc a1).toArray]) ⟨rfl, rfl, trivial⟩ Try.call108 (causal_deliverable_sim h51 w0 _ M _ (List.Sublist.cons _ (List.Sublist.cons _ (List.Sublist.cons _ (List.Sublist.cons _ (List.Sublist.cons _ (List.Sublist.cons _ (List.Sublist.cons _ (List.Sublist.cons _ hM))))))))) ?_
  refine Lst.run rfl rfl (by decide) (Ev.not rfl) ?_
  refine Lst.nil ?_
  refine At.then ?_
  rcases Bool.eq_false_or_eq_true (!r50) with hb54 | hb54
  · replace H := ite_t hb54 H
    refine Cd.condT rfl hb54 ?_
    refine Cd.seq ?_
    refine Cd.seq ?_
    refine Cd.region ?_
    refine Lst.run rfl rfl (by decide) (Ev.fieldAddr (off' := 7) rfl Try.runUnderlying45 rfl Try.sizeOf43 rfl rfl) ?_
    refine Lst.run rfl rfl (by decide) (Ev.load (i := 7) rfl rfl Try.isAgg43 (v := Sl.v s_a0_2) ((CausalR.get_Hold (Get.here _)).off (by rfl))) ?_
    refine Lst.run rfl rfl (by decide) (Ev.lenS (α := Mail) (xs := a0.Hold) (by decide) rfl rfl Try.runUnderlying43 (hs_a0_2.mono hF28 (List.Sublist.cons _ (List.Sublist.cons _ (List.Sublist.cons _ (List.Sublist.cons _ (List.Sublist.cons _ (List.Sublist.cons _ (List.Sublist.cons _ (List.Sublist.cons _ hM)))))))))) ?_
    refine Lst.run rfl rfl (by decide) (Ev.eql rfl rfl) ?_
    refine Lst.nil ?_
    refine At.then ?_
    rcases Bool.eq_false_or_eq_true ((a0.Hold.length : Int) == (40 : Int)) with hb55 | hb55
    · replace H := ite_t hb55 H
      refine Cd.condT rfl hb55 ?_
      refine Cd.seq ?_
      refine Cd.region ?_
      refine Lst.run rfl rfl (by decide) (Ev.build (v := .agg (enc (CausalR.mk Causal.zero Sl.nil)).toArray) (pv := []) trivial (fun w => by kernel_rfl)) ?_
      refine Lst.store (i := 4) rfl rfl rfl rfl rfl Try.sizeOf45 (vs := enc (CausalR.mk Causal.zero Sl.nil)) rfl (Enc.len _) (Enc.one _) (cs' := enc (CausalR.mk Causal.zero Sl.nil)) (Put.here ((Enc.len _).trans (Enc.len _).symm)) (L' := (.blk b30 (enc (CausalR.mk r23 s25)) 45) :: (.own Sl.nil 47 8 (encs ([] : List Mail))) :: (.own s25 47 8 (encs r23.Hold)) :: (.own Sl.nil 47 8 (encs ([] : List Mail))) :: (.blk b6 (enc (CausalR.mk Causal.zero Sl.nil)) 45) :: (.own Sl.nil 47 8 (encs ([] : List Mail))) :: (.blk b3 (enc a1) 47) :: (.blk b1 (enc (CausalR.mk a0 s_a0_2)) 45) :: L) rfl ?_
      refine Lst.addNil 47 8 ?_
      refine Lst.run rfl rfl (by decide) (Ev.assign rfl) ?_
      refine Lst.run rfl rfl (by decide) (Ev.assign rfl) ?_
      refine Lst.nil ?_
      refine At.then ?_
      obtain rfl := some_inj H
      refine Cd.ret ?_
      refine At.then_ret ?_
      refine At.then_ret ?_
      refine At.addNil 47 8 ?_
      exact At.ret3 rfl (Res.cellA (i := 6) rfl rfl Try.isAgg45 Try.sizeOf45 (Enc.len _)) (Res.tmp rfl) (Res.tmp rfl) hF28 (List.Sublist.cons_cons _ (List.Sublist.cons_cons _ (List.Sublist.cons _ (List.Sublist.cons _ (List.Sublist.cons _ (List.Sublist.cons _ (List.Sublist.cons _ (List.Sublist.cons _ (List.Sublist.cons _ (List.Sublist.cons _ (List.Sublist.refl _))))))))))) ⟨Sl.nil, Sl.nil, rfl, rfl⟩
    replace H := ite_f hb55 H
    refine Cd.condF rfl hb55 ?_
    refine Cd.skip ?_
    refine At.then ?_
    refine Cd.seq ?_
    refine Cd.region ?_
    refine Lst.run rfl rfl (by decide) (Ev.fieldAddr (off' := 7) rfl Try.runUnderlying45 rfl Try.sizeOf43 rfl rfl) ?_
    refine Lst.run rfl rfl (by decide) (Ev.load (i := 0) rfl rfl Try.isAgg43 (v := Sl.v s25) ((CausalR.get_Hold (Get.here _)).off (by rfl))) ?_
    refine Lst.run rfl rfl (by decide) (Ev.loadA (i := 6) rfl rfl Try.isAgg47 Try.sizeOf47 (ch := enc a1) (Enc.len _) (Get.here _)) ?_
    refine Lst.buildSlice (α := Mail) (xs := ([a1] : List Mail)) (pv := [(0, .agg (enc a1).toArray)]) rfl rfl (by decide) ⟨rfl, rfl, trivial⟩ (run_buildSlice (α := Mail) (z0 := Mail.zero) (xs := ([a1] : List Mail)) Try.runUnderlying43 Try.sizeOf47 Try.zeroValue47 rfl rfl rfl (by decide) rfl (fill_cons (cs := encs (List.replicate 1 Mail.zero)) (cs' := encs ((List.replicate 1 Mail.zero).set 0 a1)) (vs := enc a1) rfl rfl (Enc.len _) ((Put.elemN (s := 8) (i := 0) (x := Mail.zero) (y := a1) rfl rfl (Put.here ((Enc.len _).trans (Enc.len _).symm))).off rfl) fill_nil)) rfl rfl (by decide) (fun s58 _ => ?_)
    obtain ⟨u60, h61, H⟩ := bind_some H
    refine Lst.append (i := 3) (α := Mail) (xs := r23.Hold) (ys := ([a1] : List Mail)) rfl rfl (by decide) rfl rfl Try.runUnderlying43 Try.typeInfo47 rfl rfl rfl rfl rfl rfl (Rd.own (i := 0) rfl rfl rfl) rfl (room_some h61) rfl (fun s62 => ?_)
    refine Lst.its (L' := (.own s58 47 8 (encs ([a1] : List Mail))) :: (.blk b30 (enc (CausalR.mk r23 s25)) 45) :: (.own Sl.nil 47 8 (encs ([] : List Mail))) :: (.own s62 47 8 (encs (r23.Hold ++ ([a1] : List Mail)))) :: (.own Sl.nil 47 8 (encs ([] : List Mail))) :: (.blk b6 (enc (CausalR.mk ({ Causal.zero with Hold := ([] : List Mail) } : Causal) Sl.nil)) 45) :: (.own Sl.nil 47 8 (encs ([] : List Mail))) :: (.blk b3 (enc a1) 47) :: (.blk b1 (enc (CausalR.mk a0 s_a0_2)) 45) :: L) rfl ?_
    refine Lst.run rfl rfl (by decide) (Ev.fieldAddr (off' := 7) rfl Try.runUnderlying45 rfl Try.sizeOf43 rfl rfl) ?_
    refine Lst.store (i := 1) rfl rfl rfl rfl rfl Try.sizeOf43 (vs := [Sl.v s62]) rfl rfl rfl (cs' := enc (CausalR.mk ({ r23 with Hold := r23.Hold ++ ([a1] : List Mail) } : Causal) s62)) ((CausalR.put_Hold (Put.here (vs := [Sl.v s62]) rfl)).off (by rfl)) (L' := (.own s58 47 8 (encs ([a1] : List Mail))) :: (.blk b30 (enc (CausalR.mk ({ r23 with Hold := r23.Hold ++ ([a1] : List Mail) } : Causal) s62)) 45) :: (.own Sl.nil 47 8 (encs ([] : List Mail))) :: (.own s62 47 8 (encs (r23.Hold ++ ([a1] : List Mail)))) :: (.own Sl.nil 47 8 (encs ([] : List Mail))) :: (.blk b6 (enc (CausalR.mk ({ Causal.zero with Hold := ([] : List Mail) } : Causal) Sl.nil)) 45) :: (.own Sl.nil 47 8 (encs ([] : List Mail))) :: (.blk b3 (enc a1) 47) :: (.blk b1 (enc (CausalR.mk a0 s_a0_2)) 45) :: L) rfl ?_
    refine Lst.nil ?_
    refine At.then ?_
    refine Cd.seq ?_
    refine Cd.as (e' := [(4, .pointer (some ⟨b6, 0, none⟩)), (8, .pointer (some ⟨b30, 0, none⟩))]) (L' := (.own s58 47 8 (encs ([a1] : List Mail))) :: (.blk b30 (enc (CausalR.mk ({ r23 with Hold := r23.Hold ++ ([a1] : List Mail) } : Causal) s62)) 45) :: (.own Sl.nil 47 8 (encs ([] : List Mail))) :: (.own s62 47 8 (encs (r23.Hold ++ ([a1] : List Mail)))) :: (.own Sl.nil 47 8 (encs ([] : List Mail))) :: (.blk b6 (enc (CausalR.mk ({ Causal.zero with Hold := ([] : List Mail) } : Causal) Sl.nil)) 45) :: (.own Sl.nil 47 8 (encs ([] : List Mail))) :: (.blk b3 (enc a1) 47) :: (.blk b1 (enc (CausalR.mk a0 s_a0_2)) 45) :: L) ⟨rfl, rfl, trivial⟩ rfl ?_
    refine Cd.region ?_
    refine Lst.run rfl rfl (by decide) (Ev.loadA (i := 1) rfl rfl Try.isAgg45 Try.sizeOf45 (ch := enc (CausalR.mk ({ r23 with Hold := r23.Hold ++ ([a1] : List Mail) } : Causal) s62)) (Enc.len _) (Get.here _)) ?_
    refine Lst.store (i := 5) rfl rfl rfl rfl rfl Try.sizeOf45 (vs := enc (CausalR.mk ({ r23 with Hold := r23.Hold ++ ([a1] : List Mail) } : Causal) s62)) rfl (Enc.len _) (Enc.one _) (cs' := enc (CausalR.mk ({ r23 with Hold := r23.Hold ++ ([a1] : List Mail) } : Causal) s62)) (Put.here ((Enc.len _).trans (Enc.len _).symm)) (L' := (.own s58 47 8 (encs ([a1] : List Mail))) :: (.blk b30 (enc (CausalR.mk ({ r23 with Hold := r23.Hold ++ ([a1] : List Mail) } : Causal) s62)) 45) :: (.own Sl.nil 47 8 (encs ([] : List Mail))) :: (.own s62 47 8 (encs (r23.Hold ++ ([a1] : List Mail)))) :: (.own Sl.nil 47 8 (encs ([] : List Mail))) :: (.blk b6 (enc (CausalR.mk ({ r23 with Hold := r23.Hold ++ ([a1] : List Mail) } : Causal) s62)) 45) :: (.own Sl.nil 47 8 (encs ([] : List Mail))) :: (.blk b3 (enc a1) 47) :: (.blk b1 (enc (CausalR.mk a0 s_a0_2)) 45) :: L) rfl ?_
    refine Lst.addNil 47 8 ?_
    refine Lst.run rfl rfl (by decide) (Ev.assign rfl) ?_
    refine Lst.run rfl rfl (by decide) (Ev.assign rfl) ?_
    refine Lst.nil ?_
    refine At.then ?_
    obtain rfl := some_inj H
    refine Cd.ret ?_
    refine At.then_ret ?_
    refine At.front (i := 4) rfl rfl ?_
    exact At.ret3 rfl (Res.cellA (i := 6) rfl rfl Try.isAgg45 Try.sizeOf45 (Enc.len _)) (Res.tmp rfl) (Res.tmp rfl) hF28 (List.Sublist.cons_cons _ (List.Sublist.cons_cons _ (List.Sublist.cons _ (List.Sublist.cons _ (List.Sublist.cons _ (List.Sublist.cons _ (List.Sublist.cons _ (List.Sublist.cons _ (List.Sublist.cons _ (List.Sublist.cons _ (List.Sublist.refl _))))))))))) ⟨s62, Sl.nil, rfl, rfl⟩
  replace H := ite_f hb54 H
  refine Cd.condF rfl hb54 ?_
  refine Cd.skip ?_
  refine At.then ?_
  refine Cd.seq ?_
  refine Cd.region ?_
  refine Lst.addNil 47 8 ?_
  refine Lst.run rfl rfl (by decide) (Ev.assign rfl) ?_
  refine Lst.nil ?_
  refine At.then ?_
  refine Cd.seq ?_
  refine Cd.block ?_
  refine Cd.front (i := 8) rfl (L' := (.blk b1 (enc (CausalR.mk a0 s_a0_2)) 45) :: (.own Sl.nil 47 8 (encs ([] : List Mail))) :: (.blk b30 (enc (CausalR.mk r23 s25)) 45) :: (.own Sl.nil 47 8 (encs ([] : List Mail))) :: (.own s25 47 8 (encs r23.Hold)) :: (.own Sl.nil 47 8 (encs ([] : List Mail))) :: (.blk b6 (enc (CausalR.mk ({ Causal.zero with Hold := ([] : List Mail) } : Causal) Sl.nil)) 45) :: (.own Sl.nil 47 8 (encs ([] : List Mail))) :: (.blk b3 (enc a1) 47) :: L) rfl ?_
  refine Cd.front (i := 8) rfl (L' := (.blk b3 (enc a1) 47) :: (.blk b1 (enc (CausalR.mk a0 s_a0_2)) 45) :: (.own Sl.nil 47 8 (encs ([] : List Mail))) :: (.blk b30 (enc (CausalR.mk r23 s25)) 45) :: (.own Sl.nil 47 8 (encs ([] : List Mail))) :: (.own s25 47 8 (encs r23.Hold)) :: (.own Sl.nil 47 8 (encs ([] : List Mail))) :: (.blk b6 (enc (CausalR.mk ({ Causal.zero with Hold := ([] : List Mail) } : Causal) Sl.nil)) 45) :: (.own Sl.nil 47 8 (encs ([] : List Mail))) :: L) rfl ?_
  refine Cd.front (i := 8) rfl (L' := (.own Sl.nil 47 8 (encs ([] : List Mail))) :: (.blk b3 (enc a1) 47) :: (.blk b1 (enc (CausalR.mk a0 s_a0_2)) 45) :: (.own Sl.nil 47 8 (encs ([] : List Mail))) :: (.blk b30 (enc (CausalR.mk r23 s25)) 45) :: (.own Sl.nil 47 8 (encs ([] : List Mail))) :: (.own s25 47 8 (encs r23.Hold)) :: (.own Sl.nil 47 8 (encs ([] : List Mail))) :: (.blk b6 (enc (CausalR.mk ({ Causal.zero with Hold := ([] : List Mail) } : Causal) Sl.nil)) 45) :: L) rfl ?_
  refine Cd.front (i := 8) rfl (L' := (.blk b6 (enc (CausalR.mk ({ Causal.zero with Hold := ([] : List Mail) } : Causal) Sl.nil)) 45) :: (.own Sl.nil 47 8 (encs ([] : List Mail))) :: (.blk b3 (enc a1) 47) :: (.blk b1 (enc (CausalR.mk a0 s_a0_2)) 45) :: (.own Sl.nil 47 8 (encs ([] : List Mail))) :: (.blk b30 (enc (CausalR.mk r23 s25)) 45) :: (.own Sl.nil 47 8 (encs ([] : List Mail))) :: (.own s25 47 8 (encs r23.Hold)) :: (.own Sl.nil 47 8 (encs ([] : List Mail))) :: L) rfl ?_
  refine Cd.front (i := 8) rfl (L' := (.own Sl.nil 47 8 (encs ([] : List Mail))) :: (.blk b6 (enc (CausalR.mk ({ Causal.zero with Hold := ([] : List Mail) } : Causal) Sl.nil)) 45) :: (.own Sl.nil 47 8 (encs ([] : List Mail))) :: (.blk b3 (enc a1) 47) :: (.blk b1 (enc (CausalR.mk a0 s_a0_2)) 45) :: (.own Sl.nil 47 8 (encs ([] : List Mail))) :: (.blk b30 (enc (CausalR.mk r23 s25)) 45) :: (.own Sl.nil 47 8 (encs ([] : List Mail))) :: (.own s25 47 8 (encs r23.Hold)) :: L) rfl ?_
  refine Cd.front (i := 7) rfl (L' := (.own Sl.nil 47 8 (encs ([] : List Mail))) :: (.own Sl.nil 47 8 (encs ([] : List Mail))) :: (.blk b6 (enc (CausalR.mk ({ Causal.zero with Hold := ([] : List Mail) } : Causal) Sl.nil)) 45) :: (.own Sl.nil 47 8 (encs ([] : List Mail))) :: (.blk b3 (enc a1) 47) :: (.blk b1 (enc (CausalR.mk a0 s_a0_2)) 45) :: (.own Sl.nil 47 8 (encs ([] : List Mail))) :: (.blk b30 (enc (CausalR.mk r23 s25)) 45) :: (.own s25 47 8 (encs r23.Hold)) :: L) rfl ?_
  refine Cd.front (i := 7) rfl (L' := (.blk b30 (enc (CausalR.mk r23 s25)) 45) :: (.own Sl.nil 47 8 (encs ([] : List Mail))) :: (.own Sl.nil 47 8 (encs ([] : List Mail))) :: (.blk b6 (enc (CausalR.mk ({ Causal.zero with Hold := ([] : List Mail) } : Causal) Sl.nil)) 45) :: (.own Sl.nil 47 8 (encs ([] : List Mail))) :: (.blk b3 (enc a1) 47) :: (.blk b1 (enc (CausalR.mk a0 s_a0_2)) 45) :: (.own Sl.nil 47 8 (encs ([] : List Mail))) :: (.own s25 47 8 (encs r23.Hold)) :: L) rfl ?_
  refine Cd.front (i := 7) rfl (L' := (.own Sl.nil 47 8 (encs ([] : List Mail))) :: (.blk b30 (enc (CausalR.mk r23 s25)) 45) :: (.own Sl.nil 47 8 (encs ([] : List Mail))) :: (.own Sl.nil 47 8 (encs ([] : List Mail))) :: (.blk b6 (enc (CausalR.mk ({ Causal.zero with Hold := ([] : List Mail) } : Causal) Sl.nil)) 45) :: (.own Sl.nil 47 8 (encs ([] : List Mail))) :: (.blk b3 (enc a1) 47) :: (.blk b1 (enc (CausalR.mk a0 s_a0_2)) 45) :: (.own s25 47 8 (encs r23.Hold)) :: L) rfl ?_
  refine Cd.front (i := 8) rfl (L' := (.own s25 47 8 (encs r23.Hold)) :: (.own Sl.nil 47 8 (encs ([] : List Mail))) :: (.blk b30 (enc (CausalR.mk r23 s25)) 45) :: (.own Sl.nil 47 8 (encs ([] : List Mail))) :: (.own Sl.nil 47 8 (encs ([] : List Mail))) :: (.blk b6 (enc (CausalR.mk ({ Causal.zero with Hold := ([] : List Mail) } : Causal) Sl.nil)) 45) :: (.own Sl.nil 47 8 (encs ([] : List Mail))) :: (.blk b3 (enc a1) 47) :: (.blk b1 (enc (CausalR.mk a0 s_a0_2)) 45) :: L) rfl ?_
  obtain ⟨ol65, H, HKl65⟩ := andThen_some H
  refine Cd.loop (σ := Nat × Causal × Sl × Mail × Sl × (List Mail)) (fun (k65, y66, s67, y69, s70, l71) => [(3, .pointer (some ⟨b3, 0, none⟩)), (4, .pointer (some ⟨b6, 0, none⟩)), (8, .pointer (some ⟨b30, 0, none⟩)), (9, Sl.v s70)]) (fun (k65, y66, s67, y69, s70, l71) => (.own s67 47 8 (encs y66.Hold)) :: (.own s70 47 8 (encs l71)) :: (.blk b30 (enc (CausalR.mk y66 s67)) 45) :: (.own Sl.nil 47 8 (encs ([] : List Mail))) :: (.own Sl.nil 47 8 (encs ([] : List Mail))) :: (.blk b6 (enc (CausalR.mk ({ Causal.zero with Hold := ([] : List Mail) } : Causal) Sl.nil)) 45) :: (.own Sl.nil 47 8 (encs ([] : List Mail))) :: (.blk b3 (enc y69) 47) :: (.blk b1 (enc (CausalR.mk a0 s_a0_2)) 45) :: L) (fun _ => (fun (k65, y66, s67, y69, s70, l71) => whileM (causal_Hear_B0) k65 (y66, y69, l71) = some ol65)) (fun (k65, y66, s67, y69, s70, l71) => k65) (fu, r23, s25, a1, Sl.nil, ([] : List Mail)) ⟨rfl, rfl, rfl, rfl, trivial⟩ rfl H ?_
  rintro F72 ⟨k65, y66, s67, y69, s70, l71⟩ hF73 H
  refine Cd.as (e' := [(3, .pointer (some ⟨b3, 0, none⟩)), (4, .pointer (some ⟨b6, 0, none⟩)), (8, .pointer (some ⟨b30, 0, none⟩)), (9, Sl.v s70)]) (L' := (.own s67 47 8 (encs y66.Hold)) :: (.own s70 47 8 (encs l71)) :: (.blk b30 (enc (CausalR.mk y66 s67)) 45) :: (.own Sl.nil 47 8 (encs ([] : List Mail))) :: (.own Sl.nil 47 8 (encs ([] : List Mail))) :: (.blk b6 (enc (CausalR.mk ({ Causal.zero with Hold := ([] : List Mail) } : Causal) Sl.nil)) 45) :: (.own Sl.nil 47 8 (encs ([] : List Mail))) :: (.blk b3 (enc y69) 47) :: (.blk b1 (enc (CausalR.mk a0 s_a0_2)) 45) :: L) ⟨rfl, rfl, rfl, rfl, trivial⟩ rfl ?_
  rcases k65 with _ | k65
  · cases H
  obtain ⟨c65, H, hgo65, hbrk65, hret65⟩ := whileM_go H
  unfold causal_Hear_B0 at H
  try dsimp only at H
  refine Cd.block ?_
  refine Cd.seq ?_
  refine Cd.region ?_
  refine Lst.run rfl rfl (by decide) (Ev.fieldAddr (off' := 0) rfl Try.runUnderlying47 rfl Try.sizeOf3 rfl rfl) ?_
  refine Lst.run rfl rfl (by decide) (Ev.load (i := 7) rfl rfl Try.isAgg3 (v := .int .i64 y69.From) ((Mail.get_From (Get.here _)).off (by rfl))) ?_
  refine Lst.run rfl rfl (by decide) (Ev.fieldAddr (off' := 1) rfl Try.runUnderlying45 rfl Try.sizeOf23 rfl rfl) ?_
  obtain ⟨x74, h75, H⟩ := bind_some H
  have g76 := vat_some h75
  refine Lst.run rfl rfl (by decide) (Ev.indexAddr (off' := 1 + y69.From.toNat * 1) rfl rfl Try.runUnderlying23 Try.sizeOf3 g76.1 g76.2.1 rfl) ?_
  refine Lst.run rfl rfl (by decide) (Ev.load (i := 2) rfl rfl Try.isAgg3 (v := .int .i64 x74) ((CausalR.get_Seen (Get.vecN (s := 1) (x := x74) rfl g76.2.2 (Get.here _))).off (by omega))) ?_
  refine Lst.run rfl rfl (by decide) (Ev.add rfl rfl) ?_
  refine Lst.run rfl rfl (by decide) (Ev.fieldAddr (off' := 1) rfl Try.runUnderlying45 rfl Try.sizeOf23 rfl rfl) ?_
  obtain ⟨x77, h78, H⟩ := bind_some H
  have g79 := vat_some h78
  refine Lst.run rfl rfl (by decide) (Ev.indexAddr (off' := 1 + y69.From.toNat * 1) rfl rfl Try.runUnderlying23 Try.sizeOf3 g79.1 g79.2.1 rfl) ?_
  obtain ⟨p80, h81, H⟩ := Let_some H
  refine Lst.store (i := 2) rfl rfl rfl rfl rfl Try.sizeOf3 (vs := [.int .i64 (w64 (x74 + (1 : Int)))]) rfl rfl rfl (cs' := enc (CausalR.mk ({ y66 with Seen := p80 } : Causal) s67)) (by rw [← h81]; exact (CausalR.put_Seen (Put.vecN (s := 1) (x := x77) rfl g79.2.2 (Put.here (vs := [.int .i64 (w64 (x74 + (1 : Int)))]) rfl))).off (by omega)) (L' := (.own s67 47 8 (encs y66.Hold)) :: (.own s70 47 8 (encs l71)) :: (.blk b30 (enc (CausalR.mk ({ y66 with Seen := p80 } : Causal) s67)) 45) :: (.own Sl.nil 47 8 (encs ([] : List Mail))) :: (.own Sl.nil 47 8 (encs ([] : List Mail))) :: (.blk b6 (enc (CausalR.mk ({ Causal.zero with Hold := ([] : List Mail) } : Causal) Sl.nil)) 45) :: (.own Sl.nil 47 8 (encs ([] : List Mail))) :: (.blk b3 (enc y69) 47) :: (.blk b1 (enc (CausalR.mk a0 s_a0_2)) 45) :: L) rfl ?_
  refine Lst.nil ?_
  refine At.then ?_
  refine Cd.seq ?_
  refine Cd.region ?_
  refine Lst.run rfl rfl (by decide) (Ev.move rfl) ?_
  refine Lst.run rfl rfl (by decide) (Ev.loadA (i := 7) rfl rfl Try.isAgg47 Try.sizeOf47 (ch := enc y69) (Enc.len _) (Get.here _)) ?_
  refine Lst.buildSlice (α := Mail) (xs := ([y69] : List Mail)) (pv := [(0, .agg (enc y69).toArray)]) rfl rfl (by decide) ⟨rfl, rfl, trivial⟩ (run_buildSlice (α := Mail) (z0 := Mail.zero) (xs := ([y69] : List Mail)) Try.runUnderlying43 Try.sizeOf47 Try.zeroValue47 rfl rfl rfl (by decide) rfl (fill_cons (cs := encs (List.replicate 1 Mail.zero)) (cs' := encs ((List.replicate 1 Mail.zero).set 0 y69)) (vs := enc y69) rfl rfl (Enc.len _) ((Put.elemN (s := 8) (i := 0) (x := Mail.zero) (y := y69) rfl rfl (Put.here ((Enc.len _).trans (Enc.len _).symm))).off rfl) fill_nil)) rfl rfl (by decide) (fun s82 _ => ?_)
  obtain ⟨u84, h85, H⟩ := bind_some H
  refine Lst.append (i := 2) (α := Mail) (xs := l71) (ys := ([y69] : List Mail)) rfl rfl (by decide) rfl rfl Try.runUnderlying43 Try.typeInfo47 rfl rfl rfl rfl rfl rfl (Rd.own (i := 0) rfl rfl rfl) rfl (room_some h85) rfl (fun s86 => ?_)
  refine Lst.its (L' := (.own s82 47 8 (encs ([y69] : List Mail))) :: (.own s67 47 8 (encs y66.Hold)) :: (.own s86 47 8 (encs (l71 ++ ([y69] : List Mail)))) :: (.blk b30 (enc (CausalR.mk ({ y66 with Seen := p80 } : Causal) s67)) 45) :: (.own Sl.nil 47 8 (encs ([] : List Mail))) :: (.own Sl.nil 47 8 (encs ([] : List Mail))) :: (.blk b6 (enc (CausalR.mk ({ Causal.zero with Hold := ([] : List Mail) } : Causal) Sl.nil)) 45) :: (.own Sl.nil 47 8 (encs ([] : List Mail))) :: (.blk b3 (enc y69) 47) :: (.blk b1 (enc (CausalR.mk a0 s_a0_2)) 45) :: L) rfl ?_
  refine Lst.run rfl rfl (by decide) (Ev.assign rfl) ?_
  refine Lst.nil ?_
  refine At.then ?_
  refine Cd.seq ?_
  refine Cd.region ?_
  refine Lst.run rfl rfl (by decide) (Ev.fieldAddr (off' := 7) rfl Try.runUnderlying45 rfl Try.sizeOf43 rfl rfl) ?_
  refine Lst.run rfl rfl (by decide) (Ev.load (i := 3) rfl rfl Try.isAgg43 (v := Sl.v s67) ((CausalR.get_Hold (Get.here _)).off (by rfl))) ?_
  refine Lst.run rfl rfl (by decide) (Ev.makeFunc (us := []) (vs := [.pointer (some ⟨b30, 0, none⟩)]) trivial ⟨rfl, trivial⟩) ?_
  obtain ⟨r87, h88, H⟩ := bind_some H
  refine Lst.front (i := 3) rfl (L' := (.blk b30 (enc (CausalR.mk ({ y66 with Seen := p80 } : Causal) s67)) 45) :: (.own s82 47 8 (encs ([y69] : List Mail))) :: (.own s67 47 8 (encs y66.Hold)) :: (.own s86 47 8 (encs (l71 ++ ([y69] : List Mail)))) :: (.own Sl.nil 47 8 (encs ([] : List Mail))) :: (.own Sl.nil 47 8 (encs ([] : List Mail))) :: (.blk b6 (enc (CausalR.mk ({ Causal.zero with Hold := ([] : List Mail) } : Causal) Sl.nil)) 45) :: (.own Sl.nil 47 8 (encs ([] : List Mail))) :: (.blk b3 (enc y69) 47) :: (.blk b1 (enc (CausalR.mk a0 s_a0_2)) 45) :: L) rfl ?_
  refine Lst.call1 rfl rfl (by decide) (vs := [Sl.v s67, .func (.func 110) #[] #[.pointer (some ⟨b30, 0, none⟩)]]) ⟨rfl, rfl, trivial⟩ Try.call109 (slices_IndexFunc_api_Mail_api_Mail_Hear_2_sim h88 w0 _ _ _ (List.Sublist.refl _) (Rd.own (i := 1) rfl rfl rfl) (Rd.own (i := 1) rfl rfl rfl)) ?_
  refine Lst.run rfl rfl (by decide) (Ev.assign rfl) ?_
  refine Lst.nil ?_
  refine At.then ?_
  refine Cd.seq ?_
  refine Cd.seq ?_
  refine Cd.as (e' := [(3, .pointer (some ⟨b3, 0, none⟩)), (4, .pointer (some ⟨b6, 0, none⟩)), (8, .pointer (some ⟨b30, 0, none⟩)), (9, Sl.v s86), (10, .int .i64 r87)]) (L' := (.blk b30 (enc (CausalR.mk ({ y66 with Seen := p80 } : Causal) s67)) 45) :: (.own s82 47 8 (encs ([y69] : List Mail))) :: (.own s67 47 8 (encs y66.Hold)) :: (.own s86 47 8 (encs (l71 ++ ([y69] : List Mail)))) :: (.own Sl.nil 47 8 (encs ([] : List Mail))) :: (.own Sl.nil 47 8 (encs ([] : List Mail))) :: (.blk b6 (enc (CausalR.mk ({ Causal.zero with Hold := ([] : List Mail) } : Causal) Sl.nil)) 45) :: (.own Sl.nil 47 8 (encs ([] : List Mail))) :: (.blk b3 (enc y69) 47) :: (.blk b1 (enc (CausalR.mk a0 s_a0_2)) 45) :: L) ⟨rfl, rfl, rfl, rfl, rfl, trivial⟩ rfl ?_
  refine Cd.region ?_
  refine Lst.run rfl rfl (by decide) (Ev.move rfl) ?_
  refine Lst.run rfl rfl (by decide) (Ev.lss rfl rfl) ?_
  refine Lst.nil ?_
  refine At.then ?_
  rcases Bool.eq_false_or_eq_true (decide (r87 < (0 : Int))) with hb91 | hb91
  · replace H := ite_t hb91 H
    refine Cd.condT rfl hb91 ?_
    refine Cd.exit ?_
    refine At.then_exit ?_
    refine At.in_other rfl ?_
    refine At.then_exit ?_
    refine At.in_exit ?_
    have H := hbrk65 _ (some_inj H).symm
    subst H
    refine At.front (i := 9) rfl rfl ?_
    refine At.front (i := 9) rfl rfl ?_
    refine At.front (i := 9) rfl rfl ?_
    refine At.front (i := 9) rfl rfl ?_
    refine At.front (i := 9) rfl rfl ?_
    refine At.front (i := 9) rfl rfl ?_
    refine At.front (i := 6) rfl rfl ?_
    refine At.front (i := 9) rfl rfl ?_
    refine At.front (i := 9) rfl rfl ?_
    refine At.less (L' := (.own s67 47 8 (encs y66.Hold)) :: (.own s86 47 8 (encs (l71 ++ ([y69] : List Mail)))) :: (.blk b30 (enc (CausalR.mk ({ y66 with Seen := p80 } : Causal) s67)) 45) :: (.own Sl.nil 47 8 (encs ([] : List Mail))) :: (.own Sl.nil 47 8 (encs ([] : List Mail))) :: (.blk b6 (enc (CausalR.mk ({ Causal.zero with Hold := ([] : List Mail) } : Causal) Sl.nil)) 45) :: (.own Sl.nil 47 8 (encs ([] : List Mail))) :: (.blk b3 (enc y69) 47) :: (.blk b1 (enc (CausalR.mk a0 s_a0_2)) 45) :: L) (List.Sublist.cons_cons _ (List.Sublist.cons_cons _ (List.Sublist.cons_cons _ (List.Sublist.cons_cons _ (List.Sublist.cons_cons _ (List.Sublist.cons_cons _ (List.Sublist.cons_cons _ (List.Sublist.cons_cons _ (List.Sublist.cons_cons _ (List.Sublist.cons _ (List.Sublist.refl _))))))))))) ?_
    replace H := HKl65
    refine At.then ?_
    refine Cd.seq ?_
    refine Cd.region ?_
    refine Lst.run rfl rfl (by decide) (Ev.fieldAddr (off' := 7) rfl Try.runUnderlying45 rfl Try.sizeOf43 rfl rfl) ?_
    refine Lst.run rfl rfl (by decide) (Ev.load (i := 2) rfl rfl Try.isAgg43 (v := Sl.v s67) ((CausalR.get_Hold (Get.here _)).off (by rfl))) ?_
    refine Lst.run rfl rfl (by decide) (Ev.makeFunc (us := []) (vs := [.pointer (some ⟨b30, 0, none⟩)]) trivial ⟨rfl, trivial⟩) ?_
    obtain ⟨r92, h93, H⟩ := bind_some H
    refine Lst.front (i := 2) rfl (L' := (.blk b30 (enc (CausalR.mk ({ y66 with Seen := p80 } : Causal) s67)) 45) :: (.own s67 47 8 (encs y66.Hold)) :: (.own s86 47 8 (encs (l71 ++ ([y69] : List Mail)))) :: (.own Sl.nil 47 8 (encs ([] : List Mail))) :: (.own Sl.nil 47 8 (encs ([] : List Mail))) :: (.blk b6 (enc (CausalR.mk ({ Causal.zero with Hold := ([] : List Mail) } : Causal) Sl.nil)) 45) :: (.own Sl.nil 47 8 (encs ([] : List Mail))) :: (.blk b3 (enc y69) 47) :: (.blk b1 (enc (CausalR.mk a0 s_a0_2)) 45) :: L) rfl ?_
    refine Lst.front (i := 1) rfl (L' := (.own s67 47 8 (encs y66.Hold)) :: (.blk b30 (enc (CausalR.mk ({ y66 with Seen := p80 } : Causal) s67)) 45) :: (.own s86 47 8 (encs (l71 ++ ([y69] : List Mail)))) :: (.own Sl.nil 47 8 (encs ([] : List Mail))) :: (.own Sl.nil 47 8 (encs ([] : List Mail))) :: (.blk b6 (enc (CausalR.mk ({ Causal.zero with Hold := ([] : List Mail) } : Causal) Sl.nil)) 45) :: (.own Sl.nil 47 8 (encs ([] : List Mail))) :: (.blk b3 (enc y69) 47) :: (.blk b1 (enc (CausalR.mk a0 s_a0_2)) 45) :: L) rfl ?_
    refine Lst.call rfl rfl (by decide) (vs := [Sl.v s67, .func (.func 113) #[] #[.pointer (some ⟨b30, 0, none⟩)]]) ⟨rfl, rfl, trivial⟩ Try.call112 (slices_DeleteFunc_api_Mail_api_Mail_Hear_3_v2_sim h93 w0 _ M _ (List.Sublist.cons _ (List.Sublist.cons _ (List.Sublist.cons _ (List.Sublist.cons _ (List.Sublist.cons _ (List.Sublist.cons _ (List.Sublist.cons _ hM)))))))) (fun F96 L' v hF97 hv => ?_)
    obtain ⟨s94, rfl, rfl⟩ := hv
    refine Lst.run rfl rfl (by decide) (Ev.fieldAddr (off' := 7) rfl Try.runUnderlying45 rfl Try.sizeOf43 rfl rfl) ?_
    refine Lst.store (i := 1) rfl rfl rfl rfl rfl Try.sizeOf43 (vs := [Sl.v s94]) rfl rfl rfl (cs' := enc (CausalR.mk ({ y66 with Seen := p80, Hold := r92 } : Causal) s94)) ((CausalR.put_Hold (Put.here (vs := [Sl.v s94]) rfl)).off (by rfl)) (L' := (.own s94 47 8 (encs r92)) :: (.blk b30 (enc (CausalR.mk ({ y66 with Seen := p80, Hold := r92 } : Causal) s94)) 45) :: (.own s86 47 8 (encs (l71 ++ ([y69] : List Mail)))) :: (.own Sl.nil 47 8 (encs ([] : List Mail))) :: (.own Sl.nil 47 8 (encs ([] : List Mail))) :: (.blk b6 (enc (CausalR.mk ({ Causal.zero with Hold := ([] : List Mail) } : Causal) Sl.nil)) 45) :: (.own Sl.nil 47 8 (encs ([] : List Mail))) :: (.blk b3 (enc y69) 47) :: (.blk b1 (enc (CausalR.mk a0 s_a0_2)) 45) :: L) rfl ?_
    refine Lst.nil ?_
    refine At.then ?_
    refine Cd.seq ?_
    refine Cd.region ?_
    refine Lst.run rfl rfl (by decide) (Ev.loadA (i := 1) rfl rfl Try.isAgg45 Try.sizeOf45 (ch := enc (CausalR.mk ({ y66 with Seen := p80, Hold := r92 } : Causal) s94)) (Enc.len _) (Get.here _)) ?_
    refine Lst.run rfl rfl (by decide) (Ev.move rfl) ?_
    refine Lst.store (i := 5) rfl rfl rfl rfl rfl Try.sizeOf45 (vs := enc (CausalR.mk ({ y66 with Seen := p80, Hold := r92 } : Causal) s94)) rfl (Enc.len _) (Enc.one _) (cs' := enc (CausalR.mk ({ y66 with Seen := p80, Hold := r92 } : Causal) s94)) (Put.here ((Enc.len _).trans (Enc.len _).symm)) (L' := (.own s94 47 8 (encs r92)) :: (.blk b30 (enc (CausalR.mk ({ y66 with Seen := p80, Hold := r92 } : Causal) s94)) 45) :: (.own s86 47 8 (encs (l71 ++ ([y69] : List Mail)))) :: (.own Sl.nil 47 8 (encs ([] : List Mail))) :: (.own Sl.nil 47 8 (encs ([] : List Mail))) :: (.blk b6 (enc (CausalR.mk ({ y66 with Seen := p80, Hold := r92 } : Causal) s94)) 45) :: (.own Sl.nil 47 8 (encs ([] : List Mail))) :: (.blk b3 (enc y69) 47) :: (.blk b1 (enc (CausalR.mk a0 s_a0_2)) 45) :: L) rfl ?_
    refine Lst.run rfl rfl (by decide) (Ev.assign rfl) ?_
    refine Lst.run rfl rfl (by decide) (Ev.assign rfl) ?_
    refine Lst.nil ?_
    refine At.then ?_
    obtain rfl := some_inj H
    refine Cd.ret ?_
    exact At.ret3 rfl (Res.cellA (i := 5) rfl rfl Try.isAgg45 Try.sizeOf45 (Enc.len _)) (Res.tmp rfl) (Res.tmp rfl) (FLe.trans (FLe.trans hF28 hF73) hF97) (List.Sublist.cons_cons _ (List.Sublist.cons _ (List.Sublist.cons_cons _ (List.Sublist.cons _ (List.Sublist.cons _ (List.Sublist.cons _ (List.Sublist.cons _ (List.Sublist.cons _ (List.Sublist.cons _ (List.Sublist.refl _)))))))))) ⟨s94, s86, rfl, rfl⟩
  replace H := ite_f hb91 H
  refine Cd.condF rfl hb91 ?_
  refine Cd.skip ?_
  refine At.then ?_
  refine Cd.seq ?_
  refine Cd.region ?_
  refine Lst.run rfl rfl (by decide) (Ev.fieldAddr (off' := 7) rfl Try.runUnderlying45 rfl Try.sizeOf43 rfl rfl) ?_
  refine Lst.run rfl rfl (by decide) (Ev.load (i := 0) rfl rfl Try.isAgg43 (v := Sl.v s67) ((CausalR.get_Hold (Get.here _)).off (by rfl))) ?_
  refine Lst.run rfl rfl (by decide) (Ev.move rfl) ?_
  obtain ⟨x98, h99, H⟩ := bind_some H
  have g100 := lat_some h99
  refine Lst.run rfl rfl (by decide) (Ev.indexS (α := Mail) (xs := y66.Hold) rfl rfl Try.runUnderlying43 Try.sizeOf47 rfl (by decide) (Rd.own (i := 2) rfl rfl rfl) g100.1 g100.2.1) ?_
  refine Lst.run rfl rfl (by decide) (Ev.loadSA (α := Mail) rfl (Rd.own (i := 2) rfl rfl rfl) Try.isAgg47 Try.sizeOf47 (ch := enc x98) (Enc.len _) (by decide) ((Get.elemN (s := 8) (x := x98) rfl g100.2.2 (Get.here _)).off (by omega))) ?_
  refine Lst.store (i := 8) rfl rfl rfl rfl rfl Try.sizeOf47 (vs := enc x98) rfl (Enc.len _) (Enc.one _) (cs' := enc x98) (Put.here ((Enc.len _).trans (Enc.len _).symm)) (L' := (.blk b30 (enc (CausalR.mk ({ y66 with Seen := p80 } : Causal) s67)) 45) :: (.own s82 47 8 (encs ([y69] : List Mail))) :: (.own s67 47 8 (encs y66.Hold)) :: (.own s86 47 8 (encs (l71 ++ ([y69] : List Mail)))) :: (.own Sl.nil 47 8 (encs ([] : List Mail))) :: (.own Sl.nil 47 8 (encs ([] : List Mail))) :: (.blk b6 (enc (CausalR.mk ({ Causal.zero with Hold := ([] : List Mail) } : Causal) Sl.nil)) 45) :: (.own Sl.nil 47 8 (encs ([] : List Mail))) :: (.blk b3 (enc x98) 47) :: (.blk b1 (enc (CausalR.mk a0 s_a0_2)) 45) :: L) rfl ?_
  refine Lst.nil ?_
  refine At.then ?_
  refine Cd.region ?_
  refine Lst.run rfl rfl (by decide) (Ev.fieldAddr (off' := 7) rfl Try.runUnderlying45 rfl Try.sizeOf43 rfl rfl) ?_
  refine Lst.run rfl rfl (by decide) (Ev.load (i := 0) rfl rfl Try.isAgg43 (v := Sl.v s67) ((CausalR.get_Hold (Get.here _)).off (by rfl))) ?_
  refine Lst.run rfl rfl (by decide) (Ev.move rfl) ?_
  refine Lst.run rfl rfl (by decide) (Ev.move rfl) ?_
  refine Lst.run rfl rfl (by decide) (Ev.add rfl rfl) ?_
  obtain ⟨r101, h102, H⟩ := bind_some H
  refine Lst.front (i := 2) rfl (L' := (.own s67 47 8 (encs y66.Hold)) :: (.blk b30 (enc (CausalR.mk ({ y66 with Seen := p80 } : Causal) s67)) 45) :: (.own s82 47 8 (encs ([y69] : List Mail))) :: (.own s86 47 8 (encs (l71 ++ ([y69] : List Mail)))) :: (.own Sl.nil 47 8 (encs ([] : List Mail))) :: (.own Sl.nil 47 8 (encs ([] : List Mail))) :: (.blk b6 (enc (CausalR.mk ({ Causal.zero with Hold := ([] : List Mail) } : Causal) Sl.nil)) 45) :: (.own Sl.nil 47 8 (encs ([] : List Mail))) :: (.blk b3 (enc x98) 47) :: (.blk b1 (enc (CausalR.mk a0 s_a0_2)) 45) :: L) rfl ?_
  refine Lst.call rfl rfl (by decide) (vs := [Sl.v s67, .int .i64 r87, .int .i64 (w64 (r87 + (1 : Int)))]) ⟨rfl, rfl, rfl, trivial⟩ Try.call111 (slices_Delete_api_Mail_api_Mail_sim h102 w0 _ M _ (List.Sublist.cons _ (List.Sublist.cons _ (List.Sublist.cons _ (List.Sublist.cons _ (List.Sublist.cons _ (List.Sublist.cons _ (List.Sublist.cons _ (List.Sublist.cons _ (List.Sublist.cons _ hM)))))))))) (fun F105 L' v hF106 hv => ?_)
  obtain ⟨s103, rfl, rfl⟩ := hv
  refine Lst.run rfl rfl (by decide) (Ev.fieldAddr (off' := 7) rfl Try.runUnderlying45 rfl Try.sizeOf43 rfl rfl) ?_
  refine Lst.store (i := 1) rfl rfl rfl rfl rfl Try.sizeOf43 (vs := [Sl.v s103]) rfl rfl rfl (cs' := enc (CausalR.mk ({ y66 with Seen := p80, Hold := r101 } : Causal) s103)) ((CausalR.put_Hold (Put.here (vs := [Sl.v s103]) rfl)).off (by rfl)) (L' := (.own s103 47 8 (encs r101)) :: (.blk b30 (enc (CausalR.mk ({ y66 with Seen := p80, Hold := r101 } : Causal) s103)) 45) :: (.own s82 47 8 (encs ([y69] : List Mail))) :: (.own s86 47 8 (encs (l71 ++ ([y69] : List Mail)))) :: (.own Sl.nil 47 8 (encs ([] : List Mail))) :: (.own Sl.nil 47 8 (encs ([] : List Mail))) :: (.blk b6 (enc (CausalR.mk ({ Causal.zero with Hold := ([] : List Mail) } : Causal) Sl.nil)) 45) :: (.own Sl.nil 47 8 (encs ([] : List Mail))) :: (.blk b3 (enc x98) 47) :: (.blk b1 (enc (CausalR.mk a0 s_a0_2)) 45) :: L) rfl ?_
  refine Lst.nil ?_
  refine At.in_normal ?_
  refine At.front (i := 9) rfl rfl ?_
  refine At.front (i := 9) rfl rfl ?_
  refine At.front (i := 9) rfl rfl ?_
  refine At.front (i := 9) rfl rfl ?_
  refine At.front (i := 9) rfl rfl ?_
  refine At.front (i := 9) rfl rfl ?_
  refine At.front (i := 7) rfl rfl ?_
  refine At.front (i := 9) rfl rfl ?_
  refine At.front (i := 8) rfl rfl ?_
  refine At.less (L' := (.own s103 47 8 (encs r101)) :: (.own s86 47 8 (encs (l71 ++ ([y69] : List Mail)))) :: (.blk b30 (enc (CausalR.mk ({ y66 with Seen := p80, Hold := r101 } : Causal) s103)) 45) :: (.own Sl.nil 47 8 (encs ([] : List Mail))) :: (.own Sl.nil 47 8 (encs ([] : List Mail))) :: (.blk b6 (enc (CausalR.mk ({ Causal.zero with Hold := ([] : List Mail) } : Causal) Sl.nil)) 45) :: (.own Sl.nil 47 8 (encs ([] : List Mail))) :: (.blk b3 (enc x98) 47) :: (.blk b1 (enc (CausalR.mk a0 s_a0_2)) 45) :: L) (List.Sublist.cons_cons _ (List.Sublist.cons_cons _ (List.Sublist.cons_cons _ (List.Sublist.cons_cons _ (List.Sublist.cons_cons _ (List.Sublist.cons_cons _ (List.Sublist.cons_cons _ (List.Sublist.cons_cons _ (List.Sublist.cons_cons _ (List.Sublist.cons _ (List.Sublist.refl _))))))))))) ?_
  exact At.meet (k65, ({ y66 with Seen := p80, Hold := r101 } : Causal), s103, x98, s86, l71 ++ ([y69] : List Mail)) (FLe.trans hF73 hF106) ⟨rfl, rfl, rfl, rfl, trivial⟩ rfl ⟨hgo65 _ (some_inj H).symm, Nat.lt_succ_self _⟩
set_option maxRecDepth 20000 in
theorem slices_Equal_api_Mail_api_Mail_sim {a0 : List Mail} {a1 : List Mail} {s_a0 : Sl} {s_a1 : Sl} {r : Bool} (H : slices_Equal_api_Mail_api_Mail a0 a1 = some r) (w0 : World) (F : Frz) (M L : List Item) (hM : M.Sublist L) (hs_a0 : Rd w0 F M s_a0 a0) (hs_a1 : Rd w0 F M s_a1 a1) : Ok Try.prog w0 33 [Sl.v s_a0, Sl.v s_a1] F (L) (Is (.bool r) (L)) := by
  unfold slices_Equal_api_Mail_api_Mail at H
  refine Ok.enter (m := 2) (n := 26) Try.func33 rfl rfl rfl (by decide) ?_
  refine Cd.env (e' := [(0, Sl.v s_a0), (1, Sl.v s_a1)]) rfl ?_
  refine Cd.seq ?_
  refine Cd.region ?_
  refine Lst.run rfl rfl (by decide) (Ev.assign rfl) ?_
  refine Lst.nil ?_
  refine At.then ?_
  refine Cd.seq ?_
  refine Cd.seq ?_
  refine Cd.region ?_
  refine Lst.run rfl rfl (by decide) (Ev.move rfl) ?_
  refine Lst.run rfl rfl (by decide) (Ev.lenS (α := Mail) (xs := a0) (by decide) rfl rfl Try.runUnderlying43 (hs_a0.mono (FLe.refl _) hM)) ?_
  refine Lst.run rfl rfl (by decide) (Ev.move rfl) ?_
  refine Lst.run rfl rfl (by decide) (Ev.lenS (α := Mail) (xs := a1) (by decide) rfl rfl Try.runUnderlying43 (hs_a1.mono (FLe.refl _) hM)) ?_
  refine Lst.run rfl rfl (by decide) (Ev.neq rfl rfl) ?_
  refine Lst.nil ?_
  refine At.then ?_
  rcases Bool.eq_false_or_eq_true ((a0.length : Int) != (a1.length : Int)) with hb1 | hb1
  · replace H := ite_t hb1 H
    refine Cd.condT rfl hb1 ?_
    refine Cd.seq ?_
    refine Cd.region ?_
    refine Lst.run rfl rfl (by decide) (Ev.assign rfl) ?_
    refine Lst.nil ?_
    refine At.then ?_
    obtain rfl := some_inj H
    refine Cd.ret ?_
    refine At.then_ret ?_
    exact At.ret1 rfl (Res.tmp rfl) (FLe.refl _) (List.Sublist.refl _) ⟨rfl, rfl⟩
  replace H := ite_f hb1 H
  refine Cd.condF rfl hb1 ?_
  refine Cd.skip ?_
  refine At.then ?_
  refine Cd.seq ?_
  refine Cd.seq ?_
  refine Cd.region ?_
  refine Lst.run rfl rfl (by decide) (Ev.move rfl) ?_
  refine Lst.run rfl rfl (by decide) (Ev.lenS (α := Mail) (xs := a0) (by decide) rfl rfl Try.runUnderlying43 (hs_a0.mono (FLe.refl _) hM)) ?_
  refine Lst.run rfl rfl (by decide) (Ev.move rfl) ?_
  refine Lst.nil ?_
  refine At.then ?_
  refine Cd.block ?_
  refine Cd.bound (Rd.le (α := Mail) (xs := a0) (by decide) (hs_a0.mono (FLe.refl _) hM)) (fun hN12 => ?_)
  obtain ⟨ol2, H, HKl2⟩ := andThen_some H
  refine Cd.loop (σ := Nat × Nat × Unit) (fun (i2, k2, _u) => [(0, Sl.v s_a0), (1, Sl.v s_a1), (12, .int .i64 (a0.length : Int)), (13, .int .i64 (i2 : Int))]) (fun (i2, k2, _u) => L) (fun _ => (fun (i2, k2, _u) => rangeM (slices_Equal_api_Mail_api_Mail_B0 a0 a1) k2 i2 () = some ol2 ∧ i2 + k2 = a0.length)) (fun (i2, k2, _u) => k2) (0, a0.length, ()) ⟨rfl, rfl, rfl, rfl, trivial⟩ rfl ⟨H, by omega⟩ ?_
  rintro F3 ⟨i2, k2, _u⟩ hF4 ⟨H, hik2⟩
  refine Cd.as (e' := [(0, Sl.v s_a0), (1, Sl.v s_a1), (12, .int .i64 (a0.length : Int)), (13, .int .i64 (i2 : Int))]) (L' := L) ⟨rfl, rfl, rfl, rfl, trivial⟩ rfl ?_
  rcases k2 with _ | k2
  · have hc2 : decide ((i2 : Int) < (a0.length : Int)) = false := decide_eq_false (by omega)
    replace H := rangeM_end H
    refine Cd.seq ?_
    refine Cd.region ?_
    refine Lst.run rfl rfl (by decide) (Ev.lss rfl rfl) ?_
    refine Lst.nil ?_
    refine At.then ?_
    refine Cd.seq ?_
    refine Cd.condF rfl hc2 ?_
    refine Cd.exit ?_
    refine At.then_exit ?_
    refine At.then_exit ?_
    refine At.in_exit ?_
    subst H
    replace H := HKl2
    refine At.then ?_
    refine Cd.seq ?_
    refine Cd.region ?_
    refine Lst.run rfl rfl (by decide) (Ev.assign rfl) ?_
    refine Lst.nil ?_
    refine At.then ?_
    obtain rfl := some_inj H
    refine Cd.ret ?_
    exact At.ret1 rfl (Res.tmp rfl) hF4 (List.Sublist.refl _) ⟨rfl, rfl⟩
  have hc2 : decide ((i2 : Int) < (a0.length : Int)) = true := decide_eq_true (by omega)
  obtain ⟨c2, H, hgo2, hbrk2, hret2⟩ := rangeM_go H
  unfold slices_Equal_api_Mail_api_Mail_B0 at H
  try dsimp only at H
  refine Cd.seq ?_
  refine Cd.region ?_
  refine Lst.run rfl rfl (by decide) (Ev.lss rfl rfl) ?_
  refine Lst.nil ?_
  refine At.then ?_
  refine Cd.seq ?_
  refine Cd.condT rfl hc2 ?_
  refine Cd.skip ?_
  refine At.then ?_
  refine Cd.seq ?_
  refine Cd.block ?_
  refine Cd.seq ?_
  refine Cd.region ?_
  refine Lst.run rfl rfl (by decide) (Ev.move rfl) ?_
  refine Lst.run rfl rfl (by decide) (Ev.assign rfl) ?_
  refine Lst.nil ?_
  refine At.then ?_
  refine Cd.seq ?_
  refine Cd.quiet (by kernel_rfl) (by kernel_rfl) ?_
  refine Qt.run rfl rfl (by decide) (Ev.move rfl) ?_
  refine Qt.run rfl rfl (by decide) (Ev.move rfl) ?_
  obtain ⟨x5, h6, H⟩ := bind_some H
  have g7 := lat_some h6
  refine Qt.run rfl rfl (by decide) (Ev.indexS (α := Mail) (xs := a0) rfl rfl Try.runUnderlying43 Try.sizeOf47 rfl (by decide) (hs_a0.mono hF4 hM) g7.1 g7.2.1) ?_
  refine Qt.run rfl rfl (by decide) (Ev.loadSA (α := Mail) rfl (hs_a0.mono hF4 hM) Try.isAgg47 Try.sizeOf47 (ch := enc x5) (Enc.len _) (by decide) ((Get.elemN (s := 8) (x := x5) rfl g7.2.2 (Get.here _)).off (by omega))) ?_
  refine Qt.run rfl rfl (by decide) (Ev.move rfl) ?_
  refine Qt.run rfl rfl (by decide) (Ev.move rfl) ?_
  obtain ⟨x8, h9, H⟩ := bind_some H
  have g10 := lat_some h9
  refine Qt.run rfl rfl (by decide) (Ev.indexS (α := Mail) (xs := a1) rfl rfl Try.runUnderlying43 Try.sizeOf47 rfl (by decide) (hs_a1.mono hF4 hM) g10.1 g10.2.1) ?_
  refine Qt.run rfl rfl (by decide) (Ev.loadSA (α := Mail) rfl (hs_a1.mono hF4 hM) Try.isAgg47 Try.sizeOf47 (ch := enc x8) (Enc.len _) (by decide) ((Get.elemN (s := 8) (x := x8) rfl g10.2.2 (Get.here _)).off (by omega))) ?_
  refine Qt.run rfl rfl (by decide) (Ev.neqA rfl rfl (by kernel_rfl) (eq47 _ _)) ?_
  refine Qt.done ?_
  refine At.then ?_
  rcases Bool.eq_false_or_eq_true (!(decide (x5 = x8))) with hb11 | hb11
  · replace H := ite_t hb11 H
    refine Cd.condT rfl hb11 ?_
    refine Cd.seq ?_
    refine Cd.as (e' := []) (L' := L) trivial rfl ?_
    refine Cd.region ?_
    refine Lst.run rfl rfl (by decide) (Ev.assign rfl) ?_
    refine Lst.nil ?_
    refine At.then ?_
    have H := hret2 _ (some_inj H).symm
    subst H
    replace H := HKl2
    obtain rfl := some_inj H
    refine Cd.ret ?_
    refine At.in_ret ?_
    refine At.then_ret ?_
    refine At.then_ret ?_
    refine At.in_ret ?_
    refine At.then_ret ?_
    exact At.ret1 rfl (Res.tmp rfl) hF4 (List.Sublist.refl _) ⟨rfl, rfl⟩
  replace H := ite_f hb11 H
  refine Cd.condF rfl hb11 ?_
  refine Cd.skip ?_
  refine At.in_normal ?_
  refine At.then ?_
  refine Cd.region ?_
  refine Lst.run rfl rfl (by decide) (Ev.incr (by omega) rfl rfl) ?_
  refine Lst.run rfl rfl (by decide) (Ev.move rfl) ?_
  refine Lst.nil ?_
  exact At.meet (i2 + 1, k2, ()) hF4 ⟨rfl, rfl, rfl, rfl, trivial⟩ rfl ⟨⟨hgo2 _ (some_inj H).symm, by omega⟩, Nat.lt_succ_self _⟩
set_option maxRecDepth 20000 in
theorem partref_SameCausal_sim {a0 : Causal} {a1 : Causal} {s_a0_2 : Sl} {s_a1_2 : Sl} {r : Bool} (H : partref_SameCausal a0 a1 = some r) (w0 : World) (F : Frz) (M L : List Item) (hM : M.Sublist L) (hs_a0_2 : Rd w0 F M s_a0_2 a0.Hold) (hs_a1_2 : Rd w0 F M s_a1_2 a1.Hold) : Ok Try.prog w0 30 [.agg (enc (CausalR.mk a0 s_a0_2)).toArray, .agg (enc (CausalR.mk a1 s_a1_2)).toArray] F (L) (Is (.bool r) (L)) := by
  unfold partref_SameCausal at H
  refine Ok.enter (m := 2) (n := 24) Try.func30 rfl rfl rfl (by decide) ?_
  refine Cd.env (e' := [(0, .agg (enc (CausalR.mk a0 s_a0_2)).toArray), (1, .agg (enc (CausalR.mk a1 s_a1_2)).toArray)]) rfl ?_
  refine Cd.seq ?_
  refine Cd.region ?_
  refine Lst.box rfl rfl (by decide) rfl (cs := enc (CausalR.mk a0 s_a0_2)) rfl (fun b1 => ?_)
  refine Lst.box rfl rfl (by decide) rfl (cs := enc (CausalR.mk a1 s_a1_2)) rfl (fun b3 => ?_)
  refine Lst.run rfl rfl (by decide) (Ev.assign rfl) ?_
  refine Lst.nil ?_
  refine At.then ?_
  refine Cd.seq ?_
  refine Cd.region ?_
  refine Lst.run rfl rfl (by decide) (Ev.fieldAddr (off' := 0) rfl Try.runUnderlying45 rfl Try.sizeOf3 rfl rfl) ?_
  refine Lst.run rfl rfl (by decide) (Ev.load (i := 1) rfl rfl Try.isAgg3 (v := .int .i64 a0.Me) ((CausalR.get_Me (Get.here _)).off (by rfl))) ?_
  refine Lst.run rfl rfl (by decide) (Ev.fieldAddr (off' := 0) rfl Try.runUnderlying45 rfl Try.sizeOf3 rfl rfl) ?_
  refine Lst.run rfl rfl (by decide) (Ev.load (i := 0) rfl rfl Try.isAgg3 (v := .int .i64 a1.Me) ((CausalR.get_Me (Get.here _)).off (by rfl))) ?_
  refine Lst.run rfl rfl (by decide) (Ev.eql rfl rfl) ?_
  refine Lst.run rfl rfl (by decide) (Ev.move rfl) ?_
  obtain ⟨o5, H, HKo5⟩ := bind_some H
  refine Lst.join (σ := Bool) 6 (fun y6 => [(2, .pointer (some ⟨b1, 0, none⟩)), (3, .pointer (some ⟨b3, 0, none⟩)), (16, .bool y6)]) (fun y6 => (.blk b3 (enc (CausalR.mk a1 s_a1_2)) 45) :: (.blk b1 (enc (CausalR.mk a0 s_a0_2)) 45) :: L) (fun _ y6 => y6 = o5) ?_ ?_
  · rcases (Bool.eq_false_or_eq_true (a0.Me == a1.Me)).symm with hb7 | hb7
    · replace H := ite_f hb7 H
      refine Lst.skip rfl rfl rfl hb7 rfl (by decide) ?_
      refine Lst.skip rfl rfl rfl hb7 rfl (by decide) ?_
      refine Lst.skip rfl rfl rfl hb7 rfl (by decide) ?_
      refine Lst.skip rfl rfl rfl hb7 rfl (by decide) ?_
      refine Lst.skip rfl rfl rfl hb7 rfl (by decide) ?_
      refine Lst.run rfl rfl (by decide) (Ev.pickF rfl hb7 rfl) ?_
      refine Lst.nil ?_
      exact At.meet false (FLe.refl _) ⟨rfl, rfl, rfl, trivial⟩ rfl (some_inj H)
    replace H := ite_t hb7 H
    refine Lst.runG rfl rfl rfl hb7 rfl (by decide) (Ev.fieldAddr (off' := 1) rfl Try.runUnderlying45 rfl Try.sizeOf23 rfl rfl) ?_
    refine Lst.runG rfl rfl rfl hb7 rfl (by decide) (Ev.loadA (i := 1) rfl rfl Try.isAgg23 Try.sizeOf23 (ch := enc a0.Seen) (Enc.len _) ((CausalR.get_Seen (Get.here _)).off (by rfl))) ?_
    refine Lst.runG rfl rfl rfl hb7 rfl (by decide) (Ev.fieldAddr (off' := 1) rfl Try.runUnderlying45 rfl Try.sizeOf23 rfl rfl) ?_
    refine Lst.runG rfl rfl rfl hb7 rfl (by decide) (Ev.loadA (i := 0) rfl rfl Try.isAgg23 Try.sizeOf23 (ch := enc a1.Seen) (Enc.len _) ((CausalR.get_Seen (Get.here _)).off (by rfl))) ?_
    refine Lst.runG rfl rfl rfl hb7 rfl (by decide) (Ev.eqlA rfl rfl (by kernel_rfl) (eq23 _ _)) ?_
    refine Lst.run rfl rfl (by decide) (Ev.pickT rfl hb7 rfl) ?_
    refine Lst.nil ?_
    exact At.meet (decide (a0.Seen = a1.Seen)) (FLe.refl _) ⟨rfl, rfl, rfl, trivial⟩ rfl (some_inj H)
  rintro F8 y6 hF9 hy
  subst hy
  refine Lst.as (e' := [(2, .pointer (some ⟨b1, 0, none⟩)), (3, .pointer (some ⟨b3, 0, none⟩)), (16, .bool y6)]) (L' := (.blk b3 (enc (CausalR.mk a1 s_a1_2)) 45) :: (.blk b1 (enc (CausalR.mk a0 s_a0_2)) 45) :: L) ⟨rfl, rfl, rfl, trivial⟩ rfl ?_
  replace H := HKo5
  refine Lst.run rfl rfl (by decide) (Ev.move rfl) ?_
  obtain ⟨o10, H, HKo10⟩ := bind_some H
  refine Lst.join (σ := Bool) 6 (fun y11 => [(23, .bool y11)]) (fun y11 => (.blk b3 (enc (CausalR.mk a1 s_a1_2)) 45) :: (.blk b1 (enc (CausalR.mk a0 s_a0_2)) 45) :: L) (fun _ y11 => y11 = o10) ?_ ?_
  · rcases (Bool.eq_false_or_eq_true y6).symm with hb12 | hb12
    · replace H := ite_f hb12 H
      refine Lst.skip rfl rfl rfl hb12 rfl (by decide) ?_
      refine Lst.skip rfl rfl rfl hb12 rfl (by decide) ?_
      refine Lst.skip rfl rfl rfl hb12 rfl (by decide) ?_
      refine Lst.skip rfl rfl rfl hb12 rfl (by decide) ?_
      refine Lst.skip rfl rfl rfl hb12 rfl (by decide) ?_
      refine Lst.run rfl rfl (by decide) (Ev.pickF rfl hb12 rfl) ?_
      refine Lst.nil ?_
      exact At.meet false (FLe.refl _) ⟨rfl, trivial⟩ rfl (some_inj H)
    replace H := ite_t hb12 H
    refine Lst.runG rfl rfl rfl hb12 rfl (by decide) (Ev.fieldAddr (off' := 7) rfl Try.runUnderlying45 rfl Try.sizeOf43 rfl rfl) ?_
    refine Lst.runG rfl rfl rfl hb12 rfl (by decide) (Ev.load (i := 1) rfl rfl Try.isAgg43 (v := Sl.v s_a0_2) ((CausalR.get_Hold (Get.here _)).off (by rfl))) ?_
    refine Lst.runG rfl rfl rfl hb12 rfl (by decide) (Ev.fieldAddr (off' := 7) rfl Try.runUnderlying45 rfl Try.sizeOf43 rfl rfl) ?_
    refine Lst.runG rfl rfl rfl hb12 rfl (by decide) (Ev.load (i := 0) rfl rfl Try.isAgg43 (v := Sl.v s_a1_2) ((CausalR.get_Hold (Get.here _)).off (by rfl))) ?_
    obtain ⟨r13, h14, H⟩ := bind_some H
    refine Lst.call1G rfl rfl rfl hb12 rfl (by decide) (vs := [Sl.v s_a0_2, Sl.v s_a1_2]) ⟨rfl, rfl, trivial⟩ Try.call33 (slices_Equal_api_Mail_api_Mail_sim h14 w0 _ M _ (List.Sublist.cons _ (List.Sublist.cons _ hM)) (hs_a0_2.mono hF9 (List.Sublist.refl _)) (hs_a1_2.mono hF9 (List.Sublist.refl _))) ?_
    refine Lst.run rfl rfl (by decide) (Ev.pickT rfl hb12 rfl) ?_
    refine Lst.nil ?_
    exact At.meet r13 (FLe.refl _) ⟨rfl, trivial⟩ rfl (some_inj H)
  rintro F17 y11 hF18 hy
  subst hy
  refine Lst.as (e' := [(23, .bool y11)]) (L' := (.blk b3 (enc (CausalR.mk a1 s_a1_2)) 45) :: (.blk b1 (enc (CausalR.mk a0 s_a0_2)) 45) :: L) ⟨rfl, trivial⟩ rfl ?_
  replace H := HKo10
  refine Lst.run rfl rfl (by decide) (Ev.assign rfl) ?_
  refine Lst.nil ?_
  refine At.then ?_
  obtain rfl := some_inj H
  refine Cd.ret ?_
  exact At.ret1 rfl (Res.tmp rfl) (FLe.trans hF9 hF18) (List.Sublist.cons _ (List.Sublist.cons _ (List.Sublist.refl _))) ⟨rfl, rfl⟩
set_option maxRecDepth 20000 in
theorem partref_HearMail_1_sim {a0 : Mail} {a1 : Mail} {b_a1 : Nat} {r : Bool} (H : partref_HearMail_1 a0 a1 = some r) (w0 : World) (F : Frz) (M L : List Item) (hM : M.Sublist L) : Ok Try.prog w0 118 [.agg (enc a0).toArray, .pointer (some ⟨b_a1, 0, none⟩)] F ((.blk b_a1 (enc a1) 47) :: L) (Is (.bool r) ((.blk b_a1 (enc a1) 47) :: L)) := by
  unfold partref_HearMail_1 at H
  refine Ok.enter (m := 2) (n := 7) Try.func118 rfl rfl rfl (by decide) ?_
  refine Cd.env (e' := [(0, .agg (enc a0).toArray), (1, .pointer (some ⟨b_a1, 0, none⟩))]) rfl ?_
  refine Cd.seq ?_
  refine Cd.region ?_
  refine Lst.box rfl rfl (by decide) rfl (cs := enc a0) rfl (fun b2 => ?_)
  refine Lst.run rfl rfl (by decide) (Ev.assign rfl) ?_
  refine Lst.nil ?_
  refine At.then ?_
  refine Cd.seq ?_
  refine Cd.region ?_
  refine Lst.run rfl rfl (by decide) (Ev.loadA (i := 0) rfl rfl Try.isAgg47 Try.sizeOf47 (ch := enc a0) (Enc.len _) (Get.here _)) ?_
  refine Lst.run rfl rfl (by decide) (Ev.loadA (i := 1) rfl rfl Try.isAgg47 Try.sizeOf47 (ch := enc a1) (Enc.len _) (Get.here _)) ?_
  obtain ⟨r4, h5, H⟩ := bind_some H
  refine Lst.call1 rfl rfl (by decide) (vs := [.agg (enc a0).toArray, .agg (enc a1).toArray]) ⟨rfl, rfl, trivial⟩ Try.call103 (partref_sameMail_sim h5 w0 _ M _ (List.Sublist.cons _ (List.Sublist.cons _ hM))) ?_
  refine Lst.run rfl rfl (by decide) (Ev.assign rfl) ?_
  refine Lst.nil ?_
  refine At.then ?_
  obtain rfl := some_inj H
  refine Cd.ret ?_
  exact At.ret1 rfl (Res.tmp rfl) (FLe.refl _) (List.Sublist.cons _ (List.Sublist.cons_cons _ (List.Sublist.refl _))) ⟨rfl, rfl⟩
set_option maxRecDepth 20000 in
theorem slices_IndexFunc_api_Mail_api_Mail_HearMail_1_sim {a0 : List Mail} {a1_c0 : Mail} {s_a0 : Sl} {b_a1_c0 : Nat} {r : Int} (H : slices_IndexFunc_api_Mail_api_Mail_HearMail_1 a0 a1_c0 = some r) (w0 : World) (F : Frz) (M L : List Item) (hM : M.Sublist L) (hs_a0 : Rd w0 F M s_a0 a0) : Ok Try.prog w0 109 [Sl.v s_a0, .func (.func 118) #[] #[.pointer (some ⟨b_a1_c0, 0, none⟩)]] F ((.blk b_a1_c0 (enc a1_c0) 47) :: L) (Is (.int .i64 r) ((.blk b_a1_c0 (enc a1_c0) 47) :: L)) := by
  unfold slices_IndexFunc_api_Mail_api_Mail_HearMail_1 at H
  refine Ok.enter (m := 2) (n := 19) Try.func109 rfl rfl rfl (by decide) ?_
  refine Cd.env (e' := [(0, Sl.v s_a0), (1, .func (.func 118) #[] #[.pointer (some ⟨b_a1_c0, 0, none⟩)])]) rfl ?_
  refine Cd.seq ?_
  refine Cd.region ?_
  refine Lst.run rfl rfl (by decide) (Ev.assign rfl) ?_
  refine Lst.nil ?_
  refine At.then ?_
  refine Cd.seq ?_
  refine Cd.seq ?_
  refine Cd.region ?_
  refine Lst.run rfl rfl (by decide) (Ev.move rfl) ?_
  refine Lst.run rfl rfl (by decide) (Ev.lenS (α := Mail) (xs := a0) (by decide) rfl rfl Try.runUnderlying43 (hs_a0.mono (FLe.refl _) (List.Sublist.cons _ hM))) ?_
  refine Lst.run rfl rfl (by decide) (Ev.move rfl) ?_
  refine Lst.nil ?_
  refine At.then ?_
  refine Cd.block ?_
  refine Cd.bound (Rd.le (α := Mail) (xs := a0) (by decide) (hs_a0.mono (FLe.refl _) (List.Sublist.cons _ hM))) (fun hN13 => ?_)
  obtain ⟨ol2, H, HKl2⟩ := andThen_some H
  refine Cd.loop (σ := Nat × Nat × Unit) (fun (i2, k2, _u) => [(0, Sl.v s_a0), (1, .func (.func 118) #[] #[.pointer (some ⟨b_a1_c0, 0, none⟩)]), (7, .int .i64 (a0.length : Int)), (8, .int .i64 (i2 : Int))]) (fun (i2, k2, _u) => (.blk b_a1_c0 (enc a1_c0) 47) :: L) (fun _ => (fun (i2, k2, _u) => rangeM (slices_IndexFunc_api_Mail_api_Mail_HearMail_1_B0 a0 a1_c0) k2 i2 () = some ol2 ∧ i2 + k2 = a0.length)) (fun (i2, k2, _u) => k2) (0, a0.length, ()) ⟨rfl, rfl, rfl, rfl, trivial⟩ rfl ⟨H, by omega⟩ ?_
  rintro F3 ⟨i2, k2, _u⟩ hF4 ⟨H, hik2⟩
  refine Cd.as (e' := [(0, Sl.v s_a0), (1, .func (.func 118) #[] #[.pointer (some ⟨b_a1_c0, 0, none⟩)]), (7, .int .i64 (a0.length : Int)), (8, .int .i64 (i2 : Int))]) (L' := (.blk b_a1_c0 (enc a1_c0) 47) :: L) ⟨rfl, rfl, rfl, rfl, trivial⟩ rfl ?_
  rcases k2 with _ | k2
  · have hc2 : decide ((i2 : Int) < (a0.length : Int)) = false := decide_eq_false (by omega)
    replace H := rangeM_end H
    refine Cd.seq ?_
    refine Cd.region ?_
    refine Lst.run rfl rfl (by decide) (Ev.lss rfl rfl) ?_
    refine Lst.nil ?_
    refine At.then ?_
    refine Cd.seq ?_
    refine Cd.condF rfl hc2 ?_
    refine Cd.exit ?_
    refine At.then_exit ?_
    refine At.then_exit ?_
    refine At.in_exit ?_
    subst H
    replace H := HKl2
    refine At.then ?_
    refine Cd.seq ?_
    refine Cd.region ?_
    refine Lst.run rfl rfl (by decide) (Ev.assign rfl) ?_
    refine Lst.nil ?_
    refine At.then ?_
    obtain rfl := some_inj H
    refine Cd.ret ?_
    exact At.ret1 rfl (Res.tmp rfl) hF4 (List.Sublist.cons_cons _ (List.Sublist.refl _)) ⟨rfl, rfl⟩
  have hc2 : decide ((i2 : Int) < (a0.length : Int)) = true := decide_eq_true (by omega)
  obtain ⟨c2, H, hgo2, hbrk2, hret2⟩ := rangeM_go H
  unfold slices_IndexFunc_api_Mail_api_Mail_HearMail_1_B0 at H
  try dsimp only at H
  refine Cd.seq ?_
  refine Cd.region ?_
  refine Lst.run rfl rfl (by decide) (Ev.lss rfl rfl) ?_
  refine Lst.nil ?_
  refine At.then ?_
  refine Cd.seq ?_
  refine Cd.condT rfl hc2 ?_
  refine Cd.skip ?_
  refine At.then ?_
  refine Cd.seq ?_
  refine Cd.block ?_
  refine Cd.seq ?_
  refine Cd.region ?_
  refine Lst.run rfl rfl (by decide) (Ev.move rfl) ?_
  refine Lst.run rfl rfl (by decide) (Ev.assign rfl) ?_
  refine Lst.nil ?_
  refine At.then ?_
  refine Cd.seq ?_
  refine Cd.region ?_
  refine Lst.run rfl rfl (by decide) (Ev.move rfl) ?_
  refine Lst.run rfl rfl (by decide) (Ev.move rfl) ?_
  refine Lst.run rfl rfl (by decide) (Ev.move rfl) ?_
  obtain ⟨x5, h6, H⟩ := bind_some H
  have g7 := lat_some h6
  refine Lst.run rfl rfl (by decide) (Ev.indexS (α := Mail) (xs := a0) rfl rfl Try.runUnderlying43 Try.sizeOf47 rfl (by decide) (hs_a0.mono hF4 (List.Sublist.cons _ hM)) g7.1 g7.2.1) ?_
  refine Lst.run rfl rfl (by decide) (Ev.loadSA (α := Mail) rfl (hs_a0.mono hF4 (List.Sublist.cons _ hM)) Try.isAgg47 Try.sizeOf47 (ch := enc x5) (Enc.len _) (by decide) ((Get.elemN (s := 8) (x := x5) rfl g7.2.2 (Get.here _)).off (by omega))) ?_
  obtain ⟨r8, h9, H⟩ := bind_some H
  refine Lst.callV1 rfl rfl (by decide) (vs := [.agg (enc x5).toArray]) (cs := [.pointer (some ⟨b_a1_c0, 0, none⟩)]) rfl ⟨rfl, trivial⟩ Try.call118 (partref_HearMail_1_sim h9 w0 _ M _ hM) ?_
  refine Lst.nil ?_
  refine At.then ?_
  rcases Bool.eq_false_or_eq_true r8 with hb12 | hb12
  · replace H := ite_t hb12 H
    refine Cd.condT rfl hb12 ?_
    refine Cd.seq ?_
    refine Cd.region ?_
    refine Lst.run rfl rfl (by decide) (Ev.move rfl) ?_
    refine Lst.run rfl rfl (by decide) (Ev.assign rfl) ?_
    refine Lst.nil ?_
    refine At.then ?_
    have H := hret2 _ (some_inj H).symm
    subst H
    replace H := HKl2
    obtain rfl := some_inj H
    refine Cd.ret ?_
    refine At.in_ret ?_
    refine At.then_ret ?_
    refine At.then_ret ?_
    refine At.in_ret ?_
    refine At.then_ret ?_
    exact At.ret1 rfl (Res.tmp rfl) hF4 (List.Sublist.cons_cons _ (List.Sublist.refl _)) ⟨rfl, rfl⟩
  replace H := ite_f hb12 H
  refine Cd.condF rfl hb12 ?_
  refine Cd.skip ?_
  refine At.in_normal ?_
  refine At.then ?_
  refine Cd.region ?_
  refine Lst.run rfl rfl (by decide) (Ev.incr (by omega) rfl rfl) ?_
  refine Lst.run rfl rfl (by decide) (Ev.move rfl) ?_
  refine Lst.nil ?_
  exact At.meet (i2 + 1, k2, ()) hF4 ⟨rfl, rfl, rfl, rfl, trivial⟩ rfl ⟨⟨hgo2 _ (some_inj H).symm, by omega⟩, Nat.lt_succ_self _⟩
set_option maxRecDepth 20000 in
theorem slices_ContainsFunc_api_Mail_api_Mail_HearMail_1_sim {a0 : List Mail} {a1_c0 : Mail} {s_a0 : Sl} {b_a1_c0 : Nat} {r : Bool} (H : slices_ContainsFunc_api_Mail_api_Mail_HearMail_1 a0 a1_c0 = some r) (w0 : World) (F : Frz) (M L : List Item) (hM : M.Sublist L) (hs_a0 : Rd w0 F M s_a0 a0) : Ok Try.prog w0 101 [Sl.v s_a0, .func (.func 118) #[] #[.pointer (some ⟨b_a1_c0, 0, none⟩)]] F ((.blk b_a1_c0 (enc a1_c0) 47) :: L) (Is (.bool r) ((.blk b_a1_c0 (enc a1_c0) 47) :: L)) := by
  unfold slices_ContainsFunc_api_Mail_api_Mail_HearMail_1 at H
  refine Ok.enter (m := 2) (n := 9) Try.func101 rfl rfl rfl (by decide) ?_
  refine Cd.env (e' := [(0, Sl.v s_a0), (1, .func (.func 118) #[] #[.pointer (some ⟨b_a1_c0, 0, none⟩)])]) rfl ?_
  refine Cd.seq ?_
  refine Cd.region ?_
  refine Lst.run rfl rfl (by decide) (Ev.assign rfl) ?_
  refine Lst.nil ?_
  refine At.then ?_
  refine Cd.seq ?_
  refine Cd.region ?_
  refine Lst.run rfl rfl (by decide) (Ev.move rfl) ?_
  refine Lst.run rfl rfl (by decide) (Ev.move rfl) ?_
  obtain ⟨r2, h3, H⟩ := bind_some H
  refine Lst.call1 rfl rfl (by decide) (vs := [Sl.v s_a0, .func (.func 118) #[] #[.pointer (some ⟨b_a1_c0, 0, none⟩)]]) ⟨rfl, rfl, trivial⟩ Try.call109 (slices_IndexFunc_api_Mail_api_Mail_HearMail_1_sim h3 w0 _ M _ hM (hs_a0.mono (FLe.refl _) (List.Sublist.refl _))) ?_
  refine Lst.run rfl rfl (by decide) (Ev.geq rfl rfl) ?_
  refine Lst.run rfl rfl (by decide) (Ev.assign rfl) ?_
  refine Lst.nil ?_
  refine At.then ?_
  obtain rfl := some_inj H
  refine Cd.ret ?_
  exact At.ret1 rfl (Res.tmp rfl) (FLe.refl _) (List.Sublist.cons_cons _ (List.Sublist.refl _)) ⟨rfl, rfl⟩
set_option maxRecDepth 20000 in
theorem partref_HearMail_2_sim {a0 : Mail} {a1 : Causal} {s_a1_2 : Sl} {b_a1 : Nat} {r : Bool} (H : partref_HearMail_2 a0 a1 = some r) (w0 : World) (F : Frz) (M L : List Item) (hM : M.Sublist L) (hs_a1_2 : Rd w0 F M s_a1_2 a1.Hold) : Ok Try.prog w0 119 [.agg (enc a0).toArray, .pointer (some ⟨b_a1, 0, none⟩)] F ((.blk b_a1 (enc (CausalR.mk a1 s_a1_2)) 45) :: L) (Is (.bool r) ((.blk b_a1 (enc (CausalR.mk a1 s_a1_2)) 45) :: L)) := by
  unfold partref_HearMail_2 at H
  refine Ok.enter (m := 2) (n := 8) Try.func119 rfl rfl rfl (by decide) ?_
  refine Cd.env (e' := [(0, .agg (enc a0).toArray), (1, .pointer (some ⟨b_a1, 0, none⟩))]) rfl ?_
  refine Cd.seq ?_
  refine Cd.region ?_
  refine Lst.box rfl rfl (by decide) rfl (cs := enc a0) rfl (fun b2 => ?_)
  refine Lst.run rfl rfl (by decide) (Ev.assign rfl) ?_
  refine Lst.nil ?_
  refine At.then ?_
  refine Cd.seq ?_
  refine Cd.region ?_
  refine Lst.run rfl rfl (by decide) (Ev.fieldAddr (off' := 1) rfl Try.runUnderlying45 rfl Try.sizeOf23 rfl rfl) ?_
  refine Lst.run rfl rfl (by decide) (Ev.loadA (i := 1) rfl rfl Try.isAgg23 Try.sizeOf23 (ch := enc a1.Seen) (Enc.len _) ((CausalR.get_Seen (Get.here _)).off (by rfl))) ?_
  refine Lst.run rfl rfl (by decide) (Ev.loadA (i := 0) rfl rfl Try.isAgg47 Try.sizeOf47 (ch := enc a0) (Enc.len _) (Get.here _)) ?_
  obtain ⟨r4, h5, H⟩ := bind_some H
  refine Lst.call1 rfl rfl (by decide) (vs := [.agg (enc a1.Seen).toArray, .agg (enc a0).toArray]) ⟨rfl, rfl, trivial⟩ Try.call100 (partref_MailReady_sim h5 w0 _ M _ (List.Sublist.cons _ (List.Sublist.cons _ hM))) ?_
  refine Lst.run rfl rfl (by decide) (Ev.assign rfl) ?_
  refine Lst.nil ?_
  refine At.then ?_
  obtain rfl := some_inj H
  refine Cd.ret ?_
  exact At.ret1 rfl (Res.tmp rfl) (FLe.refl _) (List.Sublist.cons _ (List.Sublist.cons_cons _ (List.Sublist.refl _))) ⟨rfl, rfl⟩
set_option maxRecDepth 20000 in
theorem slices_IndexFunc_api_Mail_api_Mail_HearMail_2_sim {a0 : List Mail} {a1_c0 : Causal} {s_a0 : Sl} {s_a1_c0_2 : Sl} {b_a1_c0 : Nat} {r : Int} (H : slices_IndexFunc_api_Mail_api_Mail_HearMail_2 a0 a1_c0 = some r) (w0 : World) (F : Frz) (M L : List Item) (hM : M.Sublist L) (hs_a0 : Rd w0 F M s_a0 a0) (hs_a1_c0_2 : Rd w0 F M s_a1_c0_2 a1_c0.Hold) : Ok Try.prog w0 109 [Sl.v s_a0, .func (.func 119) #[] #[.pointer (some ⟨b_a1_c0, 0, none⟩)]] F ((.blk b_a1_c0 (enc (CausalR.mk a1_c0 s_a1_c0_2)) 45) :: L) (Is (.int .i64 r) ((.blk b_a1_c0 (enc (CausalR.mk a1_c0 s_a1_c0_2)) 45) :: L)) := by
  unfold slices_IndexFunc_api_Mail_api_Mail_HearMail_2 at H
  refine Ok.enter (m := 2) (n := 19) Try.func109 rfl rfl rfl (by decide) ?_
  refine Cd.env (e' := [(0, Sl.v s_a0), (1, .func (.func 119) #[] #[.pointer (some ⟨b_a1_c0, 0, none⟩)])]) rfl ?_
  refine Cd.seq ?_
  refine Cd.region ?_
  refine Lst.run rfl rfl (by decide) (Ev.assign rfl) ?_
  refine Lst.nil ?_
  refine At.then ?_
  refine Cd.seq ?_
  refine Cd.seq ?_
  refine Cd.region ?_
  refine Lst.run rfl rfl (by decide) (Ev.move rfl) ?_
  refine Lst.run rfl rfl (by decide) (Ev.lenS (α := Mail) (xs := a0) (by decide) rfl rfl Try.runUnderlying43 (hs_a0.mono (FLe.refl _) (List.Sublist.cons _ hM))) ?_
  refine Lst.run rfl rfl (by decide) (Ev.move rfl) ?_
  refine Lst.nil ?_
  refine At.then ?_
  refine Cd.block ?_
  refine Cd.bound (Rd.le (α := Mail) (xs := a0) (by decide) (hs_a0.mono (FLe.refl _) (List.Sublist.cons _ hM))) (fun hN13 => ?_)
  obtain ⟨ol2, H, HKl2⟩ := andThen_some H
  refine Cd.loop (σ := Nat × Nat × Unit) (fun (i2, k2, _u) => [(0, Sl.v s_a0), (1, .func (.func 119) #[] #[.pointer (some ⟨b_a1_c0, 0, none⟩)]), (7, .int .i64 (a0.length : Int)), (8, .int .i64 (i2 : Int))]) (fun (i2, k2, _u) => (.blk b_a1_c0 (enc (CausalR.mk a1_c0 s_a1_c0_2)) 45) :: L) (fun _ => (fun (i2, k2, _u) => rangeM (slices_IndexFunc_api_Mail_api_Mail_HearMail_2_B0 a0 a1_c0) k2 i2 () = some ol2 ∧ i2 + k2 = a0.length)) (fun (i2, k2, _u) => k2) (0, a0.length, ()) ⟨rfl, rfl, rfl, rfl, trivial⟩ rfl ⟨H, by omega⟩ ?_
  rintro F3 ⟨i2, k2, _u⟩ hF4 ⟨H, hik2⟩
  refine Cd.as (e' := [(0, Sl.v s_a0), (1, .func (.func 119) #[] #[.pointer (some ⟨b_a1_c0, 0, none⟩)]), (7, .int .i64 (a0.length : Int)), (8, .int .i64 (i2 : Int))]) (L' := (.blk b_a1_c0 (enc (CausalR.mk a1_c0 s_a1_c0_2)) 45) :: L) ⟨rfl, rfl, rfl, rfl, trivial⟩ rfl ?_
  rcases k2 with _ | k2
  · have hc2 : decide ((i2 : Int) < (a0.length : Int)) = false := decide_eq_false (by omega)
    replace H := rangeM_end H
    refine Cd.seq ?_
    refine Cd.region ?_
    refine Lst.run rfl rfl (by decide) (Ev.lss rfl rfl) ?_
    refine Lst.nil ?_
    refine At.then ?_
    refine Cd.seq ?_
    refine Cd.condF rfl hc2 ?_
    refine Cd.exit ?_
    refine At.then_exit ?_
    refine At.then_exit ?_
    refine At.in_exit ?_
    subst H
    replace H := HKl2
    refine At.then ?_
    refine Cd.seq ?_
    refine Cd.region ?_
    refine Lst.run rfl rfl (by decide) (Ev.assign rfl) ?_
    refine Lst.nil ?_
    refine At.then ?_
    obtain rfl := some_inj H
    refine Cd.ret ?_
    exact At.ret1 rfl (Res.tmp rfl) hF4 (List.Sublist.cons_cons _ (List.Sublist.refl _)) ⟨rfl, rfl⟩
  have hc2 : decide ((i2 : Int) < (a0.length : Int)) = true := decide_eq_true (by omega)
  obtain ⟨c2, H, hgo2, hbrk2, hret2⟩ := rangeM_go H
  unfold slices_IndexFunc_api_Mail_api_Mail_HearMail_2_B0 at H
  try dsimp only at H
  refine Cd.seq ?_
  refine Cd.region ?_
  refine Lst.run rfl rfl (by decide) (Ev.lss rfl rfl) ?_
  refine Lst.nil ?_
  refine At.then ?_
  refine Cd.seq ?_
  refine Cd.condT rfl hc2 ?_
  refine Cd.skip ?_
  refine At.then ?_
  refine Cd.seq ?_
  refine Cd.block ?_
  refine Cd.seq ?_
  refine Cd.region ?_
  refine Lst.run rfl rfl (by decide) (Ev.move rfl) ?_
  refine Lst.run rfl rfl (by decide) (Ev.assign rfl) ?_
  refine Lst.nil ?_
  refine At.then ?_
  refine Cd.seq ?_
  refine Cd.region ?_
  refine Lst.run rfl rfl (by decide) (Ev.move rfl) ?_
  refine Lst.run rfl rfl (by decide) (Ev.move rfl) ?_
  refine Lst.run rfl rfl (by decide) (Ev.move rfl) ?_
  obtain ⟨x5, h6, H⟩ := bind_some H
  have g7 := lat_some h6
  refine Lst.run rfl rfl (by decide) (Ev.indexS (α := Mail) (xs := a0) rfl rfl Try.runUnderlying43 Try.sizeOf47 rfl (by decide) (hs_a0.mono hF4 (List.Sublist.cons _ hM)) g7.1 g7.2.1) ?_
  refine Lst.run rfl rfl (by decide) (Ev.loadSA (α := Mail) rfl (hs_a0.mono hF4 (List.Sublist.cons _ hM)) Try.isAgg47 Try.sizeOf47 (ch := enc x5) (Enc.len _) (by decide) ((Get.elemN (s := 8) (x := x5) rfl g7.2.2 (Get.here _)).off (by omega))) ?_
  obtain ⟨r8, h9, H⟩ := bind_some H
  refine Lst.callV1 rfl rfl (by decide) (vs := [.agg (enc x5).toArray]) (cs := [.pointer (some ⟨b_a1_c0, 0, none⟩)]) rfl ⟨rfl, trivial⟩ Try.call119 (partref_HearMail_2_sim h9 w0 _ M _ hM (hs_a1_c0_2.mono hF4 (List.Sublist.refl _))) ?_
  refine Lst.nil ?_
  refine At.then ?_
  rcases Bool.eq_false_or_eq_true r8 with hb12 | hb12
  · replace H := ite_t hb12 H
    refine Cd.condT rfl hb12 ?_
    refine Cd.seq ?_
    refine Cd.region ?_
    refine Lst.run rfl rfl (by decide) (Ev.move rfl) ?_
    refine Lst.run rfl rfl (by decide) (Ev.assign rfl) ?_
    refine Lst.nil ?_
    refine At.then ?_
    have H := hret2 _ (some_inj H).symm
    subst H
    replace H := HKl2
    obtain rfl := some_inj H
    refine Cd.ret ?_
    refine At.in_ret ?_
    refine At.then_ret ?_
    refine At.then_ret ?_
    refine At.in_ret ?_
    refine At.then_ret ?_
    exact At.ret1 rfl (Res.tmp rfl) hF4 (List.Sublist.cons_cons _ (List.Sublist.refl _)) ⟨rfl, rfl⟩
  replace H := ite_f hb12 H
  refine Cd.condF rfl hb12 ?_
  refine Cd.skip ?_
  refine At.in_normal ?_
  refine At.then ?_
  refine Cd.region ?_
  refine Lst.run rfl rfl (by decide) (Ev.incr (by omega) rfl rfl) ?_
  refine Lst.run rfl rfl (by decide) (Ev.move rfl) ?_
  refine Lst.nil ?_
  exact At.meet (i2 + 1, k2, ()) hF4 ⟨rfl, rfl, rfl, rfl, trivial⟩ rfl ⟨⟨hgo2 _ (some_inj H).symm, by omega⟩, Nat.lt_succ_self _⟩
set_option maxRecDepth 20000 in
theorem partref_HearMail_sim {fu : Nat} {a0 : Causal} {a1 : Mail} {s_a0_2 : Sl} {r : Causal × (List Mail) × Int} (H : partref_HearMail fu a0 a1 = some r) (w0 : World) (F : Frz) (M L : List Item) (hM : M.Sublist L) (hs_a0_2 : Rd w0 F M s_a0_2 a0.Hold) : Ok Try.prog w0 32 [.agg (enc (CausalR.mk a0 s_a0_2)).toArray, .agg (enc a1).toArray] F (L) (fun _ L' v => ∃ (s159 : Sl) (s161 : Sl), v = .tuple #[.agg (enc (CausalR.mk r.1 s159)).toArray, Sl.v s161, .int .i64 r.2.2] ∧ L' = (.own s159 47 8 (encs r.1.Hold)) :: (.own s161 47 8 (encs r.2.1)) :: L) := by
  unfold partref_HearMail at H
  refine Ok.enter (m := 2) (n := 116) Try.func32 rfl rfl rfl (by decide) ?_
  refine Cd.env (e' := [(0, .agg (enc (CausalR.mk a0 s_a0_2)).toArray), (1, .agg (enc a1).toArray)]) rfl ?_
  refine Cd.seq ?_
  refine Cd.region ?_
  refine Lst.box rfl rfl (by decide) rfl (cs := enc (CausalR.mk a0 s_a0_2)) rfl (fun b1 => ?_)
  refine Lst.box rfl rfl (by decide) rfl (cs := enc a1) rfl (fun b3 => ?_)
  refine Lst.addNil 47 8 ?_
  refine Lst.alloc (cs := enc (CausalR.mk ({ Causal.zero with Hold := ([] : List Mail) } : Causal) Sl.nil)) rfl rfl (by decide) Try.zeroValue45 rfl (fun b6 => ?_)
  refine Lst.addNil 47 8 ?_
  refine Lst.run rfl rfl (by decide) (Ev.assign rfl) ?_
  refine Lst.run rfl rfl (by decide) (Ev.assign rfl) ?_
  refine Lst.nil ?_
  refine At.then ?_
  refine Cd.seq ?_
  refine Cd.region ?_
  refine Lst.run rfl rfl (by decide) (Ev.fieldAddr (off' := 7) rfl Try.runUnderlying45 rfl Try.sizeOf43 rfl rfl) ?_
  refine Lst.run rfl rfl (by decide) (Ev.load (i := 4) rfl rfl Try.isAgg43 (v := Sl.v s_a0_2) ((CausalR.get_Hold (Get.here _)).off (by rfl))) ?_
  obtain ⟨r9, h10, H⟩ := bind_some H
  refine Lst.call rfl rfl (by decide) (vs := [Sl.v s_a0_2]) ⟨rfl, trivial⟩ Try.call117 (slices_Clone_api_Mail_api_Mail_sim h10 w0 _ M _ (List.Sublist.cons _ (List.Sublist.cons _ (List.Sublist.cons _ (List.Sublist.cons _ (List.Sublist.cons _ hM))))) (hs_a0_2.mono (FLe.refl _) (List.Sublist.refl _))) (fun F13 L' v hF14 hv => ?_)
  obtain ⟨s11, rfl, rfl⟩ := hv
  refine Lst.run rfl rfl (by decide) (Ev.fieldAddr (off' := 7) rfl Try.runUnderlying45 rfl Try.sizeOf43 rfl rfl) ?_
  refine Lst.store (i := 5) rfl rfl rfl rfl rfl Try.sizeOf43 (vs := [Sl.v s11]) rfl rfl rfl (cs' := enc (CausalR.mk ({ a0 with Hold := r9 } : Causal) s11)) ((CausalR.put_Hold (Put.here (vs := [Sl.v s11]) rfl)).off (by rfl)) (L' := (.own s11 47 8 (encs r9)) :: (.own Sl.nil 47 8 (encs ([] : List Mail))) :: (.blk b6 (enc (CausalR.mk ({ Causal.zero with Hold := ([] : List Mail) } : Causal) Sl.nil)) 45) :: (.own Sl.nil 47 8 (encs ([] : List Mail))) :: (.blk b3 (enc a1) 47) :: (.blk b1 (enc (CausalR.mk ({ a0 with Hold := r9 } : Causal) s11)) 45) :: L) rfl ?_
  refine Lst.nil ?_
  refine At.then ?_
  refine Cd.seq ?_
  refine Cd.seq ?_
  refine Cd.quiet (by kernel_rfl) (by kernel_rfl) ?_
  refine Qt.run rfl rfl (by decide) (Ev.fieldAddr (off' := 0) rfl Try.runUnderlying47 rfl Try.sizeOf3 rfl rfl) ?_
  refine Qt.run rfl rfl (by decide) (Ev.load (i := 4) rfl rfl Try.isAgg3 (v := .int .i64 a1.From) ((Mail.get_From (Get.here _)).off (by rfl))) ?_
  refine Qt.run rfl rfl (by decide) (Ev.fieldAddr (off' := 0) rfl Try.runUnderlying45 rfl Try.sizeOf3 rfl rfl) ?_
  refine Qt.run rfl rfl (by decide) (Ev.load (i := 5) rfl rfl Try.isAgg3 (v := .int .i64 a0.Me) ((CausalR.get_Me (Get.here _)).off (by rfl))) ?_
  refine Qt.run rfl rfl (by decide) (Ev.eql rfl rfl) ?_
  refine Qt.run rfl rfl (by decide) (Ev.move rfl) ?_
  obtain ⟨o15, H, HKo15⟩ := bind_some H
  refine Qt.join (σ := Bool) 12 (fun y16 => [(2, .pointer (some ⟨b1, 0, none⟩)), (3, .pointer (some ⟨b3, 0, none⟩)), (4, .pointer (some ⟨b6, 0, none⟩)), (34, .bool y16)]) (fun y16 => y16 = o15) ?_ ?_
  · rcases Bool.eq_false_or_eq_true (a1.From == a0.Me) with hb17 | hb17
    · replace H := ite_t hb17 H
      refine Qt.skip rfl rfl rfl hb17 rfl (by decide) ?_
      refine Qt.skip rfl rfl rfl hb17 rfl (by decide) ?_
      refine Qt.skip rfl rfl rfl hb17 rfl (by decide) ?_
      refine Qt.skip rfl rfl rfl hb17 rfl (by decide) ?_
      refine Qt.skip rfl rfl rfl hb17 rfl (by decide) ?_
      refine Qt.skip rfl rfl rfl hb17 rfl (by decide) ?_
      refine Qt.skip rfl rfl rfl hb17 rfl (by decide) ?_
      refine Qt.skip rfl rfl rfl hb17 rfl (by decide) ?_
      refine Qt.skip rfl rfl rfl hb17 rfl (by decide) ?_
      refine Qt.skip rfl rfl rfl hb17 rfl (by decide) ?_
      refine Qt.skip rfl rfl rfl hb17 rfl (by decide) ?_
      refine Qt.run rfl rfl (by decide) (Ev.pickT rfl hb17 rfl) ?_
      exact Qt.meet true ⟨rfl, rfl, rfl, rfl, trivial⟩ (some_inj H)
    replace H := ite_f hb17 H
    refine Qt.runG rfl rfl rfl hb17 rfl (by decide) (Ev.fieldAddr (off' := 0) rfl Try.runUnderlying47 rfl Try.sizeOf3 rfl rfl) ?_
    refine Qt.runG rfl rfl rfl hb17 rfl (by decide) (Ev.load (i := 4) rfl rfl Try.isAgg3 (v := .int .i64 a1.From) ((Mail.get_From (Get.here _)).off (by rfl))) ?_
    refine Qt.runG rfl rfl rfl hb17 rfl (by decide) (Ev.fieldAddr (off' := 1) rfl Try.runUnderlying47 rfl Try.sizeOf23 rfl rfl) ?_
    obtain ⟨x18, h19, H⟩ := bind_some H
    have g20 := vat_some h19
    refine Qt.runG rfl rfl rfl hb17 rfl (by decide) (Ev.indexAddr (off' := 1 + a1.From.toNat * 1) rfl rfl Try.runUnderlying23 Try.sizeOf3 g20.1 g20.2.1 rfl) ?_
    refine Qt.runG rfl rfl rfl hb17 rfl (by decide) (Ev.load (i := 4) rfl rfl Try.isAgg3 (v := .int .i64 x18) ((Mail.get_At (Get.vecN (s := 1) (x := x18) rfl g20.2.2 (Get.here _))).off (by omega))) ?_
    refine Qt.runG rfl rfl rfl hb17 rfl (by decide) (Ev.fieldAddr (off' := 0) rfl Try.runUnderlying47 rfl Try.sizeOf3 rfl rfl) ?_
    refine Qt.runG rfl rfl rfl hb17 rfl (by decide) (Ev.load (i := 4) rfl rfl Try.isAgg3 (v := .int .i64 a1.From) ((Mail.get_From (Get.here _)).off (by rfl))) ?_
    refine Qt.runG rfl rfl rfl hb17 rfl (by decide) (Ev.fieldAddr (off' := 1) rfl Try.runUnderlying45 rfl Try.sizeOf23 rfl rfl) ?_
    obtain ⟨x21, h22, H⟩ := bind_some H
    have g23 := vat_some h22
    refine Qt.runG rfl rfl rfl hb17 rfl (by decide) (Ev.indexAddr (off' := 1 + a1.From.toNat * 1) rfl rfl Try.runUnderlying23 Try.sizeOf3 g23.1 g23.2.1 rfl) ?_
    refine Qt.runG rfl rfl rfl hb17 rfl (by decide) (Ev.load (i := 5) rfl rfl Try.isAgg3 (v := .int .i64 x21) ((CausalR.get_Seen (Get.vecN (s := 1) (x := x21) rfl g23.2.2 (Get.here _))).off (by omega))) ?_
    refine Qt.runG rfl rfl rfl hb17 rfl (by decide) (Ev.leq rfl rfl) ?_
    refine Qt.run rfl rfl (by decide) (Ev.pickF rfl hb17 rfl) ?_
    exact Qt.meet (decide (x18 ≤ x21)) ⟨rfl, rfl, rfl, rfl, trivial⟩ (some_inj H)
  rintro y16 hy
  subst hy
  refine Qt.as (e' := [(2, .pointer (some ⟨b1, 0, none⟩)), (3, .pointer (some ⟨b3, 0, none⟩)), (4, .pointer (some ⟨b6, 0, none⟩)), (34, .bool y16)]) ⟨rfl, rfl, rfl, rfl, trivial⟩ ?_
  replace H := HKo15
  refine Qt.run rfl rfl (by decide) (Ev.move rfl) ?_
  obtain ⟨o24, H, HKo24⟩ := bind_some H
  refine Qt.join (σ := Bool) 5 (fun y25 => [(2, .pointer (some ⟨b1, 0, none⟩)), (3, .pointer (some ⟨b3, 0, none⟩)), (4, .pointer (some ⟨b6, 0, none⟩)), (40, .bool y25)]) (fun y25 => y25 = o24) ?_ ?_
  · rcases Bool.eq_false_or_eq_true y16 with hb26 | hb26
    · replace H := ite_t hb26 H
      refine Qt.skip rfl rfl rfl hb26 rfl (by decide) ?_
      refine Qt.skip rfl rfl rfl hb26 rfl (by decide) ?_
      refine Qt.skip rfl rfl rfl hb26 rfl (by decide) ?_
      refine Qt.skip rfl rfl rfl hb26 rfl (by decide) ?_
      refine Qt.run rfl rfl (by decide) (Ev.pickT rfl hb26 rfl) ?_
      exact Qt.meet true ⟨rfl, rfl, rfl, rfl, trivial⟩ (some_inj H)
    replace H := ite_f hb26 H
    refine Qt.runG rfl rfl rfl hb26 rfl (by decide) (Ev.fieldAddr (off' := 7) rfl Try.runUnderlying45 rfl Try.sizeOf43 rfl rfl) ?_
    refine Qt.runG rfl rfl rfl hb26 rfl (by decide) (Ev.load (i := 5) rfl rfl Try.isAgg43 (v := Sl.v s11) ((CausalR.get_Hold (Get.here _)).off (by rfl))) ?_
    refine Qt.runG rfl rfl rfl hb26 rfl (by decide) (Ev.makeFunc (us := []) (vs := [.pointer (some ⟨b3, 0, none⟩)]) trivial ⟨rfl, trivial⟩) ?_
    obtain ⟨r27, h28, H⟩ := bind_some H
    refine Qt.callG rfl rfl rfl hb26 rfl (by decide) (vs := [Sl.v s11, .func (.func 118) #[] #[.pointer (some ⟨b3, 0, none⟩)]]) ⟨rfl, rfl, trivial⟩ Try.call101 (Ok.isPerm (front_perm (i := 4) rfl) (slices_ContainsFunc_api_Mail_api_Mail_HearMail_1_sim h28 w0 _ _ _ (List.Sublist.refl _) (Rd.own (i := 0) rfl rfl rfl))) ?_
    refine Qt.run rfl rfl (by decide) (Ev.pickF rfl hb26 rfl) ?_
    exact Qt.meet r27 ⟨rfl, rfl, rfl, rfl, trivial⟩ (some_inj H)
  rintro y25 hy
  subst hy
  refine Qt.as (e' := [(2, .pointer (some ⟨b1, 0, none⟩)), (3, .pointer (some ⟨b3, 0, none⟩)), (4, .pointer (some ⟨b6, 0, none⟩)), (40, .bool y25)]) ⟨rfl, rfl, rfl, rfl, trivial⟩ ?_
  replace H := HKo24
  refine Qt.done ?_
  refine At.then ?_
  rcases Bool.eq_false_or_eq_true y25 with hb31 | hb31
  · replace H := ite_t hb31 H
    refine Cd.condT rfl hb31 ?_
    refine Cd.seq ?_
    refine Cd.region ?_
    refine Lst.run rfl rfl (by decide) (Ev.loadA (i := 5) rfl rfl Try.isAgg45 Try.sizeOf45 (ch := enc (CausalR.mk ({ a0 with Hold := r9 } : Causal) s11)) (Enc.len _) (Get.here _)) ?_
    refine Lst.store (i := 2) rfl rfl rfl rfl rfl Try.sizeOf45 (vs := enc (CausalR.mk ({ a0 with Hold := r9 } : Causal) s11)) rfl (Enc.len _) (Enc.one _) (cs' := enc (CausalR.mk ({ a0 with Hold := r9 } : Causal) s11)) (Put.here ((Enc.len _).trans (Enc.len _).symm)) (L' := (.own s11 47 8 (encs r9)) :: (.own Sl.nil 47 8 (encs ([] : List Mail))) :: (.blk b6 (enc (CausalR.mk ({ a0 with Hold := r9 } : Causal) s11)) 45) :: (.own Sl.nil 47 8 (encs ([] : List Mail))) :: (.blk b3 (enc a1) 47) :: (.blk b1 (enc (CausalR.mk ({ a0 with Hold := r9 } : Causal) s11)) 45) :: L) rfl ?_
    refine Lst.addNil 47 8 ?_
    refine Lst.run rfl rfl (by decide) (Ev.assign rfl) ?_
    refine Lst.run rfl rfl (by decide) (Ev.assign rfl) ?_
    refine Lst.nil ?_
    refine At.then ?_
    obtain rfl := some_inj H
    refine Cd.ret ?_
    refine At.then_ret ?_
    refine At.front (i := 1) rfl rfl ?_
    exact At.ret3 rfl (Res.cellA (i := 3) rfl rfl Try.isAgg45 Try.sizeOf45 (Enc.len _)) (Res.tmp rfl) (Res.tmp rfl) hF14 (List.Sublist.cons_cons _ (List.Sublist.cons_cons _ (List.Sublist.cons _ (List.Sublist.cons _ (List.Sublist.cons _ (List.Sublist.cons _ (List.Sublist.cons _ (List.Sublist.refl _)))))))) ⟨s11, Sl.nil, rfl, rfl⟩
  replace H := ite_f hb31 H
  refine Cd.condF rfl hb31 ?_
  refine Cd.skip ?_
  refine At.then ?_
  refine Cd.seq ?_
  obtain ⟨r33, h34, H⟩ := bind_some H
  obtain ⟨o46, h47, H⟩ := Let_some H
  refine Cd.headMeet (σ := Sl × (List Mail) × Sl × (List Mail)) 5 (fun (s42, l43, s44, l45) => [(2, .pointer (some ⟨b1, 0, none⟩)), (3, .pointer (some ⟨b3, 0, none⟩)), (4, .pointer (some ⟨b6, 0, none⟩)), (44, Sl.v s44), (46, Sl.v s42)]) (fun (s42, l43, s44, l45) => (.own s42 47 8 (encs l43)) :: (.own s44 47 8 (encs l45)) :: (.own s11 47 8 (encs r9)) :: (.own Sl.nil 47 8 (encs ([] : List Mail))) :: (.blk b6 (enc (CausalR.mk ({ Causal.zero with Hold := ([] : List Mail) } : Causal) Sl.nil)) 45) :: (.own Sl.nil 47 8 (encs ([] : List Mail))) :: (.blk b3 (enc a1) 47) :: (.blk b1 (enc (CausalR.mk ({ a0 with Hold := r9 } : Causal) s11)) 45) :: L) (fun _ (s42, l43, s44, l45) => (l43, l45) = o46) (by kernel_rfl) (by kernel_rfl) (behind_sink (by kernel_rfl) (by kernel_rfl) (by kernel_rfl)) (by kernel_rfl) (fun hsel hlt => ?_) ?_
  · refine HdJ.keep (fun w => St w0 F13 ((.own s11 47 8 (encs r9)) :: (.own Sl.nil 47 8 (encs ([] : List Mail))) :: (.blk b6 (enc (CausalR.mk ({ Causal.zero with Hold := ([] : List Mail) } : Causal) Sl.nil)) 45) :: (.own Sl.nil 47 8 (encs ([] : List Mail))) :: (.blk b3 (enc a1) 47) :: (.blk b1 (enc (CausalR.mk ({ a0 with Hold := r9 } : Causal) s11)) 45) :: L) w) (fun w h => trivial) ?_
    refine HdJ.takeK hsel hlt 0 (fun w h => h.sublist (List.Sublist.cons_cons _ (List.Sublist.cons_cons _ (List.Sublist.cons_cons _ (List.Sublist.cons_cons _ (List.Sublist.cons_cons _ (List.Sublist.cons_cons _ (List.Sublist.refl _)))))))) rfl rfl (by decide) (by decide) (by kernel_rfl) (by kernel_rfl) rfl (Ev.fieldAddr (off' := 7) rfl Try.runUnderlying45 rfl Try.sizeOf43 rfl rfl) ?_
    refine HdJ.takeK hsel hlt 1 (fun w h => h.sublist (List.Sublist.cons_cons _ (List.Sublist.cons_cons _ (List.Sublist.cons_cons _ (List.Sublist.cons_cons _ (List.Sublist.cons_cons _ (List.Sublist.cons_cons _ (List.Sublist.refl _)))))))) rfl rfl (by decide) (by decide) (by kernel_rfl) (by kernel_rfl) rfl (Ev.load (i := 5) rfl rfl Try.isAgg43 (v := Sl.v s11) ((CausalR.get_Hold (Get.here _)).off (by rfl))) ?_
    refine HdJ.takeK hsel hlt 3 (fun w h => h.sublist (List.Sublist.cons_cons _ (List.Sublist.cons_cons _ (List.Sublist.cons_cons _ (List.Sublist.cons_cons _ (List.Sublist.cons_cons _ (List.Sublist.cons_cons _ (List.Sublist.refl _)))))))) rfl rfl (by decide) (by decide) (by kernel_rfl) (by kernel_rfl) rfl (Ev.loadA (i := 4) rfl rfl Try.isAgg47 Try.sizeOf47 (ch := enc a1) (Enc.len _) (Get.here _)) ?_
    refine HdJ.step [2, 4] (by kernel_rfl) rfl ?_
    refine HdStep.cons (by decide) rfl (fun inv => ?_) ?_
    · refine Lst.call rfl rfl (by decide) (vs := [Sl.v s11]) ⟨rfl, trivial⟩ Try.call117 (slices_Clone_api_Mail_api_Mail_sim h34 w0 _ _ _ (List.Sublist.refl _) (Rd.own (i := 0) rfl rfl rfl)) (fun F49 L' v hF50 hv => ?_)
      obtain ⟨s48, rfl, rfl⟩ := hv
      refine Lst.nil ?_
      refine At.hd inv (fun w h => (h.weaken hF50).sublist (List.Sublist.cons _ (List.Sublist.cons_cons _ (List.Sublist.cons_cons _ (List.Sublist.cons_cons _ (List.Sublist.cons_cons _ (List.Sublist.cons_cons _ (List.Sublist.cons_cons _ (List.Sublist.refl _))))))))) ?_
      refine HdJ.step [4] (by kernel_rfl) rfl ?_
      refine HdStep.cons (by decide) rfl (fun inv => ?_) ?_
      · refine Lst.buildSlice (α := Mail) (xs := ([a1] : List Mail)) (pv := [(0, .agg (enc a1).toArray)]) rfl rfl (by decide) ⟨rfl, rfl, trivial⟩ (run_buildSlice (α := Mail) (z0 := Mail.zero) (xs := ([a1] : List Mail)) Try.runUnderlying43 Try.sizeOf47 Try.zeroValue47 rfl rfl rfl (by decide) rfl (fill_cons (cs := encs (List.replicate 1 Mail.zero)) (cs' := encs ((List.replicate 1 Mail.zero).set 0 a1)) (vs := enc a1) rfl rfl (Enc.len _) ((Put.elemN (s := 8) (i := 0) (x := Mail.zero) (y := a1) rfl rfl (Put.here ((Enc.len _).trans (Enc.len _).symm))).off rfl) fill_nil)) rfl rfl (by decide) (fun s51 _ => ?_)
        refine Lst.nil ?_
        refine At.hd inv (fun w h => (h.weaken hF50).sublist (List.Sublist.cons _ (List.Sublist.cons _ (List.Sublist.cons_cons _ (List.Sublist.cons_cons _ (List.Sublist.cons_cons _ (List.Sublist.cons_cons _ (List.Sublist.cons_cons _ (List.Sublist.cons_cons _ (List.Sublist.refl _)))))))))) ?_
        refine HdJ.done (by kernel_rfl) ?_
        exact At.meetN (s51, ([a1] : List Mail), s48, r33) hF50 ⟨rfl, rfl, rfl, rfl, rfl, trivial⟩ rfl h47
      exact trivial
    refine HdStep.cons (by decide) rfl (fun inv => ?_) ?_
    · refine Lst.buildSlice (α := Mail) (xs := ([a1] : List Mail)) (pv := [(0, .agg (enc a1).toArray)]) rfl rfl (by decide) ⟨rfl, rfl, trivial⟩ (run_buildSlice (α := Mail) (z0 := Mail.zero) (xs := ([a1] : List Mail)) Try.runUnderlying43 Try.sizeOf47 Try.zeroValue47 rfl rfl rfl (by decide) rfl (fill_cons (cs := encs (List.replicate 1 Mail.zero)) (cs' := encs ((List.replicate 1 Mail.zero).set 0 a1)) (vs := enc a1) rfl rfl (Enc.len _) ((Put.elemN (s := 8) (i := 0) (x := Mail.zero) (y := a1) rfl rfl (Put.here ((Enc.len _).trans (Enc.len _).symm))).off rfl) fill_nil)) rfl rfl (by decide) (fun s52 _ => ?_)
      refine Lst.nil ?_
      refine At.hd inv (fun w h => (h.weaken (FLe.refl _)).sublist (List.Sublist.cons _ (List.Sublist.cons_cons _ (List.Sublist.cons_cons _ (List.Sublist.cons_cons _ (List.Sublist.cons_cons _ (List.Sublist.cons_cons _ (List.Sublist.cons_cons _ (List.Sublist.refl _))))))))) ?_
      refine HdJ.step [2] (by kernel_rfl) rfl ?_
      refine HdStep.cons (by decide) rfl (fun inv => ?_) ?_
      · refine Lst.call rfl rfl (by decide) (vs := [Sl.v s11]) ⟨rfl, trivial⟩ Try.call117 (slices_Clone_api_Mail_api_Mail_sim h34 w0 _ _ _ (List.Sublist.refl _) (Rd.own (i := 1) rfl rfl rfl)) (fun F54 L' v hF55 hv => ?_)
        obtain ⟨s53, rfl, rfl⟩ := hv
        refine Lst.nil ?_
        refine At.hd inv (fun w h => (h.weaken hF55).sublist (List.Sublist.cons _ (List.Sublist.cons _ (List.Sublist.cons_cons _ (List.Sublist.cons_cons _ (List.Sublist.cons_cons _ (List.Sublist.cons_cons _ (List.Sublist.cons_cons _ (List.Sublist.cons_cons _ (List.Sublist.refl _)))))))))) ?_
        refine HdJ.done (by kernel_rfl) ?_
        refine At.front (i := 7) rfl rfl ?_
        refine At.front (i := 7) rfl rfl ?_
        refine At.front (i := 7) rfl rfl ?_
        refine At.front (i := 7) rfl rfl ?_
        refine At.front (i := 7) rfl rfl ?_
        refine At.front (i := 7) rfl rfl ?_
        refine At.front (i := 6) rfl rfl ?_
        refine At.front (i := 7) rfl rfl ?_
        exact At.meetN (s52, ([a1] : List Mail), s53, r33) hF55 ⟨rfl, rfl, rfl, rfl, rfl, trivial⟩ rfl h47
      exact trivial
    exact trivial
  rintro F56 ⟨s42, l43, s44, l45⟩ hF57 hy
  subst hy
  refine Lst.as (e' := [(2, .pointer (some ⟨b1, 0, none⟩)), (3, .pointer (some ⟨b3, 0, none⟩)), (4, .pointer (some ⟨b6, 0, none⟩)), (44, Sl.v s44), (46, Sl.v s42)]) (L' := (.own s42 47 8 (encs l43)) :: (.own s44 47 8 (encs l45)) :: (.own s11 47 8 (encs r9)) :: (.own Sl.nil 47 8 (encs ([] : List Mail))) :: (.blk b6 (enc (CausalR.mk ({ Causal.zero with Hold := ([] : List Mail) } : Causal) Sl.nil)) 45) :: (.own Sl.nil 47 8 (encs ([] : List Mail))) :: (.blk b3 (enc a1) 47) :: (.blk b1 (enc (CausalR.mk ({ a0 with Hold := r9 } : Causal) s11)) 45) :: L) ⟨rfl, rfl, rfl, rfl, rfl, trivial⟩ rfl ?_
  obtain ⟨u58, h59, H⟩ := bind_some H
  refine Lst.append (i := 1) (α := Mail) (xs := l45) (ys := l43) rfl rfl (by decide) rfl rfl Try.runUnderlying43 Try.typeInfo47 rfl rfl rfl rfl rfl rfl (Rd.own (i := 0) rfl rfl rfl) rfl (room_some h59) rfl (fun s60 => ?_)
  refine Lst.its (L' := (.own s42 47 8 (encs l43)) :: (.own s60 47 8 (encs (l45 ++ l43))) :: (.own s11 47 8 (encs r9)) :: (.own Sl.nil 47 8 (encs ([] : List Mail))) :: (.blk b6 (enc (CausalR.mk ({ Causal.zero with Hold := ([] : List Mail) } : Causal) Sl.nil)) 45) :: (.own Sl.nil 47 8 (encs ([] : List Mail))) :: (.blk b3 (enc a1) 47) :: (.blk b1 (enc (CausalR.mk ({ a0 with Hold := r9 } : Causal) s11)) 45) :: L) rfl ?_
  refine Lst.run rfl rfl (by decide) (Ev.assign rfl) ?_
  refine Lst.nil ?_
  refine At.then ?_
  refine Cd.seq ?_
  refine Cd.seq ?_
  refine Cd.region ?_
  refine Lst.run rfl rfl (by decide) (Ev.fieldAddr (off' := 1) rfl Try.runUnderlying45 rfl Try.sizeOf23 rfl rfl) ?_
  refine Lst.run rfl rfl (by decide) (Ev.loadA (i := 7) rfl rfl Try.isAgg23 Try.sizeOf23 (ch := enc a0.Seen) (Enc.len _) ((CausalR.get_Seen (Get.here _)).off (by rfl))) ?_
  refine Lst.run rfl rfl (by decide) (Ev.loadA (i := 6) rfl rfl Try.isAgg47 Try.sizeOf47 (ch := enc a1) (Enc.len _) (Get.here _)) ?_
  obtain ⟨r61, h62, H⟩ := bind_some H
  refine Lst.call1 rfl rfl (by decide) (vs := [.agg (enc a0.Seen).toArray, .agg (enc a1).toArray]) ⟨rfl, rfl, trivial⟩ Try.call100 (partref_MailReady_sim h62 w0 _ M _ (List.Sublist.cons _ (List.Sublist.cons _ (List.Sublist.cons _ (List.Sublist.cons _ (List.Sublist.cons _ (List.Sublist.cons _ (List.Sublist.cons _ (List.Sublist.cons _ hM))))))))) ?_
  refine Lst.run rfl rfl (by decide) (Ev.not rfl) ?_
  refine Lst.nil ?_
  refine At.then ?_
  rcases Bool.eq_false_or_eq_true (!r61) with hb65 | hb65
  · replace H := ite_t hb65 H
    refine Cd.condT rfl hb65 ?_
    refine Cd.seq ?_
    refine Cd.seq ?_
    refine Cd.region ?_
    refine Lst.run rfl rfl (by decide) (Ev.move rfl) ?_
    refine Lst.run rfl rfl (by decide) (Ev.lenS (α := Mail) (xs := (l45 ++ l43)) (by decide) rfl rfl Try.runUnderlying43 (Rd.own (i := 1) rfl rfl rfl)) ?_
    refine Lst.run rfl rfl (by decide) (Ev.gtr rfl rfl) ?_
    refine Lst.nil ?_
    refine At.then ?_
    rcases Bool.eq_false_or_eq_true (decide (((l45 ++ l43).length : Int) > (40 : Int))) with hb66 | hb66
    · replace H := ite_t hb66 H
      refine Cd.condT rfl hb66 ?_
      refine Cd.seq ?_
      refine Cd.region ?_
      refine Lst.run rfl rfl (by decide) (Ev.build (v := .agg (enc (CausalR.mk Causal.zero Sl.nil)).toArray) (pv := []) trivial (fun w => by kernel_rfl)) ?_
      refine Lst.store (i := 4) rfl rfl rfl rfl rfl Try.sizeOf45 (vs := enc (CausalR.mk Causal.zero Sl.nil)) rfl (Enc.len _) (Enc.one _) (cs' := enc (CausalR.mk Causal.zero Sl.nil)) (Put.here ((Enc.len _).trans (Enc.len _).symm)) (L' := (.own s42 47 8 (encs l43)) :: (.own s60 47 8 (encs (l45 ++ l43))) :: (.own s11 47 8 (encs r9)) :: (.own Sl.nil 47 8 (encs ([] : List Mail))) :: (.blk b6 (enc (CausalR.mk Causal.zero Sl.nil)) 45) :: (.own Sl.nil 47 8 (encs ([] : List Mail))) :: (.blk b3 (enc a1) 47) :: (.blk b1 (enc (CausalR.mk ({ a0 with Hold := r9 } : Causal) s11)) 45) :: L) rfl ?_
      refine Lst.addNil 47 8 ?_
      refine Lst.run rfl rfl (by decide) (Ev.assign rfl) ?_
      refine Lst.run rfl rfl (by decide) (Ev.assign rfl) ?_
      refine Lst.nil ?_
      refine At.then ?_
      obtain rfl := some_inj H
      refine Cd.ret ?_
      refine At.then_ret ?_
      refine At.then_ret ?_
      refine At.addNil 47 8 ?_
      exact At.ret3 rfl (Res.cellA (i := 6) rfl rfl Try.isAgg45 Try.sizeOf45 (Enc.len _)) (Res.tmp rfl) (Res.tmp rfl) (FLe.trans hF14 hF57) (List.Sublist.cons_cons _ (List.Sublist.cons_cons _ (List.Sublist.cons _ (List.Sublist.cons _ (List.Sublist.cons _ (List.Sublist.cons _ (List.Sublist.cons _ (List.Sublist.cons _ (List.Sublist.cons _ (List.Sublist.cons _ (List.Sublist.refl _))))))))))) ⟨Sl.nil, Sl.nil, rfl, rfl⟩
    replace H := ite_f hb66 H
    refine Cd.condF rfl hb66 ?_
    refine Cd.skip ?_
    refine At.then ?_
    refine Cd.seq ?_
    refine Cd.region ?_
    refine Lst.run rfl rfl (by decide) (Ev.move rfl) ?_
    refine Lst.run rfl rfl (by decide) (Ev.fieldAddr (off' := 7) rfl Try.runUnderlying45 rfl Try.sizeOf43 rfl rfl) ?_
    refine Lst.store (i := 7) rfl rfl rfl rfl rfl Try.sizeOf43 (vs := [Sl.v s60]) rfl rfl rfl (cs' := enc (CausalR.mk ({ a0 with Hold := l45 ++ l43 } : Causal) s60)) ((CausalR.put_Hold (Put.here (vs := [Sl.v s60]) rfl)).off (by rfl)) (L' := (.own s42 47 8 (encs l43)) :: (.own s60 47 8 (encs (l45 ++ l43))) :: (.own s11 47 8 (encs r9)) :: (.own Sl.nil 47 8 (encs ([] : List Mail))) :: (.blk b6 (enc (CausalR.mk ({ Causal.zero with Hold := ([] : List Mail) } : Causal) Sl.nil)) 45) :: (.own Sl.nil 47 8 (encs ([] : List Mail))) :: (.blk b3 (enc a1) 47) :: (.blk b1 (enc (CausalR.mk ({ a0 with Hold := l45 ++ l43 } : Causal) s60)) 45) :: L) rfl ?_
    refine Lst.nil ?_
    refine At.then ?_
    refine Cd.seq ?_
    refine Cd.as (e' := [(2, .pointer (some ⟨b1, 0, none⟩)), (4, .pointer (some ⟨b6, 0, none⟩))]) (L' := (.own s42 47 8 (encs l43)) :: (.own s60 47 8 (encs (l45 ++ l43))) :: (.own s11 47 8 (encs r9)) :: (.own Sl.nil 47 8 (encs ([] : List Mail))) :: (.blk b6 (enc (CausalR.mk ({ Causal.zero with Hold := ([] : List Mail) } : Causal) Sl.nil)) 45) :: (.own Sl.nil 47 8 (encs ([] : List Mail))) :: (.blk b3 (enc a1) 47) :: (.blk b1 (enc (CausalR.mk ({ a0 with Hold := l45 ++ l43 } : Causal) s60)) 45) :: L) ⟨rfl, rfl, trivial⟩ rfl ?_
    refine Cd.region ?_
    refine Lst.run rfl rfl (by decide) (Ev.loadA (i := 7) rfl rfl Try.isAgg45 Try.sizeOf45 (ch := enc (CausalR.mk ({ a0 with Hold := l45 ++ l43 } : Causal) s60)) (Enc.len _) (Get.here _)) ?_
    refine Lst.store (i := 4) rfl rfl rfl rfl rfl Try.sizeOf45 (vs := enc (CausalR.mk ({ a0 with Hold := l45 ++ l43 } : Causal) s60)) rfl (Enc.len _) (Enc.one _) (cs' := enc (CausalR.mk ({ a0 with Hold := l45 ++ l43 } : Causal) s60)) (Put.here ((Enc.len _).trans (Enc.len _).symm)) (L' := (.own s42 47 8 (encs l43)) :: (.own s60 47 8 (encs (l45 ++ l43))) :: (.own s11 47 8 (encs r9)) :: (.own Sl.nil 47 8 (encs ([] : List Mail))) :: (.blk b6 (enc (CausalR.mk ({ a0 with Hold := l45 ++ l43 } : Causal) s60)) 45) :: (.own Sl.nil 47 8 (encs ([] : List Mail))) :: (.blk b3 (enc a1) 47) :: (.blk b1 (enc (CausalR.mk ({ a0 with Hold := l45 ++ l43 } : Causal) s60)) 45) :: L) rfl ?_
    refine Lst.addNil 47 8 ?_
    refine Lst.run rfl rfl (by decide) (Ev.assign rfl) ?_
    refine Lst.run rfl rfl (by decide) (Ev.assign rfl) ?_
    refine Lst.nil ?_
    refine At.then ?_
    obtain rfl := some_inj H
    refine Cd.ret ?_
    refine At.then_ret ?_
    refine At.front (i := 2) rfl rfl ?_
    exact At.ret3 rfl (Res.cellA (i := 5) rfl rfl Try.isAgg45 Try.sizeOf45 (Enc.len _)) (Res.tmp rfl) (Res.tmp rfl) (FLe.trans hF14 hF57) (List.Sublist.cons_cons _ (List.Sublist.cons_cons _ (List.Sublist.cons _ (List.Sublist.cons _ (List.Sublist.cons _ (List.Sublist.cons _ (List.Sublist.cons _ (List.Sublist.cons _ (List.Sublist.cons _ (List.Sublist.refl _)))))))))) ⟨s60, Sl.nil, rfl, rfl⟩
  replace H := ite_f hb65 H
  refine Cd.condF rfl hb65 ?_
  refine Cd.skip ?_
  refine At.then ?_
  refine Cd.seq ?_
  refine Cd.region ?_
  refine Lst.addNil 47 8 ?_
  refine Lst.run rfl rfl (by decide) (Ev.assign rfl) ?_
  refine Lst.nil ?_
  refine At.then ?_
  refine Cd.seq ?_
  refine Cd.seq ?_
  refine Cd.region ?_
  refine Lst.run rfl rfl (by decide) (Ev.move rfl) ?_
  refine Lst.run rfl rfl (by decide) (Ev.lenS (α := Mail) (xs := (l45 ++ l43)) (by decide) rfl rfl Try.runUnderlying43 (Rd.own (i := 2) rfl rfl rfl)) ?_
  refine Lst.run rfl rfl (by decide) (Ev.sub rfl rfl) ?_
  refine Lst.run rfl rfl (by decide) (Ev.assign rfl) ?_
  refine Lst.nil ?_
  refine At.then ?_
  refine Cd.block ?_
  refine Cd.front (i := 8) rfl (L' := (.blk b1 (enc (CausalR.mk ({ a0 with Hold := r9 } : Causal) s11)) 45) :: (.own Sl.nil 47 8 (encs ([] : List Mail))) :: (.own s42 47 8 (encs l43)) :: (.own s60 47 8 (encs (l45 ++ l43))) :: (.own s11 47 8 (encs r9)) :: (.own Sl.nil 47 8 (encs ([] : List Mail))) :: (.blk b6 (enc (CausalR.mk ({ Causal.zero with Hold := ([] : List Mail) } : Causal) Sl.nil)) 45) :: (.own Sl.nil 47 8 (encs ([] : List Mail))) :: (.blk b3 (enc a1) 47) :: L) rfl ?_
  refine Cd.front (i := 8) rfl (L' := (.blk b3 (enc a1) 47) :: (.blk b1 (enc (CausalR.mk ({ a0 with Hold := r9 } : Causal) s11)) 45) :: (.own Sl.nil 47 8 (encs ([] : List Mail))) :: (.own s42 47 8 (encs l43)) :: (.own s60 47 8 (encs (l45 ++ l43))) :: (.own s11 47 8 (encs r9)) :: (.own Sl.nil 47 8 (encs ([] : List Mail))) :: (.blk b6 (enc (CausalR.mk ({ Causal.zero with Hold := ([] : List Mail) } : Causal) Sl.nil)) 45) :: (.own Sl.nil 47 8 (encs ([] : List Mail))) :: L) rfl ?_
  refine Cd.front (i := 8) rfl (L' := (.own Sl.nil 47 8 (encs ([] : List Mail))) :: (.blk b3 (enc a1) 47) :: (.blk b1 (enc (CausalR.mk ({ a0 with Hold := r9 } : Causal) s11)) 45) :: (.own Sl.nil 47 8 (encs ([] : List Mail))) :: (.own s42 47 8 (encs l43)) :: (.own s60 47 8 (encs (l45 ++ l43))) :: (.own s11 47 8 (encs r9)) :: (.own Sl.nil 47 8 (encs ([] : List Mail))) :: (.blk b6 (enc (CausalR.mk ({ Causal.zero with Hold := ([] : List Mail) } : Causal) Sl.nil)) 45) :: L) rfl ?_
  refine Cd.front (i := 8) rfl (L' := (.blk b6 (enc (CausalR.mk ({ Causal.zero with Hold := ([] : List Mail) } : Causal) Sl.nil)) 45) :: (.own Sl.nil 47 8 (encs ([] : List Mail))) :: (.blk b3 (enc a1) 47) :: (.blk b1 (enc (CausalR.mk ({ a0 with Hold := r9 } : Causal) s11)) 45) :: (.own Sl.nil 47 8 (encs ([] : List Mail))) :: (.own s42 47 8 (encs l43)) :: (.own s60 47 8 (encs (l45 ++ l43))) :: (.own s11 47 8 (encs r9)) :: (.own Sl.nil 47 8 (encs ([] : List Mail))) :: L) rfl ?_
  refine Cd.front (i := 8) rfl (L' := (.own Sl.nil 47 8 (encs ([] : List Mail))) :: (.blk b6 (enc (CausalR.mk ({ Causal.zero with Hold := ([] : List Mail) } : Causal) Sl.nil)) 45) :: (.own Sl.nil 47 8 (encs ([] : List Mail))) :: (.blk b3 (enc a1) 47) :: (.blk b1 (enc (CausalR.mk ({ a0 with Hold := r9 } : Causal) s11)) 45) :: (.own Sl.nil 47 8 (encs ([] : List Mail))) :: (.own s42 47 8 (encs l43)) :: (.own s60 47 8 (encs (l45 ++ l43))) :: (.own s11 47 8 (encs r9)) :: L) rfl ?_
  refine Cd.front (i := 8) rfl (L' := (.own s11 47 8 (encs r9)) :: (.own Sl.nil 47 8 (encs ([] : List Mail))) :: (.blk b6 (enc (CausalR.mk ({ Causal.zero with Hold := ([] : List Mail) } : Causal) Sl.nil)) 45) :: (.own Sl.nil 47 8 (encs ([] : List Mail))) :: (.blk b3 (enc a1) 47) :: (.blk b1 (enc (CausalR.mk ({ a0 with Hold := r9 } : Causal) s11)) 45) :: (.own Sl.nil 47 8 (encs ([] : List Mail))) :: (.own s42 47 8 (encs l43)) :: (.own s60 47 8 (encs (l45 ++ l43))) :: L) rfl ?_
  refine Cd.front (i := 7) rfl (L' := (.own s42 47 8 (encs l43)) :: (.own s11 47 8 (encs r9)) :: (.own Sl.nil 47 8 (encs ([] : List Mail))) :: (.blk b6 (enc (CausalR.mk ({ Causal.zero with Hold := ([] : List Mail) } : Causal) Sl.nil)) 45) :: (.own Sl.nil 47 8 (encs ([] : List Mail))) :: (.blk b3 (enc a1) 47) :: (.blk b1 (enc (CausalR.mk ({ a0 with Hold := r9 } : Causal) s11)) 45) :: (.own Sl.nil 47 8 (encs ([] : List Mail))) :: (.own s60 47 8 (encs (l45 ++ l43))) :: L) rfl ?_
  refine Cd.front (i := 7) rfl (L' := (.own Sl.nil 47 8 (encs ([] : List Mail))) :: (.own s42 47 8 (encs l43)) :: (.own s11 47 8 (encs r9)) :: (.own Sl.nil 47 8 (encs ([] : List Mail))) :: (.blk b6 (enc (CausalR.mk ({ Causal.zero with Hold := ([] : List Mail) } : Causal) Sl.nil)) 45) :: (.own Sl.nil 47 8 (encs ([] : List Mail))) :: (.blk b3 (enc a1) 47) :: (.blk b1 (enc (CausalR.mk ({ a0 with Hold := r9 } : Causal) s11)) 45) :: (.own s60 47 8 (encs (l45 ++ l43))) :: L) rfl ?_
  refine Cd.front (i := 8) rfl (L' := (.own s60 47 8 (encs (l45 ++ l43))) :: (.own Sl.nil 47 8 (encs ([] : List Mail))) :: (.own s42 47 8 (encs l43)) :: (.own s11 47 8 (encs r9)) :: (.own Sl.nil 47 8 (encs ([] : List Mail))) :: (.blk b6 (enc (CausalR.mk ({ Causal.zero with Hold := ([] : List Mail) } : Causal) Sl.nil)) 45) :: (.own Sl.nil 47 8 (encs ([] : List Mail))) :: (.blk b3 (enc a1) 47) :: (.blk b1 (enc (CausalR.mk ({ a0 with Hold := r9 } : Causal) s11)) 45) :: L) rfl ?_
  obtain ⟨ol71, H, HKl71⟩ := andThen_some H
  refine Cd.loop (σ := Nat × Sl × (List Mail) × Int × Causal × Sl × (List Mail)) (fun (k71, s72, l73, y75, y76, s77, l78) => [(2, .pointer (some ⟨b1, 0, none⟩)), (4, .pointer (some ⟨b6, 0, none⟩)), (7, Sl.v s72), (8, Sl.v s77), (9, .int .i64 y75)]) (fun (k71, s72, l73, y75, y76, s77, l78) => (.own s72 47 8 (encs l73)) :: (.own s77 47 8 (encs l78)) :: (.own s42 47 8 (encs l43)) :: (.own s11 47 8 (encs r9)) :: (.own Sl.nil 47 8 (encs ([] : List Mail))) :: (.blk b6 (enc (CausalR.mk ({ Causal.zero with Hold := ([] : List Mail) } : Causal) Sl.nil)) 45) :: (.own Sl.nil 47 8 (encs ([] : List Mail))) :: (.blk b3 (enc a1) 47) :: (.blk b1 (enc (CausalR.mk ({ y76 with Hold := r9 } : Causal) s11)) 45) :: L) (fun _ => (fun (k71, s72, l73, y75, y76, s77, l78) => whileM (partref_HearMail_B0 r9) k71 (l73, y75, y76, l78) = some ol71)) (fun (k71, s72, l73, y75, y76, s77, l78) => k71) (fu, s60, l45 ++ l43, w64 (((l45 ++ l43).length : Int) - (1 : Int)), ({ a0 with Hold := r9 } : Causal), Sl.nil, ([] : List Mail)) ⟨rfl, rfl, rfl, rfl, rfl, trivial⟩ rfl H ?_
  rintro F79 ⟨k71, s72, l73, y75, y76, s77, l78⟩ hF80 H
  refine Cd.as (e' := [(2, .pointer (some ⟨b1, 0, none⟩)), (4, .pointer (some ⟨b6, 0, none⟩)), (7, Sl.v s72), (8, Sl.v s77), (9, .int .i64 y75)]) (L' := (.own s72 47 8 (encs l73)) :: (.own s77 47 8 (encs l78)) :: (.own s42 47 8 (encs l43)) :: (.own s11 47 8 (encs r9)) :: (.own Sl.nil 47 8 (encs ([] : List Mail))) :: (.blk b6 (enc (CausalR.mk ({ Causal.zero with Hold := ([] : List Mail) } : Causal) Sl.nil)) 45) :: (.own Sl.nil 47 8 (encs ([] : List Mail))) :: (.blk b3 (enc a1) 47) :: (.blk b1 (enc (CausalR.mk ({ y76 with Hold := r9 } : Causal) s11)) 45) :: L) ⟨rfl, rfl, rfl, rfl, rfl, trivial⟩ rfl ?_
  rcases k71 with _ | k71
  · cases H
  obtain ⟨c71, H, hgo71, hbrk71, hret71⟩ := whileM_go H
  unfold partref_HearMail_B0 at H
  try dsimp only at H
  refine Cd.seq ?_
  refine Cd.seq ?_
  refine Cd.region ?_
  refine Lst.run rfl rfl (by decide) (Ev.move rfl) ?_
  refine Lst.run rfl rfl (by decide) (Ev.geq rfl rfl) ?_
  refine Lst.nil ?_
  refine At.then ?_
  rcases (Bool.eq_false_or_eq_true (decide (y75 ≥ (0 : Int)))).symm with hb81 | hb81
  · replace H := ite_f hb81 H
    refine Cd.condF rfl hb81 ?_
    refine Cd.exit ?_
    refine At.then_exit ?_
    refine At.then_exit ?_
    refine At.in_exit ?_
    have H := hbrk71 _ (some_inj H).symm
    subst H
    replace H := HKl71
    refine At.then ?_
    refine Cd.seq ?_
    refine Cd.region ?_
    refine Lst.run rfl rfl (by decide) (Ev.fieldAddr (off' := 7) rfl Try.runUnderlying45 rfl Try.sizeOf43 rfl rfl) ?_
    refine Lst.addNil 47 8 ?_
    refine Lst.store (i := 9) rfl rfl rfl rfl rfl Try.sizeOf43 (vs := [Sl.v Sl.nil]) rfl rfl rfl (cs' := enc (CausalR.mk ({ y76 with Hold := ([] : List Mail) } : Causal) Sl.nil)) ((CausalR.put_Hold (Put.here (vs := [Sl.v Sl.nil]) rfl)).off (by rfl)) (L' := (.own Sl.nil 47 8 (encs ([] : List Mail))) :: (.own s72 47 8 (encs l73)) :: (.own s77 47 8 (encs l78)) :: (.own s42 47 8 (encs l43)) :: (.own s11 47 8 (encs r9)) :: (.own Sl.nil 47 8 (encs ([] : List Mail))) :: (.blk b6 (enc (CausalR.mk ({ Causal.zero with Hold := ([] : List Mail) } : Causal) Sl.nil)) 45) :: (.own Sl.nil 47 8 (encs ([] : List Mail))) :: (.blk b3 (enc a1) 47) :: (.blk b1 (enc (CausalR.mk ({ y76 with Hold := ([] : List Mail) } : Causal) Sl.nil)) 45) :: L) rfl ?_
    refine Lst.nil ?_
    refine At.then ?_
    refine Cd.seq ?_
    refine Cd.seq ?_
    refine Cd.region ?_
    refine Lst.run rfl rfl (by decide) (Ev.move rfl) ?_
    refine Lst.run rfl rfl (by decide) (Ev.lenS (α := Mail) (xs := l73) (by decide) rfl rfl Try.runUnderlying43 (Rd.own (i := 1) rfl rfl rfl)) ?_
    refine Lst.run rfl rfl (by decide) (Ev.move rfl) ?_
    refine Lst.nil ?_
    refine At.then ?_
    refine Cd.block ?_
    refine Cd.bound (Rd.le (α := Mail) (xs := l73) (by decide) (Rd.own (i := 1) rfl rfl rfl)) (fun hN106 => ?_)
    obtain ⟨ol83, H, HKl83⟩ := bind_some H
    refine Cd.loop (σ := Nat × Nat × Causal × Sl × (List Mail)) (fun (i83, k83, y84, s85, l86) => [(2, .pointer (some ⟨b1, 0, none⟩)), (4, .pointer (some ⟨b6, 0, none⟩)), (8, Sl.v s77), (90, Sl.v s72), (91, .int .i64 (l73.length : Int)), (92, .int .i64 (i83 : Int))]) (fun (i83, k83, y84, s85, l86) => (.own s85 47 8 (encs l86)) :: (.own s72 47 8 (encs l73)) :: (.own s77 47 8 (encs l78)) :: (.own s42 47 8 (encs l43)) :: (.own s11 47 8 (encs r9)) :: (.own Sl.nil 47 8 (encs ([] : List Mail))) :: (.blk b6 (enc (CausalR.mk ({ Causal.zero with Hold := ([] : List Mail) } : Causal) Sl.nil)) 45) :: (.own Sl.nil 47 8 (encs ([] : List Mail))) :: (.blk b3 (enc a1) 47) :: (.blk b1 (enc (CausalR.mk ({ y84 with Hold := l86 } : Causal) s85)) 45) :: L) (fun _ => (fun (i83, k83, y84, s85, l86) => rangeF (partref_HearMail_B2 l73) k83 i83 (y84, l86) = some ol83 ∧ i83 + k83 = l73.length)) (fun (i83, k83, y84, s85, l86) => k83) (0, l73.length, ({ y76 with Hold := ([] : List Mail) } : Causal), Sl.nil, ([] : List Mail)) ⟨rfl, rfl, rfl, rfl, rfl, rfl, trivial⟩ rfl ⟨H, by omega⟩ ?_
    rintro F87 ⟨i83, k83, y84, s85, l86⟩ hF88 ⟨H, hik83⟩
    refine Cd.as (e' := [(2, .pointer (some ⟨b1, 0, none⟩)), (4, .pointer (some ⟨b6, 0, none⟩)), (8, Sl.v s77), (90, Sl.v s72), (91, .int .i64 (l73.length : Int)), (92, .int .i64 (i83 : Int))]) (L' := (.own s85 47 8 (encs l86)) :: (.own s72 47 8 (encs l73)) :: (.own s77 47 8 (encs l78)) :: (.own s42 47 8 (encs l43)) :: (.own s11 47 8 (encs r9)) :: (.own Sl.nil 47 8 (encs ([] : List Mail))) :: (.blk b6 (enc (CausalR.mk ({ Causal.zero with Hold := ([] : List Mail) } : Causal) Sl.nil)) 45) :: (.own Sl.nil 47 8 (encs ([] : List Mail))) :: (.blk b3 (enc a1) 47) :: (.blk b1 (enc (CausalR.mk ({ y84 with Hold := l86 } : Causal) s85)) 45) :: L) ⟨rfl, rfl, rfl, rfl, rfl, rfl, trivial⟩ rfl ?_
    rcases k83 with _ | k83
    · have hc83 : decide ((i83 : Int) < (l73.length : Int)) = false := decide_eq_false (by omega)
      replace H := rangeF_end H
      refine Cd.seq ?_
      refine Cd.region ?_
      refine Lst.run rfl rfl (by decide) (Ev.lss rfl rfl) ?_
      refine Lst.nil ?_
      refine At.then ?_
      refine Cd.seq ?_
      refine Cd.condF rfl hc83 ?_
      refine Cd.exit ?_
      refine At.then_exit ?_
      refine At.then_exit ?_
      refine At.in_exit ?_
      subst H
      replace H := HKl83
      refine At.then ?_
      refine Cd.seq ?_
      refine Cd.region ?_
      refine Lst.run rfl rfl (by decide) (Ev.loadA (i := 9) rfl rfl Try.isAgg45 Try.sizeOf45 (ch := enc (CausalR.mk ({ y84 with Hold := l86 } : Causal) s85)) (Enc.len _) (Get.here _)) ?_
      refine Lst.run rfl rfl (by decide) (Ev.move rfl) ?_
      refine Lst.store (i := 6) rfl rfl rfl rfl rfl Try.sizeOf45 (vs := enc (CausalR.mk ({ y84 with Hold := l86 } : Causal) s85)) rfl (Enc.len _) (Enc.one _) (cs' := enc (CausalR.mk ({ y84 with Hold := l86 } : Causal) s85)) (Put.here ((Enc.len _).trans (Enc.len _).symm)) (L' := (.own s85 47 8 (encs l86)) :: (.own s72 47 8 (encs l73)) :: (.own s77 47 8 (encs l78)) :: (.own s42 47 8 (encs l43)) :: (.own s11 47 8 (encs r9)) :: (.own Sl.nil 47 8 (encs ([] : List Mail))) :: (.blk b6 (enc (CausalR.mk ({ y84 with Hold := l86 } : Causal) s85)) 45) :: (.own Sl.nil 47 8 (encs ([] : List Mail))) :: (.blk b3 (enc a1) 47) :: (.blk b1 (enc (CausalR.mk ({ y84 with Hold := l86 } : Causal) s85)) 45) :: L) rfl ?_
      refine Lst.run rfl rfl (by decide) (Ev.assign rfl) ?_
      refine Lst.run rfl rfl (by decide) (Ev.assign rfl) ?_
      refine Lst.nil ?_
      refine At.then ?_
      obtain rfl := some_inj H
      refine Cd.ret ?_
      exact At.ret3 rfl (Res.cellA (i := 6) rfl rfl Try.isAgg45 Try.sizeOf45 (Enc.len _)) (Res.tmp rfl) (Res.tmp rfl) (FLe.trans (FLe.trans (FLe.trans hF14 hF57) hF80) hF88) (List.Sublist.cons_cons _ (List.Sublist.cons _ (List.Sublist.cons_cons _ (List.Sublist.cons _ (List.Sublist.cons _ (List.Sublist.cons _ (List.Sublist.cons _ (List.Sublist.cons _ (List.Sublist.cons _ (List.Sublist.cons _ (List.Sublist.refl _))))))))))) ⟨s85, s77, rfl, rfl⟩
    have hc83 : decide ((i83 : Int) < (l73.length : Int)) = true := decide_eq_true (by omega)
    obtain ⟨c83, H, hgo83⟩ := rangeF_go H
    unfold partref_HearMail_B2 at H
    try dsimp only at H
    refine Cd.seq ?_
    refine Cd.region ?_
    refine Lst.run rfl rfl (by decide) (Ev.lss rfl rfl) ?_
    refine Lst.nil ?_
    refine At.then ?_
    refine Cd.seq ?_
    refine Cd.condT rfl hc83 ?_
    refine Cd.skip ?_
    refine At.then ?_
    refine Cd.seq ?_
    refine Cd.block ?_
    refine Cd.seq ?_
    refine Cd.region ?_
    obtain ⟨x89, h90, H⟩ := bind_some H
    have g91 := lat_some h90
    refine Lst.run rfl rfl (by decide) (Ev.indexS (α := Mail) (xs := l73) rfl rfl Try.runUnderlying43 Try.sizeOf47 rfl (by decide) (Rd.own (i := 1) rfl rfl rfl) g91.1 g91.2.1) ?_
    refine Lst.run rfl rfl (by decide) (Ev.loadSA (α := Mail) rfl (Rd.own (i := 1) rfl rfl rfl) Try.isAgg47 Try.sizeOf47 (ch := enc x89) (Enc.len _) (by decide) ((Get.elemN (s := 8) (x := x89) rfl g91.2.2 (Get.here _)).off (by omega))) ?_
    refine Lst.alloc (cs := enc Mail.zero) rfl rfl (by decide) Try.zeroValue47 rfl (fun b92 => ?_)
    refine Lst.store (i := 0) rfl rfl rfl rfl rfl Try.sizeOf47 (vs := enc x89) rfl (Enc.len _) (Enc.one _) (cs' := enc x89) (Put.here ((Enc.len _).trans (Enc.len _).symm)) (L' := (.blk b92 (enc x89) 47) :: (.own s85 47 8 (encs l86)) :: (.own s72 47 8 (encs l73)) :: (.own s77 47 8 (encs l78)) :: (.own s42 47 8 (encs l43)) :: (.own s11 47 8 (encs r9)) :: (.own Sl.nil 47 8 (encs ([] : List Mail))) :: (.blk b6 (enc (CausalR.mk ({ Causal.zero with Hold := ([] : List Mail) } : Causal) Sl.nil)) 45) :: (.own Sl.nil 47 8 (encs ([] : List Mail))) :: (.blk b3 (enc a1) 47) :: (.blk b1 (enc (CausalR.mk ({ y84 with Hold := l86 } : Causal) s85)) 45) :: L) rfl ?_
    refine Lst.nil ?_
    refine At.then ?_
    refine Cd.seq ?_
    refine Cd.quiet (by kernel_rfl) (by kernel_rfl) ?_
    refine Qt.run rfl rfl (by decide) (Ev.fieldAddr (off' := 0) rfl Try.runUnderlying47 rfl Try.sizeOf3 rfl rfl) ?_
    refine Qt.run rfl rfl (by decide) (Ev.load (i := 0) rfl rfl Try.isAgg3 (v := .int .i64 x89.From) ((Mail.get_From (Get.here _)).off (by rfl))) ?_
    refine Qt.run rfl rfl (by decide) (Ev.fieldAddr (off' := 1) rfl Try.runUnderlying47 rfl Try.sizeOf23 rfl rfl) ?_
    obtain ⟨x94, h95, H⟩ := bind_some H
    have g96 := vat_some h95
    refine Qt.run rfl rfl (by decide) (Ev.indexAddr (off' := 1 + x89.From.toNat * 1) rfl rfl Try.runUnderlying23 Try.sizeOf3 g96.1 g96.2.1 rfl) ?_
    refine Qt.run rfl rfl (by decide) (Ev.load (i := 0) rfl rfl Try.isAgg3 (v := .int .i64 x94) ((Mail.get_At (Get.vecN (s := 1) (x := x94) rfl g96.2.2 (Get.here _))).off (by omega))) ?_
    refine Qt.run rfl rfl (by decide) (Ev.fieldAddr (off' := 0) rfl Try.runUnderlying47 rfl Try.sizeOf3 rfl rfl) ?_
    refine Qt.run rfl rfl (by decide) (Ev.load (i := 0) rfl rfl Try.isAgg3 (v := .int .i64 x89.From) ((Mail.get_From (Get.here _)).off (by rfl))) ?_
    refine Qt.run rfl rfl (by decide) (Ev.fieldAddr (off' := 1) rfl Try.runUnderlying45 rfl Try.sizeOf23 rfl rfl) ?_
    obtain ⟨x97, h98, H⟩ := bind_some H
    have g99 := vat_some h98
    refine Qt.run rfl rfl (by decide) (Ev.indexAddr (off' := 1 + x89.From.toNat * 1) rfl rfl Try.runUnderlying23 Try.sizeOf3 g99.1 g99.2.1 rfl) ?_
    refine Qt.run rfl rfl (by decide) (Ev.load (i := 10) rfl rfl Try.isAgg3 (v := .int .i64 x97) ((CausalR.get_Seen (Get.vecN (s := 1) (x := x97) rfl g99.2.2 (Get.here _))).off (by omega))) ?_
    refine Qt.run rfl rfl (by decide) (Ev.gtr rfl rfl) ?_
    refine Qt.done ?_
    refine At.then ?_
    rcases (Bool.eq_false_or_eq_true (decide (x94 > x97))).symm with hb100 | hb100
    · replace H := ite_f hb100 H
      refine Cd.condF rfl hb100 ?_
      refine Cd.skip ?_
      refine At.in_normal ?_
      refine At.then ?_
      refine Cd.as (e' := [(2, .pointer (some ⟨b1, 0, none⟩)), (4, .pointer (some ⟨b6, 0, none⟩)), (8, Sl.v s77), (90, Sl.v s72), (91, .int .i64 (l73.length : Int)), (92, .int .i64 (i83 : Int))]) (L' := (.blk b92 (enc x89) 47) :: (.own s85 47 8 (encs l86)) :: (.own s72 47 8 (encs l73)) :: (.own s77 47 8 (encs l78)) :: (.own s42 47 8 (encs l43)) :: (.own s11 47 8 (encs r9)) :: (.own Sl.nil 47 8 (encs ([] : List Mail))) :: (.blk b6 (enc (CausalR.mk ({ Causal.zero with Hold := ([] : List Mail) } : Causal) Sl.nil)) 45) :: (.own Sl.nil 47 8 (encs ([] : List Mail))) :: (.blk b3 (enc a1) 47) :: (.blk b1 (enc (CausalR.mk ({ y84 with Hold := l86 } : Causal) s85)) 45) :: L) ⟨rfl, rfl, rfl, rfl, rfl, rfl, trivial⟩ rfl ?_
      refine Cd.region ?_
      refine Lst.run rfl rfl (by decide) (Ev.incr (by omega) rfl rfl) ?_
      refine Lst.run rfl rfl (by decide) (Ev.move rfl) ?_
      refine Lst.nil ?_
      refine At.less (L' := (.own s85 47 8 (encs l86)) :: (.own s72 47 8 (encs l73)) :: (.own s77 47 8 (encs l78)) :: (.own s42 47 8 (encs l43)) :: (.own s11 47 8 (encs r9)) :: (.own Sl.nil 47 8 (encs ([] : List Mail))) :: (.blk b6 (enc (CausalR.mk ({ Causal.zero with Hold := ([] : List Mail) } : Causal) Sl.nil)) 45) :: (.own Sl.nil 47 8 (encs ([] : List Mail))) :: (.blk b3 (enc a1) 47) :: (.blk b1 (enc (CausalR.mk ({ y84 with Hold := l86 } : Causal) s85)) 45) :: L) (List.Sublist.cons _ (List.Sublist.cons_cons _ (List.Sublist.cons_cons _ (List.Sublist.cons_cons _ (List.Sublist.cons_cons _ (List.Sublist.cons_cons _ (List.Sublist.cons_cons _ (List.Sublist.cons_cons _ (List.Sublist.cons_cons _ (List.Sublist.cons_cons _ (List.Sublist.cons_cons _ (List.Sublist.refl _)))))))))))) ?_
      exact At.meet (i83 + 1, k83, ({ y84 with Hold := l86 } : Causal), s85, l86) hF88 ⟨rfl, rfl, rfl, rfl, rfl, rfl, trivial⟩ rfl ⟨⟨hgo83 _ (some_inj H).symm, by omega⟩, Nat.lt_succ_self _⟩
    replace H := ite_t hb100 H
    refine Cd.condT rfl hb100 ?_
    refine Cd.region ?_
    refine Lst.run rfl rfl (by decide) (Ev.fieldAddr (off' := 7) rfl Try.runUnderlying45 rfl Try.sizeOf43 rfl rfl) ?_
    refine Lst.run rfl rfl (by decide) (Ev.load (i := 10) rfl rfl Try.isAgg43 (v := Sl.v s85) ((CausalR.get_Hold (Get.here _)).off (by rfl))) ?_
    refine Lst.run rfl rfl (by decide) (Ev.loadA (i := 0) rfl rfl Try.isAgg47 Try.sizeOf47 (ch := enc x89) (Enc.len _) (Get.here _)) ?_
    refine Lst.buildSlice (α := Mail) (xs := ([x89] : List Mail)) (pv := [(0, .agg (enc x89).toArray)]) rfl rfl (by decide) ⟨rfl, rfl, trivial⟩ (run_buildSlice (α := Mail) (z0 := Mail.zero) (xs := ([x89] : List Mail)) Try.runUnderlying43 Try.sizeOf47 Try.zeroValue47 rfl rfl rfl (by decide) rfl (fill_cons (cs := encs (List.replicate 1 Mail.zero)) (cs' := encs ((List.replicate 1 Mail.zero).set 0 x89)) (vs := enc x89) rfl rfl (Enc.len _) ((Put.elemN (s := 8) (i := 0) (x := Mail.zero) (y := x89) rfl rfl (Put.here ((Enc.len _).trans (Enc.len _).symm))).off rfl) fill_nil)) rfl rfl (by decide) (fun s101 _ => ?_)
    obtain ⟨u103, h104, H⟩ := bind_some H
    refine Lst.append (i := 2) (α := Mail) (xs := l86) (ys := ([x89] : List Mail)) rfl rfl (by decide) rfl rfl Try.runUnderlying43 Try.typeInfo47 rfl rfl rfl rfl rfl rfl (Rd.own (i := 0) rfl rfl rfl) rfl (room_some h104) rfl (fun s105 => ?_)
    refine Lst.its (L' := (.own s101 47 8 (encs ([x89] : List Mail))) :: (.blk b92 (enc x89) 47) :: (.own s105 47 8 (encs (l86 ++ ([x89] : List Mail)))) :: (.own s72 47 8 (encs l73)) :: (.own s77 47 8 (encs l78)) :: (.own s42 47 8 (encs l43)) :: (.own s11 47 8 (encs r9)) :: (.own Sl.nil 47 8 (encs ([] : List Mail))) :: (.blk b6 (enc (CausalR.mk ({ Causal.zero with Hold := ([] : List Mail) } : Causal) Sl.nil)) 45) :: (.own Sl.nil 47 8 (encs ([] : List Mail))) :: (.blk b3 (enc a1) 47) :: (.blk b1 (enc (CausalR.mk y84 s85)) 45) :: L) rfl ?_
    refine Lst.run rfl rfl (by decide) (Ev.fieldAddr (off' := 7) rfl Try.runUnderlying45 rfl Try.sizeOf43 rfl rfl) ?_
    refine Lst.store (i := 11) rfl rfl rfl rfl rfl Try.sizeOf43 (vs := [Sl.v s105]) rfl rfl rfl (cs' := enc (CausalR.mk ({ y84 with Hold := l86 ++ ([x89] : List Mail) } : Causal) s105)) ((CausalR.put_Hold (Put.here (vs := [Sl.v s105]) rfl)).off (by rfl)) (L' := (.own s101 47 8 (encs ([x89] : List Mail))) :: (.blk b92 (enc x89) 47) :: (.own s105 47 8 (encs (l86 ++ ([x89] : List Mail)))) :: (.own s72 47 8 (encs l73)) :: (.own s77 47 8 (encs l78)) :: (.own s42 47 8 (encs l43)) :: (.own s11 47 8 (encs r9)) :: (.own Sl.nil 47 8 (encs ([] : List Mail))) :: (.blk b6 (enc (CausalR.mk ({ Causal.zero with Hold := ([] : List Mail) } : Causal) Sl.nil)) 45) :: (.own Sl.nil 47 8 (encs ([] : List Mail))) :: (.blk b3 (enc a1) 47) :: (.blk b1 (enc (CausalR.mk ({ y84 with Hold := l86 ++ ([x89] : List Mail) } : Causal) s105)) 45) :: L) rfl ?_
    refine Lst.nil ?_
    refine At.in_normal ?_
    refine At.then ?_
    refine Cd.as (e' := [(2, .pointer (some ⟨b1, 0, none⟩)), (4, .pointer (some ⟨b6, 0, none⟩)), (8, Sl.v s77), (90, Sl.v s72), (91, .int .i64 (l73.length : Int)), (92, .int .i64 (i83 : Int))]) (L' := (.own s101 47 8 (encs ([x89] : List Mail))) :: (.blk b92 (enc x89) 47) :: (.own s105 47 8 (encs (l86 ++ ([x89] : List Mail)))) :: (.own s72 47 8 (encs l73)) :: (.own s77 47 8 (encs l78)) :: (.own s42 47 8 (encs l43)) :: (.own s11 47 8 (encs r9)) :: (.own Sl.nil 47 8 (encs ([] : List Mail))) :: (.blk b6 (enc (CausalR.mk ({ Causal.zero with Hold := ([] : List Mail) } : Causal) Sl.nil)) 45) :: (.own Sl.nil 47 8 (encs ([] : List Mail))) :: (.blk b3 (enc a1) 47) :: (.blk b1 (enc (CausalR.mk ({ y84 with Hold := l86 ++ ([x89] : List Mail) } : Causal) s105)) 45) :: L) ⟨rfl, rfl, rfl, rfl, rfl, rfl, trivial⟩ rfl ?_
    refine Cd.region ?_
    refine Lst.run rfl rfl (by decide) (Ev.incr (by omega) rfl rfl) ?_
    refine Lst.run rfl rfl (by decide) (Ev.move rfl) ?_
    refine Lst.nil ?_
    refine At.less (L' := (.own s105 47 8 (encs (l86 ++ ([x89] : List Mail)))) :: (.own s72 47 8 (encs l73)) :: (.own s77 47 8 (encs l78)) :: (.own s42 47 8 (encs l43)) :: (.own s11 47 8 (encs r9)) :: (.own Sl.nil 47 8 (encs ([] : List Mail))) :: (.blk b6 (enc (CausalR.mk ({ Causal.zero with Hold := ([] : List Mail) } : Causal) Sl.nil)) 45) :: (.own Sl.nil 47 8 (encs ([] : List Mail))) :: (.blk b3 (enc a1) 47) :: (.blk b1 (enc (CausalR.mk ({ y84 with Hold := l86 ++ ([x89] : List Mail) } : Causal) s105)) 45) :: L) (List.Sublist.cons _ (List.Sublist.cons _ (List.Sublist.cons_cons _ (List.Sublist.cons_cons _ (List.Sublist.cons_cons _ (List.Sublist.cons_cons _ (List.Sublist.cons_cons _ (List.Sublist.cons_cons _ (List.Sublist.cons_cons _ (List.Sublist.cons_cons _ (List.Sublist.cons_cons _ (List.Sublist.cons_cons _ (List.Sublist.refl _))))))))))))) ?_
    exact At.meet (i83 + 1, k83, ({ y84 with Hold := l86 ++ ([x89] : List Mail) } : Causal), s105, l86 ++ ([x89] : List Mail)) hF88 ⟨rfl, rfl, rfl, rfl, rfl, rfl, trivial⟩ rfl ⟨⟨hgo83 _ (some_inj H).symm, by omega⟩, Nat.lt_succ_self _⟩
  replace H := ite_t hb81 H
  refine Cd.condT rfl hb81 ?_
  refine Cd.skip ?_
  refine At.then ?_
  refine Cd.block ?_
  refine Cd.seq ?_
  refine Cd.region ?_
  refine Lst.run rfl rfl (by decide) (Ev.move rfl) ?_
  refine Lst.run rfl rfl (by decide) (Ev.move rfl) ?_
  obtain ⟨x107, h108, H⟩ := bind_some H
  have g109 := lat_some h108
  refine Lst.run rfl rfl (by decide) (Ev.indexS (α := Mail) (xs := l73) rfl rfl Try.runUnderlying43 Try.sizeOf47 rfl (by decide) (Rd.own (i := 0) rfl rfl rfl) g109.1 g109.2.1) ?_
  refine Lst.run rfl rfl (by decide) (Ev.loadSA (α := Mail) rfl (Rd.own (i := 0) rfl rfl rfl) Try.isAgg47 Try.sizeOf47 (ch := enc x107) (Enc.len _) (by decide) ((Get.elemN (s := 8) (x := x107) rfl g109.2.2 (Get.here _)).off (by omega))) ?_
  refine Lst.alloc (cs := enc Mail.zero) rfl rfl (by decide) Try.zeroValue47 rfl (fun b110 => ?_)
  refine Lst.store (i := 0) rfl rfl rfl rfl rfl Try.sizeOf47 (vs := enc x107) rfl (Enc.len _) (Enc.one _) (cs' := enc x107) (Put.here ((Enc.len _).trans (Enc.len _).symm)) (L' := (.blk b110 (enc x107) 47) :: (.own s72 47 8 (encs l73)) :: (.own s77 47 8 (encs l78)) :: (.own s42 47 8 (encs l43)) :: (.own s11 47 8 (encs r9)) :: (.own Sl.nil 47 8 (encs ([] : List Mail))) :: (.blk b6 (enc (CausalR.mk ({ Causal.zero with Hold := ([] : List Mail) } : Causal) Sl.nil)) 45) :: (.own Sl.nil 47 8 (encs ([] : List Mail))) :: (.blk b3 (enc a1) 47) :: (.blk b1 (enc (CausalR.mk ({ y76 with Hold := r9 } : Causal) s11)) 45) :: L) rfl ?_
  refine Lst.nil ?_
  refine At.then ?_
  refine Cd.seq ?_
  refine Cd.region ?_
  refine Lst.run rfl rfl (by decide) (Ev.move rfl) ?_
  refine Lst.run rfl rfl (by decide) (Ev.loadA (i := 0) rfl rfl Try.isAgg47 Try.sizeOf47 (ch := enc x107) (Enc.len _) (Get.here _)) ?_
  refine Lst.buildSlice (α := Mail) (xs := ([x107] : List Mail)) (pv := [(0, .agg (enc x107).toArray)]) rfl rfl (by decide) ⟨rfl, rfl, trivial⟩ (run_buildSlice (α := Mail) (z0 := Mail.zero) (xs := ([x107] : List Mail)) Try.runUnderlying43 Try.sizeOf47 Try.zeroValue47 rfl rfl rfl (by decide) rfl (fill_cons (cs := encs (List.replicate 1 Mail.zero)) (cs' := encs ((List.replicate 1 Mail.zero).set 0 x107)) (vs := enc x107) rfl rfl (Enc.len _) ((Put.elemN (s := 8) (i := 0) (x := Mail.zero) (y := x107) rfl rfl (Put.here ((Enc.len _).trans (Enc.len _).symm))).off rfl) fill_nil)) rfl rfl (by decide) (fun s112 _ => ?_)
  obtain ⟨u114, h115, H⟩ := bind_some H
  refine Lst.append (i := 3) (α := Mail) (xs := l78) (ys := ([x107] : List Mail)) rfl rfl (by decide) rfl rfl Try.runUnderlying43 Try.typeInfo47 rfl rfl rfl rfl rfl rfl (Rd.own (i := 0) rfl rfl rfl) rfl (room_some h115) rfl (fun s116 => ?_)
  refine Lst.its (L' := (.own s112 47 8 (encs ([x107] : List Mail))) :: (.blk b110 (enc x107) 47) :: (.own s72 47 8 (encs l73)) :: (.own s116 47 8 (encs (l78 ++ ([x107] : List Mail)))) :: (.own s42 47 8 (encs l43)) :: (.own s11 47 8 (encs r9)) :: (.own Sl.nil 47 8 (encs ([] : List Mail))) :: (.blk b6 (enc (CausalR.mk ({ Causal.zero with Hold := ([] : List Mail) } : Causal) Sl.nil)) 45) :: (.own Sl.nil 47 8 (encs ([] : List Mail))) :: (.blk b3 (enc a1) 47) :: (.blk b1 (enc (CausalR.mk ({ y76 with Hold := r9 } : Causal) s11)) 45) :: L) rfl ?_
  refine Lst.run rfl rfl (by decide) (Ev.assign rfl) ?_
  refine Lst.nil ?_
  refine At.then ?_
  refine Cd.seq ?_
  refine Cd.region ?_
  refine Lst.run rfl rfl (by decide) (Ev.fieldAddr (off' := 0) rfl Try.runUnderlying47 rfl Try.sizeOf3 rfl rfl) ?_
  refine Lst.run rfl rfl (by decide) (Ev.load (i := 1) rfl rfl Try.isAgg3 (v := .int .i64 x107.From) ((Mail.get_From (Get.here _)).off (by rfl))) ?_
  refine Lst.run rfl rfl (by decide) (Ev.fieldAddr (off' := 1) rfl Try.runUnderlying45 rfl Try.sizeOf23 rfl rfl) ?_
  obtain ⟨x117, h118, H⟩ := bind_some H
  have g119 := vat_some h118
  refine Lst.run rfl rfl (by decide) (Ev.indexAddr (off' := 1 + x107.From.toNat * 1) rfl rfl Try.runUnderlying23 Try.sizeOf3 g119.1 g119.2.1 rfl) ?_
  refine Lst.run rfl rfl (by decide) (Ev.load (i := 10) rfl rfl Try.isAgg3 (v := .int .i64 x117) ((CausalR.get_Seen (Get.vecN (s := 1) (x := x117) rfl g119.2.2 (Get.here _))).off (by omega))) ?_
  refine Lst.run rfl rfl (by decide) (Ev.add rfl rfl) ?_
  refine Lst.run rfl rfl (by decide) (Ev.fieldAddr (off' := 1) rfl Try.runUnderlying45 rfl Try.sizeOf23 rfl rfl) ?_
  obtain ⟨x120, h121, H⟩ := bind_some H
  have g122 := vat_some h121
  refine Lst.run rfl rfl (by decide) (Ev.indexAddr (off' := 1 + x107.From.toNat * 1) rfl rfl Try.runUnderlying23 Try.sizeOf3 g122.1 g122.2.1 rfl) ?_
  obtain ⟨p123, h124, H⟩ := Let_some H
  refine Lst.store (i := 10) rfl rfl rfl rfl rfl Try.sizeOf3 (vs := [.int .i64 (w64 (x117 + (1 : Int)))]) rfl rfl rfl (cs' := enc (CausalR.mk ({ y76 with Seen := p123, Hold := r9 } : Causal) s11)) (by rw [← h124]; exact (CausalR.put_Seen (Put.vecN (s := 1) (x := x120) rfl g122.2.2 (Put.here (vs := [.int .i64 (w64 (x117 + (1 : Int)))]) rfl))).off (by omega)) (L' := (.own s112 47 8 (encs ([x107] : List Mail))) :: (.blk b110 (enc x107) 47) :: (.own s72 47 8 (encs l73)) :: (.own s116 47 8 (encs (l78 ++ ([x107] : List Mail)))) :: (.own s42 47 8 (encs l43)) :: (.own s11 47 8 (encs r9)) :: (.own Sl.nil 47 8 (encs ([] : List Mail))) :: (.blk b6 (enc (CausalR.mk ({ Causal.zero with Hold := ([] : List Mail) } : Causal) Sl.nil)) 45) :: (.own Sl.nil 47 8 (encs ([] : List Mail))) :: (.blk b3 (enc a1) 47) :: (.blk b1 (enc (CausalR.mk ({ y76 with Seen := p123, Hold := r9 } : Causal) s11)) 45) :: L) rfl ?_
  refine Lst.nil ?_
  refine At.then ?_
  refine Cd.seq ?_
  refine Cd.as (e' := [(2, .pointer (some ⟨b1, 0, none⟩)), (4, .pointer (some ⟨b6, 0, none⟩)), (7, Sl.v s72), (9, .int .i64 y75), (8, Sl.v s116)]) (L' := (.own s112 47 8 (encs ([x107] : List Mail))) :: (.blk b110 (enc x107) 47) :: (.own s72 47 8 (encs l73)) :: (.own s116 47 8 (encs (l78 ++ ([x107] : List Mail)))) :: (.own s42 47 8 (encs l43)) :: (.own s11 47 8 (encs r9)) :: (.own Sl.nil 47 8 (encs ([] : List Mail))) :: (.blk b6 (enc (CausalR.mk ({ Causal.zero with Hold := ([] : List Mail) } : Causal) Sl.nil)) 45) :: (.own Sl.nil 47 8 (encs ([] : List Mail))) :: (.blk b3 (enc a1) 47) :: (.blk b1 (enc (CausalR.mk ({ y76 with Seen := p123, Hold := r9 } : Causal) s11)) 45) :: L) ⟨rfl, rfl, rfl, rfl, rfl, trivial⟩ rfl ?_
  refine Cd.region ?_
  refine Lst.run rfl rfl (by decide) (Ev.move rfl) ?_
  refine Lst.run rfl rfl (by decide) (Ev.move rfl) ?_
  refine Lst.run rfl rfl (by decide) (Ev.move rfl) ?_
  refine Lst.run rfl rfl (by decide) (Ev.add rfl rfl) ?_
  obtain ⟨r125, h126, H⟩ := bind_some H
  refine Lst.front (i := 2) rfl (L' := (.own s72 47 8 (encs l73)) :: (.own s112 47 8 (encs ([x107] : List Mail))) :: (.blk b110 (enc x107) 47) :: (.own s116 47 8 (encs (l78 ++ ([x107] : List Mail)))) :: (.own s42 47 8 (encs l43)) :: (.own s11 47 8 (encs r9)) :: (.own Sl.nil 47 8 (encs ([] : List Mail))) :: (.blk b6 (enc (CausalR.mk ({ Causal.zero with Hold := ([] : List Mail) } : Causal) Sl.nil)) 45) :: (.own Sl.nil 47 8 (encs ([] : List Mail))) :: (.blk b3 (enc a1) 47) :: (.blk b1 (enc (CausalR.mk ({ y76 with Seen := p123, Hold := r9 } : Causal) s11)) 45) :: L) rfl ?_
  refine Lst.call rfl rfl (by decide) (vs := [Sl.v s72, .int .i64 y75, .int .i64 (w64 (y75 + (1 : Int)))]) ⟨rfl, rfl, rfl, trivial⟩ Try.call111 (slices_Delete_api_Mail_api_Mail_sim h126 w0 _ M _ (List.Sublist.cons _ (List.Sublist.cons _ (List.Sublist.cons _ (List.Sublist.cons _ (List.Sublist.cons _ (List.Sublist.cons _ (List.Sublist.cons _ (List.Sublist.cons _ (List.Sublist.cons _ (List.Sublist.cons _ hM))))))))))) (fun F129 L' v hF130 hv => ?_)
  obtain ⟨s127, rfl, rfl⟩ := hv
  refine Lst.run rfl rfl (by decide) (Ev.assign rfl) ?_
  refine Lst.nil ?_
  refine At.then ?_
  refine Cd.region ?_
  refine Lst.run rfl rfl (by decide) (Ev.move rfl) ?_
  refine Lst.run rfl rfl (by decide) (Ev.makeFunc (us := []) (vs := [.pointer (some ⟨b1, 0, none⟩)]) trivial ⟨rfl, trivial⟩) ?_
  obtain ⟨r131, h132, H⟩ := bind_some H
  refine Lst.front (i := 10) rfl (L' := (.blk b1 (enc (CausalR.mk ({ y76 with Seen := p123, Hold := r9 } : Causal) s11)) 45) :: (.own s127 47 8 (encs r125)) :: (.own s112 47 8 (encs ([x107] : List Mail))) :: (.blk b110 (enc x107) 47) :: (.own s116 47 8 (encs (l78 ++ ([x107] : List Mail)))) :: (.own s42 47 8 (encs l43)) :: (.own s11 47 8 (encs r9)) :: (.own Sl.nil 47 8 (encs ([] : List Mail))) :: (.blk b6 (enc (CausalR.mk ({ Causal.zero with Hold := ([] : List Mail) } : Causal) Sl.nil)) 45) :: (.own Sl.nil 47 8 (encs ([] : List Mail))) :: (.blk b3 (enc a1) 47) :: L) rfl ?_
  refine Lst.call1 rfl rfl (by decide) (vs := [Sl.v s127, .func (.func 119) #[] #[.pointer (some ⟨b1, 0, none⟩)]]) ⟨rfl, rfl, trivial⟩ Try.call109 (slices_IndexFunc_api_Mail_api_Mail_HearMail_2_sim h132 w0 _ _ _ (List.Sublist.refl _) (Rd.own (i := 0) rfl rfl rfl) (Rd.own (i := 5) rfl rfl rfl)) ?_
  refine Lst.run rfl rfl (by decide) (Ev.assign rfl) ?_
  refine Lst.nil ?_
  refine At.in_normal ?_
  refine At.front (i := 10) rfl rfl ?_
  refine At.front (i := 10) rfl rfl ?_
  refine At.front (i := 10) rfl rfl ?_
  refine At.front (i := 10) rfl rfl ?_
  refine At.front (i := 10) rfl rfl ?_
  refine At.front (i := 10) rfl rfl ?_
  refine At.front (i := 10) rfl rfl ?_
  refine At.front (i := 8) rfl rfl ?_
  refine At.less (L' := (.own s127 47 8 (encs r125)) :: (.own s116 47 8 (encs (l78 ++ ([x107] : List Mail)))) :: (.own s42 47 8 (encs l43)) :: (.own s11 47 8 (encs r9)) :: (.own Sl.nil 47 8 (encs ([] : List Mail))) :: (.blk b6 (enc (CausalR.mk ({ Causal.zero with Hold := ([] : List Mail) } : Causal) Sl.nil)) 45) :: (.own Sl.nil 47 8 (encs ([] : List Mail))) :: (.blk b3 (enc a1) 47) :: (.blk b1 (enc (CausalR.mk ({ y76 with Seen := p123, Hold := r9 } : Causal) s11)) 45) :: L) (List.Sublist.cons_cons _ (List.Sublist.cons_cons _ (List.Sublist.cons_cons _ (List.Sublist.cons_cons _ (List.Sublist.cons_cons _ (List.Sublist.cons_cons _ (List.Sublist.cons_cons _ (List.Sublist.cons_cons _ (List.Sublist.cons_cons _ (List.Sublist.cons _ (List.Sublist.cons _ (List.Sublist.refl _)))))))))))) ?_
  exact At.meet (k71, s127, r125, r131, ({ y76 with Seen := p123, Hold := r9 } : Causal), s116, l78 ++ ([x107] : List Mail)) (FLe.trans hF80 hF130) ⟨rfl, rfl, rfl, rfl, rfl, trivial⟩ rfl ⟨hgo71 _ (some_inj H).symm, Nat.lt_succ_self _⟩
set_option maxRecDepth 20000 in
theorem partlaw_CausalSays_sim {fu : Nat} {a0 : Causal} {a1 : Str} {a2 : Mail} {s_a0_2 : Sl} {r : Bool} (H : partlaw_CausalSays fu a0 a1 a2 = some r) (w0 : World) (F : Frz) (M L : List Item) (hM : M.Sublist L) (hs_a0_2 : Rd w0 F M s_a0_2 a0.Hold) : Ok Try.prog w0 5 [.agg (enc (CausalR.mk a0 s_a0_2)).toArray, Str.v a1, .agg (enc a2).toArray] F (L) (Is (.bool r) (L)) := by
  unfold partlaw_CausalSays at H
  refine Ok.enter (m := 3) (n := 151) Try.func5 rfl rfl rfl (by decide) ?_
  refine Cd.env (e' := [(0, .agg (enc (CausalR.mk a0 s_a0_2)).toArray), (1, Str.v a1), (2, .agg (enc a2).toArray)]) rfl ?_
  refine Cd.seq ?_
  refine Cd.region ?_
  refine Lst.box rfl rfl (by decide) rfl (cs := enc (CausalR.mk a0 s_a0_2)) rfl (fun b1 => ?_)
  refine Lst.box rfl rfl (by decide) rfl (cs := enc a2) rfl (fun b3 => ?_)
  refine Lst.run rfl rfl (by decide) (Ev.assign rfl) ?_
  refine Lst.nil ?_
  refine At.then ?_
  refine Cd.seq ?_
  refine Cd.region ?_
  refine Lst.run rfl rfl (by decide) (Ev.loadA (i := 1) rfl rfl Try.isAgg45 Try.sizeOf45 (ch := enc (CausalR.mk a0 s_a0_2)) (Enc.len _) (Get.here _)) ?_
  obtain ⟨r5, h6, H⟩ := bind_some H
  refine Lst.call1 rfl rfl (by decide) (vs := [.agg (enc (CausalR.mk a0 s_a0_2)).toArray]) ⟨rfl, trivial⟩ Try.call26 (partref_CausalErr_sim h6 w0 _ M _ (List.Sublist.cons _ (List.Sublist.cons _ hM)) (hs_a0_2.mono (FLe.refl _) (List.Sublist.refl _))) ?_
  refine Lst.run rfl rfl (by decide) (Ev.assign rfl) ?_
  refine Lst.nil ?_
  refine At.then ?_
  refine Cd.seq ?_
  refine Cd.region ?_
  refine Lst.run rfl rfl (by decide) (Ev.loadA (i := 1) rfl rfl Try.isAgg45 Try.sizeOf45 (ch := enc (CausalR.mk a0 s_a0_2)) (Enc.len _) (Get.here _)) ?_
  refine Lst.run rfl rfl (by decide) (Ev.move rfl) ?_
  obtain ⟨r9, h10, H⟩ := bind_some H
  refine Lst.call rfl rfl (by decide) (vs := [.agg (enc (CausalR.mk a0 s_a0_2)).toArray, Str.v a1]) ⟨rfl, rfl, trivial⟩ Try.call27 (causal_Cast_sim h10 w0 _ M _ (List.Sublist.cons _ (List.Sublist.cons _ hM)) (hs_a0_2.mono (FLe.refl _) (List.Sublist.refl _))) (fun F13 L' v hF14 hv => ?_)
  obtain ⟨s11, rfl, rfl⟩ := hv
  refine Lst.run rfl rfl (by decide) (Ev.move rfl) ?_
  refine Lst.run rfl rfl (by decide) (Ev.extract rfl rfl) ?_
  refine Lst.run rfl rfl (by decide) (Ev.extract rfl rfl) ?_
  refine Lst.run rfl rfl (by decide) (Ev.extract rfl rfl) ?_
  refine Lst.addNil 47 8 ?_
  refine Lst.alloc (cs := enc (CausalR.mk ({ Causal.zero with Hold := ([] : List Mail) } : Causal) Sl.nil)) rfl rfl (by decide) Try.zeroValue45 rfl (fun b16 => ?_)
  refine Lst.alloc (cs := enc Mail.zero) rfl rfl (by decide) Try.zeroValue47 rfl (fun b18 => ?_)
  refine Lst.store (i := 1) rfl rfl rfl rfl rfl Try.sizeOf45 (vs := enc (CausalR.mk r9.1 s11)) rfl (Enc.len _) (Enc.one _) (cs' := enc (CausalR.mk r9.1 s11)) (Put.here ((Enc.len _).trans (Enc.len _).symm)) (L' := (.blk b18 (enc Mail.zero) 47) :: (.blk b16 (enc (CausalR.mk r9.1 s11)) 45) :: (.own Sl.nil 47 8 (encs ([] : List Mail))) :: (.own s11 47 8 (encs r9.1.Hold)) :: (.blk b3 (enc a2) 47) :: (.blk b1 (enc (CausalR.mk a0 s_a0_2)) 45) :: L) rfl ?_
  refine Lst.store (i := 0) rfl rfl rfl rfl rfl Try.sizeOf47 (vs := enc r9.2.1) rfl (Enc.len _) (Enc.one _) (cs' := enc r9.2.1) (Put.here ((Enc.len _).trans (Enc.len _).symm)) (L' := (.blk b18 (enc r9.2.1) 47) :: (.blk b16 (enc (CausalR.mk r9.1 s11)) 45) :: (.own Sl.nil 47 8 (encs ([] : List Mail))) :: (.own s11 47 8 (encs r9.1.Hold)) :: (.blk b3 (enc a2) 47) :: (.blk b1 (enc (CausalR.mk a0 s_a0_2)) 45) :: L) rfl ?_
  refine Lst.run rfl rfl (by decide) (Ev.assign rfl) ?_
  refine Lst.nil ?_
  refine At.then ?_
  refine Cd.seq ?_
  refine Cd.region ?_
  refine Lst.run rfl rfl (by decide) (Ev.loadA (i := 5) rfl rfl Try.isAgg45 Try.sizeOf45 (ch := enc (CausalR.mk a0 s_a0_2)) (Enc.len _) (Get.here _)) ?_
  refine Lst.run rfl rfl (by decide) (Ev.loadA (i := 4) rfl rfl Try.isAgg47 Try.sizeOf47 (ch := enc a2) (Enc.len _) (Get.here _)) ?_
  obtain ⟨r20, h21, H⟩ := bind_some H
  refine Lst.call rfl rfl (by decide) (vs := [.agg (enc (CausalR.mk a0 s_a0_2)).toArray, .agg (enc a2).toArray]) ⟨rfl, rfl, trivial⟩ Try.call28 (causal_Hear_sim h21 w0 _ M _ (List.Sublist.cons _ (List.Sublist.cons _ (List.Sublist.cons _ (List.Sublist.cons _ (List.Sublist.cons _ (List.Sublist.cons _ hM)))))) (hs_a0_2.mono hF14 (List.Sublist.refl _))) (fun F26 L' v hF27 hv => ?_)
  obtain ⟨s22, s24, rfl, rfl⟩ := hv
  refine Lst.run rfl rfl (by decide) (Ev.move rfl) ?_
  refine Lst.run rfl rfl (by decide) (Ev.extract rfl rfl) ?_
  refine Lst.run rfl rfl (by decide) (Ev.extract rfl rfl) ?_
  refine Lst.run rfl rfl (by decide) (Ev.extract rfl rfl) ?_
  refine Lst.addNil 47 8 ?_
  refine Lst.alloc (cs := enc (CausalR.mk ({ Causal.zero with Hold := ([] : List Mail) } : Causal) Sl.nil)) rfl rfl (by decide) Try.zeroValue45 rfl (fun b29 => ?_)
  refine Lst.store (i := 0) rfl rfl rfl rfl rfl Try.sizeOf45 (vs := enc (CausalR.mk r20.1 s22)) rfl (Enc.len _) (Enc.one _) (cs' := enc (CausalR.mk r20.1 s22)) (Put.here ((Enc.len _).trans (Enc.len _).symm)) (L' := (.blk b29 (enc (CausalR.mk r20.1 s22)) 45) :: (.own Sl.nil 47 8 (encs ([] : List Mail))) :: (.own s22 47 8 (encs r20.1.Hold)) :: (.own s24 47 8 (encs r20.2.1)) :: (.blk b18 (enc r9.2.1) 47) :: (.blk b16 (enc (CausalR.mk r9.1 s11)) 45) :: (.own Sl.nil 47 8 (encs ([] : List Mail))) :: (.own s11 47 8 (encs r9.1.Hold)) :: (.blk b3 (enc a2) 47) :: (.blk b1 (enc (CausalR.mk a0 s_a0_2)) 45) :: L) rfl ?_
  refine Lst.run rfl rfl (by decide) (Ev.assign rfl) ?_
  refine Lst.run rfl rfl (by decide) (Ev.assign rfl) ?_
  refine Lst.nil ?_
  refine At.then ?_
  refine Cd.seq ?_
  refine Cd.as (e' := [(1, Str.v a1), (3, .pointer (some ⟨b1, 0, none⟩)), (5, .pointer (some ⟨b3, 0, none⟩)), (7, .int .i64 r5), (8, .pointer (some ⟨b16, 0, none⟩)), (9, .pointer (some ⟨b18, 0, none⟩)), (10, .int .i64 r9.2.2), (11, .pointer (some ⟨b29, 0, none⟩)), (12, Sl.v s24), (13, .int .i64 r20.2.2)]) (L' := (.blk b29 (enc (CausalR.mk r20.1 s22)) 45) :: (.own Sl.nil 47 8 (encs ([] : List Mail))) :: (.own s22 47 8 (encs r20.1.Hold)) :: (.own s24 47 8 (encs r20.2.1)) :: (.blk b18 (enc r9.2.1) 47) :: (.blk b16 (enc (CausalR.mk r9.1 s11)) 45) :: (.own Sl.nil 47 8 (encs ([] : List Mail))) :: (.own s11 47 8 (encs r9.1.Hold)) :: (.blk b3 (enc a2) 47) :: (.blk b1 (enc (CausalR.mk a0 s_a0_2)) 45) :: L) ⟨rfl, rfl, rfl, rfl, rfl, rfl, rfl, rfl, rfl, rfl, trivial⟩ rfl ?_
  refine Cd.region ?_
  refine Lst.run rfl rfl (by decide) (Ev.build (v := .agg (enc (CausalR.mk Causal.zero Sl.nil)).toArray) (pv := []) trivial (fun w => by kernel_rfl)) ?_
  refine Lst.addNil 47 8 ?_
  refine Lst.alloc (cs := enc (CausalR.mk ({ Causal.zero with Hold := ([] : List Mail) } : Causal) Sl.nil)) rfl rfl (by decide) Try.zeroValue45 rfl (fun b32 => ?_)
  refine Lst.store (i := 0) rfl rfl rfl rfl rfl Try.sizeOf45 (vs := enc (CausalR.mk Causal.zero Sl.nil)) rfl (Enc.len _) (Enc.one _) (cs' := enc (CausalR.mk Causal.zero Sl.nil)) (Put.here ((Enc.len _).trans (Enc.len _).symm)) (L' := (.blk b32 (enc (CausalR.mk Causal.zero Sl.nil)) 45) :: (.own Sl.nil 47 8 (encs ([] : List Mail))) :: (.blk b29 (enc (CausalR.mk r20.1 s22)) 45) :: (.own Sl.nil 47 8 (encs ([] : List Mail))) :: (.own s22 47 8 (encs r20.1.Hold)) :: (.own s24 47 8 (encs r20.2.1)) :: (.blk b18 (enc r9.2.1) 47) :: (.blk b16 (enc (CausalR.mk r9.1 s11)) 45) :: (.own Sl.nil 47 8 (encs ([] : List Mail))) :: (.own s11 47 8 (encs r9.1.Hold)) :: (.blk b3 (enc a2) 47) :: (.blk b1 (enc (CausalR.mk a0 s_a0_2)) 45) :: L) rfl ?_
  refine Lst.nil ?_
  refine At.then ?_
  refine Cd.seq ?_
  refine Cd.seq ?_
  refine Cd.region ?_
  refine Lst.run rfl rfl (by decide) (Ev.loadA (i := 11) rfl rfl Try.isAgg45 Try.sizeOf45 (ch := enc (CausalR.mk a0 s_a0_2)) (Enc.len _) (Get.here _)) ?_
  obtain ⟨r34, h35, H⟩ := bind_some H
  refine Lst.call1 rfl rfl (by decide) (vs := [.agg (enc (CausalR.mk a0 s_a0_2)).toArray]) ⟨rfl, trivial⟩ Try.call29 (causal_Check_sim h35 w0 _ M _ (List.Sublist.cons _ (List.Sublist.cons _ (List.Sublist.cons _ (List.Sublist.cons _ (List.Sublist.cons _ (List.Sublist.cons _ (List.Sublist.cons _ (List.Sublist.cons _ (List.Sublist.cons _ (List.Sublist.cons _ (List.Sublist.cons _ (List.Sublist.cons _ hM)))))))))))) (hs_a0_2.mono (FLe.trans hF14 hF27) (List.Sublist.refl _))) ?_
  refine Lst.run rfl rfl (by decide) (Ev.move rfl) ?_
  refine Lst.run rfl rfl (by decide) (Ev.neq rfl rfl) ?_
  refine Lst.nil ?_
  refine At.then ?_
  rcases Bool.eq_false_or_eq_true (r34 != r5) with hb38 | hb38
  · replace H := ite_t hb38 H
    refine Cd.condT rfl hb38 ?_
    refine Cd.seq ?_
    refine Cd.as (e' := []) (L' := (.blk b32 (enc (CausalR.mk Causal.zero Sl.nil)) 45) :: (.own Sl.nil 47 8 (encs ([] : List Mail))) :: (.blk b29 (enc (CausalR.mk r20.1 s22)) 45) :: (.own Sl.nil 47 8 (encs ([] : List Mail))) :: (.own s22 47 8 (encs r20.1.Hold)) :: (.own s24 47 8 (encs r20.2.1)) :: (.blk b18 (enc r9.2.1) 47) :: (.blk b16 (enc (CausalR.mk r9.1 s11)) 45) :: (.own Sl.nil 47 8 (encs ([] : List Mail))) :: (.own s11 47 8 (encs r9.1.Hold)) :: (.blk b3 (enc a2) 47) :: (.blk b1 (enc (CausalR.mk a0 s_a0_2)) 45) :: L) trivial rfl ?_
    refine Cd.region ?_
    refine Lst.run rfl rfl (by decide) (Ev.assign rfl) ?_
    refine Lst.nil ?_
    refine At.then ?_
    obtain rfl := some_inj H
    refine Cd.ret ?_
    refine At.then_ret ?_
    exact At.ret1 rfl (Res.tmp rfl) (FLe.trans hF14 hF27) (List.Sublist.cons _ (List.Sublist.cons _ (List.Sublist.cons _ (List.Sublist.cons _ (List.Sublist.cons _ (List.Sublist.cons _ (List.Sublist.cons _ (List.Sublist.cons _ (List.Sublist.cons _ (List.Sublist.cons _ (List.Sublist.cons _ (List.Sublist.cons _ (List.Sublist.refl _))))))))))))) ⟨rfl, rfl⟩
  replace H := ite_f hb38 H
  refine Cd.condF rfl hb38 ?_
  refine Cd.skip ?_
  refine At.then ?_
  refine Cd.seq ?_
  refine Cd.seq ?_
  refine Cd.region ?_
  refine Lst.run rfl rfl (by decide) (Ev.move rfl) ?_
  refine Lst.run rfl rfl (by decide) (Ev.neq rfl rfl) ?_
  refine Lst.nil ?_
  refine At.then ?_
  rcases Bool.eq_false_or_eq_true (r5 != (0 : Int)) with hb39 | hb39
  · replace H := ite_t hb39 H
    refine Cd.condT rfl hb39 ?_
    refine Cd.seq ?_
    refine Cd.region ?_
    refine Lst.run rfl rfl (by decide) (Ev.loadA (i := 7) rfl rfl Try.isAgg45 Try.sizeOf45 (ch := enc (CausalR.mk r9.1 s11)) (Enc.len _) (Get.here _)) ?_
    refine Lst.run rfl rfl (by decide) (Ev.loadA (i := 0) rfl rfl Try.isAgg45 Try.sizeOf45 (ch := enc (CausalR.mk Causal.zero Sl.nil)) (Enc.len _) (Get.here _)) ?_
    obtain ⟨r40, h41, H⟩ := bind_some H
    refine Lst.call1 rfl rfl (by decide) (vs := [.agg (enc (CausalR.mk r9.1 s11)).toArray, .agg (enc (CausalR.mk Causal.zero Sl.nil)).toArray]) ⟨rfl, rfl, trivial⟩ Try.call30 (partref_SameCausal_sim h41 w0 _ _ _ (List.Sublist.refl _) (Rd.own (i := 9) rfl rfl rfl) Rd.nil) ?_
    refine Lst.run rfl rfl (by decide) (Ev.move rfl) ?_
    obtain ⟨o44, H, HKo44⟩ := bind_some H
    refine Lst.join (σ := Bool) 4 (fun y45 => [(7, .int .i64 r5), (10, .int .i64 r9.2.2), (11, .pointer (some ⟨b29, 0, none⟩)), (12, Sl.v s24), (13, .int .i64 r20.2.2), (14, .pointer (some ⟨b32, 0, none⟩)), (49, .bool y45)]) (fun y45 => (.blk b32 (enc (CausalR.mk Causal.zero Sl.nil)) 45) :: (.own Sl.nil 47 8 (encs ([] : List Mail))) :: (.blk b29 (enc (CausalR.mk r20.1 s22)) 45) :: (.own Sl.nil 47 8 (encs ([] : List Mail))) :: (.own s22 47 8 (encs r20.1.Hold)) :: (.own s24 47 8 (encs r20.2.1)) :: (.blk b18 (enc r9.2.1) 47) :: (.blk b16 (enc (CausalR.mk r9.1 s11)) 45) :: (.own Sl.nil 47 8 (encs ([] : List Mail))) :: (.own s11 47 8 (encs r9.1.Hold)) :: (.blk b3 (enc a2) 47) :: (.blk b1 (enc (CausalR.mk a0 s_a0_2)) 45) :: L) (fun _ y45 => y45 = o44) ?_ ?_
    · rcases (Bool.eq_false_or_eq_true r40).symm with hb46 | hb46
      · replace H := ite_f hb46 H
        refine Lst.skip rfl rfl rfl hb46 rfl (by decide) ?_
        refine Lst.skip rfl rfl rfl hb46 rfl (by decide) ?_
        refine Lst.skip rfl rfl rfl hb46 rfl (by decide) ?_
        refine Lst.run rfl rfl (by decide) (Ev.pickF rfl hb46 rfl) ?_
        refine Lst.nil ?_
        exact At.meet false (FLe.refl _) ⟨rfl, rfl, rfl, rfl, rfl, rfl, rfl, trivial⟩ rfl (some_inj H)
      replace H := ite_t hb46 H
      refine Lst.runG rfl rfl rfl hb46 rfl (by decide) (Ev.loadA (i := 6) rfl rfl Try.isAgg47 Try.sizeOf47 (ch := enc r9.2.1) (Enc.len _) (Get.here _)) ?_
      refine Lst.runG rfl rfl rfl hb46 rfl (by decide) (Ev.build (v := .agg (enc Mail.zero).toArray) (pv := []) trivial (fun w => by kernel_rfl)) ?_
      refine Lst.runG rfl rfl rfl hb46 rfl (by decide) (Ev.eqlA rfl rfl (by kernel_rfl) (eq47 _ _)) ?_
      refine Lst.run rfl rfl (by decide) (Ev.pickT rfl hb46 rfl) ?_
      refine Lst.nil ?_
      exact At.meet (decide (r9.2.1 = Mail.zero)) (FLe.refl _) ⟨rfl, rfl, rfl, rfl, rfl, rfl, rfl, trivial⟩ rfl (some_inj H)
    rintro F47 y45 hF48 hy
    subst hy
    refine Lst.as (e' := [(7, .int .i64 r5), (10, .int .i64 r9.2.2), (11, .pointer (some ⟨b29, 0, none⟩)), (12, Sl.v s24), (13, .int .i64 r20.2.2), (14, .pointer (some ⟨b32, 0, none⟩)), (49, .bool y45)]) (L' := (.blk b32 (enc (CausalR.mk Causal.zero Sl.nil)) 45) :: (.own Sl.nil 47 8 (encs ([] : List Mail))) :: (.blk b29 (enc (CausalR.mk r20.1 s22)) 45) :: (.own Sl.nil 47 8 (encs ([] : List Mail))) :: (.own s22 47 8 (encs r20.1.Hold)) :: (.own s24 47 8 (encs r20.2.1)) :: (.blk b18 (enc r9.2.1) 47) :: (.blk b16 (enc (CausalR.mk r9.1 s11)) 45) :: (.own Sl.nil 47 8 (encs ([] : List Mail))) :: (.own s11 47 8 (encs r9.1.Hold)) :: (.blk b3 (enc a2) 47) :: (.blk b1 (enc (CausalR.mk a0 s_a0_2)) 45) :: L) ⟨rfl, rfl, rfl, rfl, rfl, rfl, rfl, trivial⟩ rfl ?_
    replace H := HKo44
    refine Lst.run rfl rfl (by decide) (Ev.move rfl) ?_
    obtain ⟨o49, H, HKo49⟩ := bind_some H
    refine Lst.join (σ := Bool) 4 (fun y50 => [(7, .int .i64 r5), (11, .pointer (some ⟨b29, 0, none⟩)), (12, Sl.v s24), (13, .int .i64 r20.2.2), (14, .pointer (some ⟨b32, 0, none⟩)), (54, .bool y50)]) (fun y50 => (.blk b32 (enc (CausalR.mk Causal.zero Sl.nil)) 45) :: (.own Sl.nil 47 8 (encs ([] : List Mail))) :: (.blk b29 (enc (CausalR.mk r20.1 s22)) 45) :: (.own Sl.nil 47 8 (encs ([] : List Mail))) :: (.own s22 47 8 (encs r20.1.Hold)) :: (.own s24 47 8 (encs r20.2.1)) :: (.blk b18 (enc r9.2.1) 47) :: (.blk b16 (enc (CausalR.mk r9.1 s11)) 45) :: (.own Sl.nil 47 8 (encs ([] : List Mail))) :: (.own s11 47 8 (encs r9.1.Hold)) :: (.blk b3 (enc a2) 47) :: (.blk b1 (enc (CausalR.mk a0 s_a0_2)) 45) :: L) (fun _ y50 => y50 = o49) ?_ ?_
    · rcases (Bool.eq_false_or_eq_true y45).symm with hb51 | hb51
      · replace H := ite_f hb51 H
        refine Lst.skip rfl rfl rfl hb51 rfl (by decide) ?_
        refine Lst.skip rfl rfl rfl hb51 rfl (by decide) ?_
        refine Lst.skip rfl rfl rfl hb51 rfl (by decide) ?_
        refine Lst.run rfl rfl (by decide) (Ev.pickF rfl hb51 rfl) ?_
        refine Lst.nil ?_
        exact At.meet false (FLe.refl _) ⟨rfl, rfl, rfl, rfl, rfl, rfl, trivial⟩ rfl (some_inj H)
      replace H := ite_t hb51 H
      refine Lst.runG rfl rfl rfl hb51 rfl (by decide) (Ev.move rfl) ?_
      refine Lst.runG rfl rfl rfl hb51 rfl (by decide) (Ev.move rfl) ?_
      refine Lst.runG rfl rfl rfl hb51 rfl (by decide) (Ev.eql rfl rfl) ?_
      refine Lst.run rfl rfl (by decide) (Ev.pickT rfl hb51 rfl) ?_
      refine Lst.nil ?_
      exact At.meet (r9.2.2 == r5) (FLe.refl _) ⟨rfl, rfl, rfl, rfl, rfl, rfl, trivial⟩ rfl (some_inj H)
    rintro F52 y50 hF53 hy
    subst hy
    refine Lst.as (e' := [(7, .int .i64 r5), (11, .pointer (some ⟨b29, 0, none⟩)), (12, Sl.v s24), (13, .int .i64 r20.2.2), (14, .pointer (some ⟨b32, 0, none⟩)), (54, .bool y50)]) (L' := (.blk b32 (enc (CausalR.mk Causal.zero Sl.nil)) 45) :: (.own Sl.nil 47 8 (encs ([] : List Mail))) :: (.blk b29 (enc (CausalR.mk r20.1 s22)) 45) :: (.own Sl.nil 47 8 (encs ([] : List Mail))) :: (.own s22 47 8 (encs r20.1.Hold)) :: (.own s24 47 8 (encs r20.2.1)) :: (.blk b18 (enc r9.2.1) 47) :: (.blk b16 (enc (CausalR.mk r9.1 s11)) 45) :: (.own Sl.nil 47 8 (encs ([] : List Mail))) :: (.own s11 47 8 (encs r9.1.Hold)) :: (.blk b3 (enc a2) 47) :: (.blk b1 (enc (CausalR.mk a0 s_a0_2)) 45) :: L) ⟨rfl, rfl, rfl, rfl, rfl, rfl, trivial⟩ rfl ?_
    replace H := HKo49
    refine Lst.run rfl rfl (by decide) (Ev.move rfl) ?_
    obtain ⟨o54, H, HKo54⟩ := bind_some H
    refine Lst.join (σ := Bool) 4 (fun y55 => [(7, .int .i64 r5), (12, Sl.v s24), (13, .int .i64 r20.2.2), (59, .bool y55)]) (fun y55 => (.blk b32 (enc (CausalR.mk Causal.zero Sl.nil)) 45) :: (.own Sl.nil 47 8 (encs ([] : List Mail))) :: (.blk b29 (enc (CausalR.mk r20.1 s22)) 45) :: (.own Sl.nil 47 8 (encs ([] : List Mail))) :: (.own s22 47 8 (encs r20.1.Hold)) :: (.own s24 47 8 (encs r20.2.1)) :: (.blk b18 (enc r9.2.1) 47) :: (.blk b16 (enc (CausalR.mk r9.1 s11)) 45) :: (.own Sl.nil 47 8 (encs ([] : List Mail))) :: (.own s11 47 8 (encs r9.1.Hold)) :: (.blk b3 (enc a2) 47) :: (.blk b1 (enc (CausalR.mk a0 s_a0_2)) 45) :: L) (fun _ y55 => y55 = o54) ?_ ?_
    · rcases (Bool.eq_false_or_eq_true y50).symm with hb56 | hb56
      · replace H := ite_f hb56 H
        refine Lst.skip rfl rfl rfl hb56 rfl (by decide) ?_
        refine Lst.skip rfl rfl rfl hb56 rfl (by decide) ?_
        refine Lst.skip rfl rfl rfl hb56 rfl (by decide) ?_
        refine Lst.run rfl rfl (by decide) (Ev.pickF rfl hb56 rfl) ?_
        refine Lst.nil ?_
        exact At.meet false (FLe.refl _) ⟨rfl, rfl, rfl, rfl, trivial⟩ rfl (some_inj H)
      replace H := ite_t hb56 H
      refine Lst.runG rfl rfl rfl hb56 rfl (by decide) (Ev.loadA (i := 2) rfl rfl Try.isAgg45 Try.sizeOf45 (ch := enc (CausalR.mk r20.1 s22)) (Enc.len _) (Get.here _)) ?_
      refine Lst.runG rfl rfl rfl hb56 rfl (by decide) (Ev.loadA (i := 0) rfl rfl Try.isAgg45 Try.sizeOf45 (ch := enc (CausalR.mk Causal.zero Sl.nil)) (Enc.len _) (Get.here _)) ?_
      obtain ⟨r57, h58, H⟩ := bind_some H
      refine Lst.call1G rfl rfl rfl hb56 rfl (by decide) (vs := [.agg (enc (CausalR.mk r20.1 s22)).toArray, .agg (enc (CausalR.mk Causal.zero Sl.nil)).toArray]) ⟨rfl, rfl, trivial⟩ Try.call30 (partref_SameCausal_sim h58 w0 _ _ _ (List.Sublist.refl _) (Rd.own (i := 4) rfl rfl rfl) Rd.nil) ?_
      refine Lst.run rfl rfl (by decide) (Ev.pickT rfl hb56 rfl) ?_
      refine Lst.nil ?_
      exact At.meet r57 (FLe.refl _) ⟨rfl, rfl, rfl, rfl, trivial⟩ rfl (some_inj H)
    rintro F61 y55 hF62 hy
    subst hy
    refine Lst.as (e' := [(7, .int .i64 r5), (12, Sl.v s24), (13, .int .i64 r20.2.2), (59, .bool y55)]) (L' := (.blk b32 (enc (CausalR.mk Causal.zero Sl.nil)) 45) :: (.own Sl.nil 47 8 (encs ([] : List Mail))) :: (.blk b29 (enc (CausalR.mk r20.1 s22)) 45) :: (.own Sl.nil 47 8 (encs ([] : List Mail))) :: (.own s22 47 8 (encs r20.1.Hold)) :: (.own s24 47 8 (encs r20.2.1)) :: (.blk b18 (enc r9.2.1) 47) :: (.blk b16 (enc (CausalR.mk r9.1 s11)) 45) :: (.own Sl.nil 47 8 (encs ([] : List Mail))) :: (.own s11 47 8 (encs r9.1.Hold)) :: (.blk b3 (enc a2) 47) :: (.blk b1 (enc (CausalR.mk a0 s_a0_2)) 45) :: L) ⟨rfl, rfl, rfl, rfl, trivial⟩ rfl ?_
    replace H := HKo54
    refine Lst.run rfl rfl (by decide) (Ev.move rfl) ?_
    obtain ⟨o63, H, HKo63⟩ := bind_some H
    refine Lst.join (σ := Bool) 4 (fun y64 => [(7, .int .i64 r5), (13, .int .i64 r20.2.2), (64, .bool y64)]) (fun y64 => (.blk b32 (enc (CausalR.mk Causal.zero Sl.nil)) 45) :: (.own Sl.nil 47 8 (encs ([] : List Mail))) :: (.blk b29 (enc (CausalR.mk r20.1 s22)) 45) :: (.own Sl.nil 47 8 (encs ([] : List Mail))) :: (.own s22 47 8 (encs r20.1.Hold)) :: (.own s24 47 8 (encs r20.2.1)) :: (.blk b18 (enc r9.2.1) 47) :: (.blk b16 (enc (CausalR.mk r9.1 s11)) 45) :: (.own Sl.nil 47 8 (encs ([] : List Mail))) :: (.own s11 47 8 (encs r9.1.Hold)) :: (.blk b3 (enc a2) 47) :: (.blk b1 (enc (CausalR.mk a0 s_a0_2)) 45) :: L) (fun _ y64 => y64 = o63) ?_ ?_
    · rcases (Bool.eq_false_or_eq_true y55).symm with hb65 | hb65
      · replace H := ite_f hb65 H
        refine Lst.skip rfl rfl rfl hb65 rfl (by decide) ?_
        refine Lst.skip rfl rfl rfl hb65 rfl (by decide) ?_
        refine Lst.skip rfl rfl rfl hb65 rfl (by decide) ?_
        refine Lst.run rfl rfl (by decide) (Ev.pickF rfl hb65 rfl) ?_
        refine Lst.nil ?_
        exact At.meet false (FLe.refl _) ⟨rfl, rfl, rfl, trivial⟩ rfl (some_inj H)
      replace H := ite_t hb65 H
      refine Lst.runG rfl rfl rfl hb65 rfl (by decide) (Ev.move rfl) ?_
      refine Lst.runG rfl rfl rfl hb65 rfl (by decide) (Ev.lenS (α := Mail) (xs := r20.2.1) (by decide) rfl rfl Try.runUnderlying43 (Rd.own (i := 5) rfl rfl rfl)) ?_
      refine Lst.runG rfl rfl rfl hb65 rfl (by decide) (Ev.eql rfl rfl) ?_
      refine Lst.run rfl rfl (by decide) (Ev.pickT rfl hb65 rfl) ?_
      refine Lst.nil ?_
      exact At.meet ((r20.2.1.length : Int) == (0 : Int)) (FLe.refl _) ⟨rfl, rfl, rfl, trivial⟩ rfl (some_inj H)
    rintro F66 y64 hF67 hy
    subst hy
    refine Lst.as (e' := [(7, .int .i64 r5), (13, .int .i64 r20.2.2), (64, .bool y64)]) (L' := (.blk b32 (enc (CausalR.mk Causal.zero Sl.nil)) 45) :: (.own Sl.nil 47 8 (encs ([] : List Mail))) :: (.blk b29 (enc (CausalR.mk r20.1 s22)) 45) :: (.own Sl.nil 47 8 (encs ([] : List Mail))) :: (.own s22 47 8 (encs r20.1.Hold)) :: (.own s24 47 8 (encs r20.2.1)) :: (.blk b18 (enc r9.2.1) 47) :: (.blk b16 (enc (CausalR.mk r9.1 s11)) 45) :: (.own Sl.nil 47 8 (encs ([] : List Mail))) :: (.own s11 47 8 (encs r9.1.Hold)) :: (.blk b3 (enc a2) 47) :: (.blk b1 (enc (CausalR.mk a0 s_a0_2)) 45) :: L) ⟨rfl, rfl, rfl, trivial⟩ rfl ?_
    replace H := HKo63
    refine Lst.run rfl rfl (by decide) (Ev.move rfl) ?_
    obtain ⟨o68, H, HKo68⟩ := bind_some H
    refine Lst.join (σ := Bool) 4 (fun y69 => [(69, .bool y69)]) (fun y69 => (.blk b32 (enc (CausalR.mk Causal.zero Sl.nil)) 45) :: (.own Sl.nil 47 8 (encs ([] : List Mail))) :: (.blk b29 (enc (CausalR.mk r20.1 s22)) 45) :: (.own Sl.nil 47 8 (encs ([] : List Mail))) :: (.own s22 47 8 (encs r20.1.Hold)) :: (.own s24 47 8 (encs r20.2.1)) :: (.blk b18 (enc r9.2.1) 47) :: (.blk b16 (enc (CausalR.mk r9.1 s11)) 45) :: (.own Sl.nil 47 8 (encs ([] : List Mail))) :: (.own s11 47 8 (encs r9.1.Hold)) :: (.blk b3 (enc a2) 47) :: (.blk b1 (enc (CausalR.mk a0 s_a0_2)) 45) :: L) (fun _ y69 => y69 = o68) ?_ ?_
    · rcases (Bool.eq_false_or_eq_true y64).symm with hb70 | hb70
      · replace H := ite_f hb70 H
        refine Lst.skip rfl rfl rfl hb70 rfl (by decide) ?_
        refine Lst.skip rfl rfl rfl hb70 rfl (by decide) ?_
        refine Lst.skip rfl rfl rfl hb70 rfl (by decide) ?_
        refine Lst.run rfl rfl (by decide) (Ev.pickF rfl hb70 rfl) ?_
        refine Lst.nil ?_
        exact At.meet false (FLe.refl _) ⟨rfl, trivial⟩ rfl (some_inj H)
      replace H := ite_t hb70 H
      refine Lst.runG rfl rfl rfl hb70 rfl (by decide) (Ev.move rfl) ?_
      refine Lst.runG rfl rfl rfl hb70 rfl (by decide) (Ev.move rfl) ?_
      refine Lst.runG rfl rfl rfl hb70 rfl (by decide) (Ev.eql rfl rfl) ?_
      refine Lst.run rfl rfl (by decide) (Ev.pickT rfl hb70 rfl) ?_
      refine Lst.nil ?_
      exact At.meet (r20.2.2 == r5) (FLe.refl _) ⟨rfl, trivial⟩ rfl (some_inj H)
    rintro F71 y69 hF72 hy
    subst hy
    refine Lst.as (e' := [(69, .bool y69)]) (L' := (.blk b32 (enc (CausalR.mk Causal.zero Sl.nil)) 45) :: (.own Sl.nil 47 8 (encs ([] : List Mail))) :: (.blk b29 (enc (CausalR.mk r20.1 s22)) 45) :: (.own Sl.nil 47 8 (encs ([] : List Mail))) :: (.own s22 47 8 (encs r20.1.Hold)) :: (.own s24 47 8 (encs r20.2.1)) :: (.blk b18 (enc r9.2.1) 47) :: (.blk b16 (enc (CausalR.mk r9.1 s11)) 45) :: (.own Sl.nil 47 8 (encs ([] : List Mail))) :: (.own s11 47 8 (encs r9.1.Hold)) :: (.blk b3 (enc a2) 47) :: (.blk b1 (enc (CausalR.mk a0 s_a0_2)) 45) :: L) ⟨rfl, trivial⟩ rfl ?_
    replace H := HKo68
    refine Lst.run rfl rfl (by decide) (Ev.assign rfl) ?_
    refine Lst.nil ?_
    refine At.then ?_
    obtain rfl := some_inj H
    refine Cd.ret ?_
    refine At.then_ret ?_
    exact At.ret1 rfl (Res.tmp rfl) (FLe.trans (FLe.trans (FLe.trans (FLe.trans (FLe.trans (FLe.trans hF14 hF27) hF48) hF53) hF62) hF67) hF72) (List.Sublist.cons _ (List.Sublist.cons _ (List.Sublist.cons _ (List.Sublist.cons _ (List.Sublist.cons _ (List.Sublist.cons _ (List.Sublist.cons _ (List.Sublist.cons _ (List.Sublist.cons _ (List.Sublist.cons _ (List.Sublist.cons _ (List.Sublist.cons _ (List.Sublist.refl _))))))))))))) ⟨rfl, rfl⟩
  replace H := ite_f hb39 H
  refine Cd.condF rfl hb39 ?_
  refine Cd.skip ?_
  refine At.then ?_
  obtain ⟨o73, H, HKo73⟩ := andThen_some H
  refine Cd.join (σ := Unit) (fun (_ : Unit) => [(3, .pointer (some ⟨b1, 0, none⟩)), (5, .pointer (some ⟨b3, 0, none⟩)), (11, .pointer (some ⟨b29, 0, none⟩)), (12, Sl.v s24), (13, .int .i64 r20.2.2), (14, .pointer (some ⟨b32, 0, none⟩))]) (fun (_ : Unit) => (.blk b32 (enc (CausalR.mk Causal.zero Sl.nil)) 45) :: (.own Sl.nil 47 8 (encs ([] : List Mail))) :: (.blk b29 (enc (CausalR.mk r20.1 s22)) 45) :: (.own Sl.nil 47 8 (encs ([] : List Mail))) :: (.own s22 47 8 (encs r20.1.Hold)) :: (.own s24 47 8 (encs r20.2.1)) :: (.blk b18 (enc r9.2.1) 47) :: (.blk b16 (enc (CausalR.mk r9.1 s11)) 45) :: (.own Sl.nil 47 8 (encs ([] : List Mail))) :: (.own s11 47 8 (encs r9.1.Hold)) :: (.blk b3 (enc a2) 47) :: (.blk b1 (enc (CausalR.mk a0 s_a0_2)) 45) :: L) (fun _ (_ : Unit) => .inl () = o73) ?_ ?_
  · refine Cd.seq ?_
    refine Cd.region ?_
    refine Lst.run rfl rfl (by decide) (Ev.fieldAddr (off' := 0) rfl Try.runUnderlying45 rfl Try.sizeOf3 rfl rfl) ?_
    refine Lst.run rfl rfl (by decide) (Ev.load (i := 11) rfl rfl Try.isAgg3 (v := .int .i64 a0.Me) ((CausalR.get_Me (Get.here _)).off (by rfl))) ?_
    refine Lst.run rfl rfl (by decide) (Ev.fieldAddr (off' := 1) rfl Try.runUnderlying45 rfl Try.sizeOf23 rfl rfl) ?_
    obtain ⟨x74, h75, H⟩ := bind_some H
    have g76 := vat_some h75
    refine Lst.run rfl rfl (by decide) (Ev.indexAddr (off' := 1 + a0.Me.toNat * 1) rfl rfl Try.runUnderlying23 Try.sizeOf3 g76.1 g76.2.1 rfl) ?_
    refine Lst.run rfl rfl (by decide) (Ev.load (i := 11) rfl rfl Try.isAgg3 (v := .int .i64 x74) ((CausalR.get_Seen (Get.vecN (s := 1) (x := x74) rfl g76.2.2 (Get.here _))).off (by omega))) ?_
    refine Lst.run rfl rfl (by decide) (Ev.geq rfl rfl) ?_
    refine Lst.nil ?_
    refine At.then ?_
    rcases Bool.eq_false_or_eq_true (decide (x74 ≥ (16777215 : Int))) with hb77 | hb77
    · replace H := ite_t hb77 H
      refine Cd.condT rfl hb77 ?_
      refine Cd.seq ?_
      refine Cd.as (e' := [(3, .pointer (some ⟨b1, 0, none⟩)), (5, .pointer (some ⟨b3, 0, none⟩)), (8, .pointer (some ⟨b16, 0, none⟩)), (9, .pointer (some ⟨b18, 0, none⟩)), (10, .int .i64 r9.2.2), (11, .pointer (some ⟨b29, 0, none⟩)), (12, Sl.v s24), (13, .int .i64 r20.2.2), (14, .pointer (some ⟨b32, 0, none⟩))]) (L' := (.blk b32 (enc (CausalR.mk Causal.zero Sl.nil)) 45) :: (.own Sl.nil 47 8 (encs ([] : List Mail))) :: (.blk b29 (enc (CausalR.mk r20.1 s22)) 45) :: (.own Sl.nil 47 8 (encs ([] : List Mail))) :: (.own s22 47 8 (encs r20.1.Hold)) :: (.own s24 47 8 (encs r20.2.1)) :: (.blk b18 (enc r9.2.1) 47) :: (.blk b16 (enc (CausalR.mk r9.1 s11)) 45) :: (.own Sl.nil 47 8 (encs ([] : List Mail))) :: (.own s11 47 8 (encs r9.1.Hold)) :: (.blk b3 (enc a2) 47) :: (.blk b1 (enc (CausalR.mk a0 s_a0_2)) 45) :: L) ⟨rfl, rfl, rfl, rfl, rfl, rfl, rfl, rfl, rfl, trivial⟩ rfl ?_
      refine Cd.region ?_
      refine Lst.run rfl rfl (by decide) (Ev.loadA (i := 7) rfl rfl Try.isAgg45 Try.sizeOf45 (ch := enc (CausalR.mk r9.1 s11)) (Enc.len _) (Get.here _)) ?_
      refine Lst.run rfl rfl (by decide) (Ev.loadA (i := 0) rfl rfl Try.isAgg45 Try.sizeOf45 (ch := enc (CausalR.mk Causal.zero Sl.nil)) (Enc.len _) (Get.here _)) ?_
      obtain ⟨r78, h79, H⟩ := bind_some H
      refine Lst.call1 rfl rfl (by decide) (vs := [.agg (enc (CausalR.mk r9.1 s11)).toArray, .agg (enc (CausalR.mk Causal.zero Sl.nil)).toArray]) ⟨rfl, rfl, trivial⟩ Try.call30 (partref_SameCausal_sim h79 w0 _ _ _ (List.Sublist.refl _) (Rd.own (i := 9) rfl rfl rfl) Rd.nil) ?_
      refine Lst.run rfl rfl (by decide) (Ev.not rfl) ?_
      refine Lst.run rfl rfl (by decide) (Ev.move rfl) ?_
      obtain ⟨o82, H, HKo82⟩ := bind_some H
      refine Lst.join (σ := Bool) 4 (fun y83 => [(3, .pointer (some ⟨b1, 0, none⟩)), (5, .pointer (some ⟨b3, 0, none⟩)), (10, .int .i64 r9.2.2), (11, .pointer (some ⟨b29, 0, none⟩)), (12, Sl.v s24), (13, .int .i64 r20.2.2), (14, .pointer (some ⟨b32, 0, none⟩)), (84, .bool y83)]) (fun y83 => (.blk b32 (enc (CausalR.mk Causal.zero Sl.nil)) 45) :: (.own Sl.nil 47 8 (encs ([] : List Mail))) :: (.blk b29 (enc (CausalR.mk r20.1 s22)) 45) :: (.own Sl.nil 47 8 (encs ([] : List Mail))) :: (.own s22 47 8 (encs r20.1.Hold)) :: (.own s24 47 8 (encs r20.2.1)) :: (.blk b18 (enc r9.2.1) 47) :: (.blk b16 (enc (CausalR.mk r9.1 s11)) 45) :: (.own Sl.nil 47 8 (encs ([] : List Mail))) :: (.own s11 47 8 (encs r9.1.Hold)) :: (.blk b3 (enc a2) 47) :: (.blk b1 (enc (CausalR.mk a0 s_a0_2)) 45) :: L) (fun _ y83 => y83 = o82) ?_ ?_
      · rcases Bool.eq_false_or_eq_true (!r78) with hb84 | hb84
        · replace H := ite_t hb84 H
          refine Lst.skip rfl rfl rfl hb84 rfl (by decide) ?_
          refine Lst.skip rfl rfl rfl hb84 rfl (by decide) ?_
          refine Lst.skip rfl rfl rfl hb84 rfl (by decide) ?_
          refine Lst.run rfl rfl (by decide) (Ev.pickT rfl hb84 rfl) ?_
          refine Lst.nil ?_
          exact At.meet true (FLe.refl _) ⟨rfl, rfl, rfl, rfl, rfl, rfl, rfl, rfl, trivial⟩ rfl (some_inj H)
        replace H := ite_f hb84 H
        refine Lst.runG rfl rfl rfl hb84 rfl (by decide) (Ev.loadA (i := 6) rfl rfl Try.isAgg47 Try.sizeOf47 (ch := enc r9.2.1) (Enc.len _) (Get.here _)) ?_
        refine Lst.runG rfl rfl rfl hb84 rfl (by decide) (Ev.build (v := .agg (enc Mail.zero).toArray) (pv := []) trivial (fun w => by kernel_rfl)) ?_
        refine Lst.runG rfl rfl rfl hb84 rfl (by decide) (Ev.neqA rfl rfl (by kernel_rfl) (eq47 _ _)) ?_
        refine Lst.run rfl rfl (by decide) (Ev.pickF rfl hb84 rfl) ?_
        refine Lst.nil ?_
        exact At.meet (!(decide (r9.2.1 = Mail.zero))) (FLe.refl _) ⟨rfl, rfl, rfl, rfl, rfl, rfl, rfl, rfl, trivial⟩ rfl (some_inj H)
      rintro F85 y83 hF86 hy
      subst hy
      refine Lst.as (e' := [(3, .pointer (some ⟨b1, 0, none⟩)), (5, .pointer (some ⟨b3, 0, none⟩)), (10, .int .i64 r9.2.2), (11, .pointer (some ⟨b29, 0, none⟩)), (12, Sl.v s24), (13, .int .i64 r20.2.2), (14, .pointer (some ⟨b32, 0, none⟩)), (84, .bool y83)]) (L' := (.blk b32 (enc (CausalR.mk Causal.zero Sl.nil)) 45) :: (.own Sl.nil 47 8 (encs ([] : List Mail))) :: (.blk b29 (enc (CausalR.mk r20.1 s22)) 45) :: (.own Sl.nil 47 8 (encs ([] : List Mail))) :: (.own s22 47 8 (encs r20.1.Hold)) :: (.own s24 47 8 (encs r20.2.1)) :: (.blk b18 (enc r9.2.1) 47) :: (.blk b16 (enc (CausalR.mk r9.1 s11)) 45) :: (.own Sl.nil 47 8 (encs ([] : List Mail))) :: (.own s11 47 8 (encs r9.1.Hold)) :: (.blk b3 (enc a2) 47) :: (.blk b1 (enc (CausalR.mk a0 s_a0_2)) 45) :: L) ⟨rfl, rfl, rfl, rfl, rfl, rfl, rfl, rfl, trivial⟩ rfl ?_
      replace H := HKo82
      refine Lst.run rfl rfl (by decide) (Ev.move rfl) ?_
      obtain ⟨o87, H, HKo87⟩ := bind_some H
      refine Lst.join (σ := Bool) 3 (fun y88 => [(3, .pointer (some ⟨b1, 0, none⟩)), (5, .pointer (some ⟨b3, 0, none⟩)), (11, .pointer (some ⟨b29, 0, none⟩)), (12, Sl.v s24), (13, .int .i64 r20.2.2), (14, .pointer (some ⟨b32, 0, none⟩)), (88, .bool y88)]) (fun y88 => (.blk b32 (enc (CausalR.mk Causal.zero Sl.nil)) 45) :: (.own Sl.nil 47 8 (encs ([] : List Mail))) :: (.blk b29 (enc (CausalR.mk r20.1 s22)) 45) :: (.own Sl.nil 47 8 (encs ([] : List Mail))) :: (.own s22 47 8 (encs r20.1.Hold)) :: (.own s24 47 8 (encs r20.2.1)) :: (.blk b18 (enc r9.2.1) 47) :: (.blk b16 (enc (CausalR.mk r9.1 s11)) 45) :: (.own Sl.nil 47 8 (encs ([] : List Mail))) :: (.own s11 47 8 (encs r9.1.Hold)) :: (.blk b3 (enc a2) 47) :: (.blk b1 (enc (CausalR.mk a0 s_a0_2)) 45) :: L) (fun _ y88 => y88 = o87) ?_ ?_
      · rcases Bool.eq_false_or_eq_true y83 with hb89 | hb89
        · replace H := ite_t hb89 H
          refine Lst.skip rfl rfl rfl hb89 rfl (by decide) ?_
          refine Lst.skip rfl rfl rfl hb89 rfl (by decide) ?_
          refine Lst.run rfl rfl (by decide) (Ev.pickT rfl hb89 rfl) ?_
          refine Lst.nil ?_
          exact At.meet true (FLe.refl _) ⟨rfl, rfl, rfl, rfl, rfl, rfl, rfl, trivial⟩ rfl (some_inj H)
        replace H := ite_f hb89 H
        refine Lst.runG rfl rfl rfl hb89 rfl (by decide) (Ev.move rfl) ?_
        refine Lst.runG rfl rfl rfl hb89 rfl (by decide) (Ev.neq rfl rfl) ?_
        refine Lst.run rfl rfl (by decide) (Ev.pickF rfl hb89 rfl) ?_
        refine Lst.nil ?_
        exact At.meet (r9.2.2 != (8 : Int)) (FLe.refl _) ⟨rfl, rfl, rfl, rfl, rfl, rfl, rfl, trivial⟩ rfl (some_inj H)
      rintro F90 y88 hF91 hy
      subst hy
      refine Lst.as (e' := [(3, .pointer (some ⟨b1, 0, none⟩)), (5, .pointer (some ⟨b3, 0, none⟩)), (11, .pointer (some ⟨b29, 0, none⟩)), (12, Sl.v s24), (13, .int .i64 r20.2.2), (14, .pointer (some ⟨b32, 0, none⟩)), (88, .bool y88)]) (L' := (.blk b32 (enc (CausalR.mk Causal.zero Sl.nil)) 45) :: (.own Sl.nil 47 8 (encs ([] : List Mail))) :: (.blk b29 (enc (CausalR.mk r20.1 s22)) 45) :: (.own Sl.nil 47 8 (encs ([] : List Mail))) :: (.own s22 47 8 (encs r20.1.Hold)) :: (.own s24 47 8 (encs r20.2.1)) :: (.blk b18 (enc r9.2.1) 47) :: (.blk b16 (enc (CausalR.mk r9.1 s11)) 45) :: (.own Sl.nil 47 8 (encs ([] : List Mail))) :: (.own s11 47 8 (encs r9.1.Hold)) :: (.blk b3 (enc a2) 47) :: (.blk b1 (enc (CausalR.mk a0 s_a0_2)) 45) :: L) ⟨rfl, rfl, rfl, rfl, rfl, rfl, rfl, trivial⟩ rfl ?_
      replace H := HKo87
      refine Lst.nil ?_
      refine At.then ?_
      rcases Bool.eq_false_or_eq_true y88 with hb92 | hb92
      · replace H := ite_t hb92 H
        refine Cd.condT rfl hb92 ?_
        refine Cd.seq ?_
        refine Cd.region ?_
        refine Lst.run rfl rfl (by decide) (Ev.assign rfl) ?_
        refine Lst.nil ?_
        refine At.then ?_
        obtain rfl := some_inj H
        replace H := HKo73
        obtain rfl := some_inj H
        refine Cd.ret ?_
        refine At.then_ret ?_
        exact At.ret1 rfl (Res.tmp rfl) (FLe.trans (FLe.trans (FLe.trans hF14 hF27) hF86) hF91) (List.Sublist.cons _ (List.Sublist.cons _ (List.Sublist.cons _ (List.Sublist.cons _ (List.Sublist.cons _ (List.Sublist.cons _ (List.Sublist.cons _ (List.Sublist.cons _ (List.Sublist.cons _ (List.Sublist.cons _ (List.Sublist.cons _ (List.Sublist.cons _ (List.Sublist.refl _))))))))))))) ⟨rfl, rfl⟩
      replace H := ite_f hb92 H
      refine Cd.condF rfl hb92 ?_
      refine Cd.skip ?_
      exact At.meet () (FLe.trans hF86 hF91) ⟨rfl, rfl, rfl, rfl, rfl, rfl, trivial⟩ rfl (some_inj H)
    replace H := ite_f hb77 H
    refine Cd.condF rfl hb77 ?_
    refine Cd.seq ?_
    refine Cd.region ?_
    refine Lst.run rfl rfl (by decide) (Ev.loadA (i := 11) rfl rfl Try.isAgg45 Try.sizeOf45 (ch := enc (CausalR.mk a0 s_a0_2)) (Enc.len _) (Get.here _)) ?_
    refine Lst.addNil 47 8 ?_
    refine Lst.alloc (cs := enc (CausalR.mk ({ Causal.zero with Hold := ([] : List Mail) } : Causal) Sl.nil)) rfl rfl (by decide) Try.zeroValue45 rfl (fun b94 => ?_)
    refine Lst.store (i := 0) rfl rfl rfl rfl rfl Try.sizeOf45 (vs := enc (CausalR.mk a0 s_a0_2)) rfl (Enc.len _) (Enc.one _) (cs' := enc (CausalR.mk a0 s_a0_2)) (Put.here ((Enc.len _).trans (Enc.len _).symm)) (L' := (.blk b94 (enc (CausalR.mk a0 s_a0_2)) 45) :: (.own Sl.nil 47 8 (encs ([] : List Mail))) :: (.blk b32 (enc (CausalR.mk Causal.zero Sl.nil)) 45) :: (.own Sl.nil 47 8 (encs ([] : List Mail))) :: (.blk b29 (enc (CausalR.mk r20.1 s22)) 45) :: (.own Sl.nil 47 8 (encs ([] : List Mail))) :: (.own s22 47 8 (encs r20.1.Hold)) :: (.own s24 47 8 (encs r20.2.1)) :: (.blk b18 (enc r9.2.1) 47) :: (.blk b16 (enc (CausalR.mk r9.1 s11)) 45) :: (.own Sl.nil 47 8 (encs ([] : List Mail))) :: (.own s11 47 8 (encs r9.1.Hold)) :: (.blk b3 (enc a2) 47) :: (.blk b1 (enc (CausalR.mk a0 s_a0_2)) 45) :: L) rfl ?_
    refine Lst.nil ?_
    refine At.then ?_
    refine Cd.seq ?_
    refine Cd.as (e' := [(1, Str.v a1), (3, .pointer (some ⟨b1, 0, none⟩)), (5, .pointer (some ⟨b3, 0, none⟩)), (8, .pointer (some ⟨b16, 0, none⟩)), (9, .pointer (some ⟨b18, 0, none⟩)), (10, .int .i64 r9.2.2), (11, .pointer (some ⟨b29, 0, none⟩)), (12, Sl.v s24), (13, .int .i64 r20.2.2), (14, .pointer (some ⟨b32, 0, none⟩)), (15, .pointer (some ⟨b94, 0, none⟩))]) (L' := (.blk b94 (enc (CausalR.mk a0 s_a0_2)) 45) :: (.own Sl.nil 47 8 (encs ([] : List Mail))) :: (.blk b32 (enc (CausalR.mk Causal.zero Sl.nil)) 45) :: (.own Sl.nil 47 8 (encs ([] : List Mail))) :: (.blk b29 (enc (CausalR.mk r20.1 s22)) 45) :: (.own Sl.nil 47 8 (encs ([] : List Mail))) :: (.own s22 47 8 (encs r20.1.Hold)) :: (.own s24 47 8 (encs r20.2.1)) :: (.blk b18 (enc r9.2.1) 47) :: (.blk b16 (enc (CausalR.mk r9.1 s11)) 45) :: (.own Sl.nil 47 8 (encs ([] : List Mail))) :: (.own s11 47 8 (encs r9.1.Hold)) :: (.blk b3 (enc a2) 47) :: (.blk b1 (enc (CausalR.mk a0 s_a0_2)) 45) :: L) ⟨rfl, rfl, rfl, rfl, rfl, rfl, rfl, rfl, rfl, rfl, rfl, trivial⟩ rfl ?_
    refine Cd.region ?_
    refine Lst.run rfl rfl (by decide) (Ev.fieldAddr (off' := 0) rfl Try.runUnderlying45 rfl Try.sizeOf3 rfl rfl) ?_
    refine Lst.run rfl rfl (by decide) (Ev.load (i := 13) rfl rfl Try.isAgg3 (v := .int .i64 a0.Me) ((CausalR.get_Me (Get.here _)).off (by rfl))) ?_
    refine Lst.run rfl rfl (by decide) (Ev.fieldAddr (off' := 1) rfl Try.runUnderlying45 rfl Try.sizeOf23 rfl rfl) ?_
    obtain ⟨x96, h97, H⟩ := bind_some H
    have g98 := vat_some h97
    refine Lst.run rfl rfl (by decide) (Ev.indexAddr (off' := 1 + a0.Me.toNat * 1) rfl rfl Try.runUnderlying23 Try.sizeOf3 g98.1 g98.2.1 rfl) ?_
    refine Lst.run rfl rfl (by decide) (Ev.load (i := 0) rfl rfl Try.isAgg3 (v := .int .i64 x96) ((CausalR.get_Seen (Get.vecN (s := 1) (x := x96) rfl g98.2.2 (Get.here _))).off (by omega))) ?_
    refine Lst.run rfl rfl (by decide) (Ev.add rfl rfl) ?_
    refine Lst.run rfl rfl (by decide) (Ev.fieldAddr (off' := 1) rfl Try.runUnderlying45 rfl Try.sizeOf23 rfl rfl) ?_
    obtain ⟨x99, h100, H⟩ := bind_some H
    have g101 := vat_some h100
    refine Lst.run rfl rfl (by decide) (Ev.indexAddr (off' := 1 + a0.Me.toNat * 1) rfl rfl Try.runUnderlying23 Try.sizeOf3 g101.1 g101.2.1 rfl) ?_
    obtain ⟨p102, h103, H⟩ := Let_some H
    refine Lst.store (i := 0) rfl rfl rfl rfl rfl Try.sizeOf3 (vs := [.int .i64 (w64 (x96 + (1 : Int)))]) rfl rfl rfl (cs' := enc (CausalR.mk ({ a0 with Seen := p102 } : Causal) s_a0_2)) (by rw [← h103]; exact (CausalR.put_Seen (Put.vecN (s := 1) (x := x99) rfl g101.2.2 (Put.here (vs := [.int .i64 (w64 (x96 + (1 : Int)))]) rfl))).off (by omega)) (L' := (.blk b94 (enc (CausalR.mk ({ a0 with Seen := p102 } : Causal) s_a0_2)) 45) :: (.own Sl.nil 47 8 (encs ([] : List Mail))) :: (.blk b32 (enc (CausalR.mk Causal.zero Sl.nil)) 45) :: (.own Sl.nil 47 8 (encs ([] : List Mail))) :: (.blk b29 (enc (CausalR.mk r20.1 s22)) 45) :: (.own Sl.nil 47 8 (encs ([] : List Mail))) :: (.own s22 47 8 (encs r20.1.Hold)) :: (.own s24 47 8 (encs r20.2.1)) :: (.blk b18 (enc r9.2.1) 47) :: (.blk b16 (enc (CausalR.mk r9.1 s11)) 45) :: (.own Sl.nil 47 8 (encs ([] : List Mail))) :: (.own s11 47 8 (encs r9.1.Hold)) :: (.blk b3 (enc a2) 47) :: (.blk b1 (enc (CausalR.mk a0 s_a0_2)) 45) :: L) rfl ?_
    refine Lst.nil ?_
    refine At.then ?_
    refine Cd.seq ?_
    refine Cd.region ?_
    refine Lst.run rfl rfl (by decide) (Ev.loadA (i := 9) rfl rfl Try.isAgg45 Try.sizeOf45 (ch := enc (CausalR.mk r9.1 s11)) (Enc.len _) (Get.here _)) ?_
    refine Lst.run rfl rfl (by decide) (Ev.loadA (i := 0) rfl rfl Try.isAgg45 Try.sizeOf45 (ch := enc (CausalR.mk ({ a0 with Seen := p102 } : Causal) s_a0_2)) (Enc.len _) (Get.here _)) ?_
    obtain ⟨r104, h105, H⟩ := bind_some H
    refine Lst.call1 rfl rfl (by decide) (vs := [.agg (enc (CausalR.mk r9.1 s11)).toArray, .agg (enc (CausalR.mk ({ a0 with Seen := p102 } : Causal) s_a0_2)).toArray]) ⟨rfl, rfl, trivial⟩ Try.call30 (partref_SameCausal_sim h105 w0 _ _ _ (List.Sublist.refl _) (Rd.own (i := 11) rfl rfl rfl) (hs_a0_2.mono (FLe.trans hF14 hF27) (List.Sublist.cons _ (List.Sublist.cons _ (List.Sublist.cons _ (List.Sublist.cons _ (List.Sublist.cons _ (List.Sublist.cons _ (List.Sublist.cons _ (List.Sublist.cons _ (List.Sublist.cons _ (List.Sublist.cons _ (List.Sublist.cons _ (List.Sublist.cons _ (List.Sublist.cons _ (List.Sublist.cons _ hM)))))))))))))))) ?_
    refine Lst.run rfl rfl (by decide) (Ev.not rfl) ?_
    refine Lst.run rfl rfl (by decide) (Ev.move rfl) ?_
    obtain ⟨o108, H, HKo108⟩ := bind_some H
    refine Lst.join (σ := Bool) 9 (fun y109 => [(3, .pointer (some ⟨b1, 0, none⟩)), (5, .pointer (some ⟨b3, 0, none⟩)), (10, .int .i64 r9.2.2), (11, .pointer (some ⟨b29, 0, none⟩)), (12, Sl.v s24), (13, .int .i64 r20.2.2), (14, .pointer (some ⟨b32, 0, none⟩)), (111, .bool y109)]) (fun y109 => (.blk b94 (enc (CausalR.mk ({ a0 with Seen := p102 } : Causal) s_a0_2)) 45) :: (.own Sl.nil 47 8 (encs ([] : List Mail))) :: (.blk b32 (enc (CausalR.mk Causal.zero Sl.nil)) 45) :: (.own Sl.nil 47 8 (encs ([] : List Mail))) :: (.blk b29 (enc (CausalR.mk r20.1 s22)) 45) :: (.own Sl.nil 47 8 (encs ([] : List Mail))) :: (.own s22 47 8 (encs r20.1.Hold)) :: (.own s24 47 8 (encs r20.2.1)) :: (.blk b18 (enc r9.2.1) 47) :: (.blk b16 (enc (CausalR.mk r9.1 s11)) 45) :: (.own Sl.nil 47 8 (encs ([] : List Mail))) :: (.own s11 47 8 (encs r9.1.Hold)) :: (.blk b3 (enc a2) 47) :: (.blk b1 (enc (CausalR.mk a0 s_a0_2)) 45) :: L) (fun _ y109 => y109 = o108) ?_ ?_
    · rcases Bool.eq_false_or_eq_true (!r104) with hb110 | hb110
      · replace H := ite_t hb110 H
        refine Lst.skip rfl rfl rfl hb110 rfl (by decide) ?_
        refine Lst.skip rfl rfl rfl hb110 rfl (by decide) ?_
        refine Lst.skip rfl rfl rfl hb110 rfl (by decide) ?_
        refine Lst.skip rfl rfl rfl hb110 rfl (by decide) ?_
        refine Lst.skip rfl rfl rfl hb110 rfl (by decide) ?_
        refine Lst.skip rfl rfl rfl hb110 rfl (by decide) ?_
        refine Lst.skip rfl rfl rfl hb110 rfl (by decide) ?_
        refine Lst.skip rfl rfl rfl hb110 rfl (by decide) ?_
        refine Lst.run rfl rfl (by decide) (Ev.pickT rfl hb110 rfl) ?_
        refine Lst.nil ?_
        exact At.meet true (FLe.refl _) ⟨rfl, rfl, rfl, rfl, rfl, rfl, rfl, rfl, trivial⟩ rfl (some_inj H)
      replace H := ite_f hb110 H
      refine Lst.runG rfl rfl rfl hb110 rfl (by decide) (Ev.loadA (i := 8) rfl rfl Try.isAgg47 Try.sizeOf47 (ch := enc r9.2.1) (Enc.len _) (Get.here _)) ?_
      refine Lst.runG rfl rfl rfl hb110 rfl (by decide) (Ev.fieldAddr (off' := 0) rfl Try.runUnderlying45 rfl Try.sizeOf3 rfl rfl) ?_
      refine Lst.runG rfl rfl rfl hb110 rfl (by decide) (Ev.load (i := 13) rfl rfl Try.isAgg3 (v := .int .i64 a0.Me) ((CausalR.get_Me (Get.here _)).off (by rfl))) ?_
      refine Lst.runG rfl rfl rfl hb110 rfl (by decide) (Ev.fieldAddr (off' := 1) rfl Try.runUnderlying45 rfl Try.sizeOf23 rfl rfl) ?_
      refine Lst.runG rfl rfl rfl hb110 rfl (by decide) (Ev.loadA (i := 0) rfl rfl Try.isAgg23 Try.sizeOf23 (ch := enc p102) (Enc.len _) ((CausalR.get_Seen (Get.here _)).off (by rfl))) ?_
      refine Lst.runG rfl rfl rfl hb110 rfl (by decide) (Ev.move rfl) ?_
      refine Lst.runG rfl rfl rfl hb110 rfl (by decide) (Ev.build (v := .agg (enc ({ Mail.zero with From := a0.Me, At := p102, Text := a1 } : Mail)).toArray) (pv := [(0, .int .i64 a0.Me), (1, .agg (enc p102).toArray), (2, Str.v a1)]) ⟨rfl, rfl, ⟨rfl, rfl, ⟨rfl, rfl, trivial⟩⟩⟩ (run_buildStruct (places := #[(0, 1), (1, 6), (7, 1)]) Try.zeroValue47 (zs := enc Mail.zero) rfl Try.runUnderlying47 (fun w => by kernel_rfl) (fill_cons (cs := enc Mail.zero) (cs' := enc ({ Mail.zero with From := a0.Me } : Mail)) (vs := [.int .i64 a0.Me]) rfl rfl rfl ((Mail.put_From (p := Mail.zero) (y := a0.Me) (Put.here (vs := [.int .i64 a0.Me]) rfl)).off rfl) (fill_cons (cs := enc ({ Mail.zero with From := a0.Me } : Mail)) (cs' := enc ({ Mail.zero with From := a0.Me, At := p102 } : Mail)) (vs := enc p102) rfl rfl (Enc.len _) ((Mail.put_At (p := ({ Mail.zero with From := a0.Me } : Mail)) (y := p102) (Put.here ((Enc.len _).trans (Enc.len _).symm))).off rfl) (fill_cons (cs := enc ({ Mail.zero with From := a0.Me, At := p102 } : Mail)) (cs' := enc ({ Mail.zero with From := a0.Me, At := p102, Text := a1 } : Mail)) (vs := [Str.v a1]) rfl rfl rfl ((Mail.put_Text (p := ({ Mail.zero with From := a0.Me, At := p102 } : Mail)) (y := a1) (Put.here (vs := [Str.v a1]) rfl)).off rfl) fill_nil))))) ?_
      refine Lst.runG rfl rfl rfl hb110 rfl (by decide) (Ev.neqA rfl rfl (by kernel_rfl) (eq47 _ _)) ?_
      refine Lst.run rfl rfl (by decide) (Ev.pickF rfl hb110 rfl) ?_
      refine Lst.nil ?_
      exact At.meet (!(decide (r9.2.1 = ({ Mail.zero with From := a0.Me, At := p102, Text := a1 } : Mail)))) (FLe.refl _) ⟨rfl, rfl, rfl, rfl, rfl, rfl, rfl, rfl, trivial⟩ rfl (some_inj H)
    rintro F111 y109 hF112 hy
    subst hy
    refine Lst.as (e' := [(3, .pointer (some ⟨b1, 0, none⟩)), (5, .pointer (some ⟨b3, 0, none⟩)), (10, .int .i64 r9.2.2), (11, .pointer (some ⟨b29, 0, none⟩)), (12, Sl.v s24), (13, .int .i64 r20.2.2), (14, .pointer (some ⟨b32, 0, none⟩)), (111, .bool y109)]) (L' := (.blk b94 (enc (CausalR.mk ({ a0 with Seen := p102 } : Causal) s_a0_2)) 45) :: (.own Sl.nil 47 8 (encs ([] : List Mail))) :: (.blk b32 (enc (CausalR.mk Causal.zero Sl.nil)) 45) :: (.own Sl.nil 47 8 (encs ([] : List Mail))) :: (.blk b29 (enc (CausalR.mk r20.1 s22)) 45) :: (.own Sl.nil 47 8 (encs ([] : List Mail))) :: (.own s22 47 8 (encs r20.1.Hold)) :: (.own s24 47 8 (encs r20.2.1)) :: (.blk b18 (enc r9.2.1) 47) :: (.blk b16 (enc (CausalR.mk r9.1 s11)) 45) :: (.own Sl.nil 47 8 (encs ([] : List Mail))) :: (.own s11 47 8 (encs r9.1.Hold)) :: (.blk b3 (enc a2) 47) :: (.blk b1 (enc (CausalR.mk a0 s_a0_2)) 45) :: L) ⟨rfl, rfl, rfl, rfl, rfl, rfl, rfl, rfl, trivial⟩ rfl ?_
    replace H := HKo108
    refine Lst.run rfl rfl (by decide) (Ev.move rfl) ?_
    obtain ⟨o113, H, HKo113⟩ := bind_some H
    refine Lst.join (σ := Bool) 3 (fun y114 => [(3, .pointer (some ⟨b1, 0, none⟩)), (5, .pointer (some ⟨b3, 0, none⟩)), (11, .pointer (some ⟨b29, 0, none⟩)), (12, Sl.v s24), (13, .int .i64 r20.2.2), (14, .pointer (some ⟨b32, 0, none⟩)), (115, .bool y114)]) (fun y114 => (.blk b94 (enc (CausalR.mk ({ a0 with Seen := p102 } : Causal) s_a0_2)) 45) :: (.own Sl.nil 47 8 (encs ([] : List Mail))) :: (.blk b32 (enc (CausalR.mk Causal.zero Sl.nil)) 45) :: (.own Sl.nil 47 8 (encs ([] : List Mail))) :: (.blk b29 (enc (CausalR.mk r20.1 s22)) 45) :: (.own Sl.nil 47 8 (encs ([] : List Mail))) :: (.own s22 47 8 (encs r20.1.Hold)) :: (.own s24 47 8 (encs r20.2.1)) :: (.blk b18 (enc r9.2.1) 47) :: (.blk b16 (enc (CausalR.mk r9.1 s11)) 45) :: (.own Sl.nil 47 8 (encs ([] : List Mail))) :: (.own s11 47 8 (encs r9.1.Hold)) :: (.blk b3 (enc a2) 47) :: (.blk b1 (enc (CausalR.mk a0 s_a0_2)) 45) :: L) (fun _ y114 => y114 = o113) ?_ ?_
    · rcases Bool.eq_false_or_eq_true y109 with hb115 | hb115
      · replace H := ite_t hb115 H
        refine Lst.skip rfl rfl rfl hb115 rfl (by decide) ?_
        refine Lst.skip rfl rfl rfl hb115 rfl (by decide) ?_
        refine Lst.run rfl rfl (by decide) (Ev.pickT rfl hb115 rfl) ?_
        refine Lst.nil ?_
        exact At.meet true (FLe.refl _) ⟨rfl, rfl, rfl, rfl, rfl, rfl, rfl, trivial⟩ rfl (some_inj H)
      replace H := ite_f hb115 H
      refine Lst.runG rfl rfl rfl hb115 rfl (by decide) (Ev.move rfl) ?_
      refine Lst.runG rfl rfl rfl hb115 rfl (by decide) (Ev.neq rfl rfl) ?_
      refine Lst.run rfl rfl (by decide) (Ev.pickF rfl hb115 rfl) ?_
      refine Lst.nil ?_
      exact At.meet (r9.2.2 != (0 : Int)) (FLe.refl _) ⟨rfl, rfl, rfl, rfl, rfl, rfl, rfl, trivial⟩ rfl (some_inj H)
    rintro F116 y114 hF117 hy
    subst hy
    refine Lst.as (e' := [(3, .pointer (some ⟨b1, 0, none⟩)), (5, .pointer (some ⟨b3, 0, none⟩)), (11, .pointer (some ⟨b29, 0, none⟩)), (12, Sl.v s24), (13, .int .i64 r20.2.2), (14, .pointer (some ⟨b32, 0, none⟩)), (115, .bool y114)]) (L' := (.blk b94 (enc (CausalR.mk ({ a0 with Seen := p102 } : Causal) s_a0_2)) 45) :: (.own Sl.nil 47 8 (encs ([] : List Mail))) :: (.blk b32 (enc (CausalR.mk Causal.zero Sl.nil)) 45) :: (.own Sl.nil 47 8 (encs ([] : List Mail))) :: (.blk b29 (enc (CausalR.mk r20.1 s22)) 45) :: (.own Sl.nil 47 8 (encs ([] : List Mail))) :: (.own s22 47 8 (encs r20.1.Hold)) :: (.own s24 47 8 (encs r20.2.1)) :: (.blk b18 (enc r9.2.1) 47) :: (.blk b16 (enc (CausalR.mk r9.1 s11)) 45) :: (.own Sl.nil 47 8 (encs ([] : List Mail))) :: (.own s11 47 8 (encs r9.1.Hold)) :: (.blk b3 (enc a2) 47) :: (.blk b1 (enc (CausalR.mk a0 s_a0_2)) 45) :: L) ⟨rfl, rfl, rfl, rfl, rfl, rfl, rfl, trivial⟩ rfl ?_
    replace H := HKo113
    refine Lst.nil ?_
    refine At.then ?_
    rcases Bool.eq_false_or_eq_true y114 with hb118 | hb118
    · replace H := ite_t hb118 H
      refine Cd.condT rfl hb118 ?_
      refine Cd.seq ?_
      refine Cd.region ?_
      refine Lst.run rfl rfl (by decide) (Ev.assign rfl) ?_
      refine Lst.nil ?_
      refine At.then ?_
      obtain rfl := some_inj H
      replace H := HKo73
      obtain rfl := some_inj H
      refine Cd.ret ?_
      refine At.then_ret ?_
      exact At.ret1 rfl (Res.tmp rfl) (FLe.trans (FLe.trans (FLe.trans hF14 hF27) hF112) hF117) (List.Sublist.cons _ (List.Sublist.cons _ (List.Sublist.cons _ (List.Sublist.cons _ (List.Sublist.cons _ (List.Sublist.cons _ (List.Sublist.cons _ (List.Sublist.cons _ (List.Sublist.cons _ (List.Sublist.cons _ (List.Sublist.cons _ (List.Sublist.cons _ (List.Sublist.cons _ (List.Sublist.cons _ (List.Sublist.refl _))))))))))))))) ⟨rfl, rfl⟩
    replace H := ite_f hb118 H
    refine Cd.condF rfl hb118 ?_
    refine Cd.skip ?_
    refine At.less (L' := (.blk b32 (enc (CausalR.mk Causal.zero Sl.nil)) 45) :: (.own Sl.nil 47 8 (encs ([] : List Mail))) :: (.blk b29 (enc (CausalR.mk r20.1 s22)) 45) :: (.own Sl.nil 47 8 (encs ([] : List Mail))) :: (.own s22 47 8 (encs r20.1.Hold)) :: (.own s24 47 8 (encs r20.2.1)) :: (.blk b18 (enc r9.2.1) 47) :: (.blk b16 (enc (CausalR.mk r9.1 s11)) 45) :: (.own Sl.nil 47 8 (encs ([] : List Mail))) :: (.own s11 47 8 (encs r9.1.Hold)) :: (.blk b3 (enc a2) 47) :: (.blk b1 (enc (CausalR.mk a0 s_a0_2)) 45) :: L) (List.Sublist.cons _ (List.Sublist.cons _ (List.Sublist.cons_cons _ (List.Sublist.cons_cons _ (List.Sublist.cons_cons _ (List.Sublist.cons_cons _ (List.Sublist.cons_cons _ (List.Sublist.cons_cons _ (List.Sublist.cons_cons _ (List.Sublist.cons_cons _ (List.Sublist.cons_cons _ (List.Sublist.cons_cons _ (List.Sublist.cons_cons _ (List.Sublist.cons_cons _ (List.Sublist.refl _))))))))))))))) ?_
    exact At.meet () (FLe.trans hF112 hF117) ⟨rfl, rfl, rfl, rfl, rfl, rfl, trivial⟩ rfl (some_inj H)
  rintro F119 _u hF120 hy
  subst hy
  refine Cd.as (e' := [(3, .pointer (some ⟨b1, 0, none⟩)), (5, .pointer (some ⟨b3, 0, none⟩)), (11, .pointer (some ⟨b29, 0, none⟩)), (12, Sl.v s24), (13, .int .i64 r20.2.2), (14, .pointer (some ⟨b32, 0, none⟩))]) (L' := (.blk b32 (enc (CausalR.mk Causal.zero Sl.nil)) 45) :: (.own Sl.nil 47 8 (encs ([] : List Mail))) :: (.blk b29 (enc (CausalR.mk r20.1 s22)) 45) :: (.own Sl.nil 47 8 (encs ([] : List Mail))) :: (.own s22 47 8 (encs r20.1.Hold)) :: (.own s24 47 8 (encs r20.2.1)) :: (.blk b18 (enc r9.2.1) 47) :: (.blk b16 (enc (CausalR.mk r9.1 s11)) 45) :: (.own Sl.nil 47 8 (encs ([] : List Mail))) :: (.own s11 47 8 (encs r9.1.Hold)) :: (.blk b3 (enc a2) 47) :: (.blk b1 (enc (CausalR.mk a0 s_a0_2)) 45) :: L) ⟨rfl, rfl, rfl, rfl, rfl, rfl, trivial⟩ rfl ?_
  replace H := HKo73
  refine Cd.seq ?_
  refine Cd.seq ?_
  refine Cd.region ?_
  refine Lst.run rfl rfl (by decide) (Ev.loadA (i := 10) rfl rfl Try.isAgg47 Try.sizeOf47 (ch := enc a2) (Enc.len _) (Get.here _)) ?_
  obtain ⟨r121, h122, H⟩ := bind_some H
  refine Lst.call1 rfl rfl (by decide) (vs := [.agg (enc a2).toArray]) ⟨rfl, trivial⟩ Try.call31 (partref_MailRight_sim h122 w0 _ M _ (List.Sublist.cons _ (List.Sublist.cons _ (List.Sublist.cons _ (List.Sublist.cons _ (List.Sublist.cons _ (List.Sublist.cons _ (List.Sublist.cons _ (List.Sublist.cons _ (List.Sublist.cons _ (List.Sublist.cons _ (List.Sublist.cons _ (List.Sublist.cons _ hM))))))))))))) ?_
  refine Lst.run rfl rfl (by decide) (Ev.not rfl) ?_
  refine Lst.nil ?_
  refine At.then ?_
  rcases Bool.eq_false_or_eq_true (!r121) with hb125 | hb125
  · replace H := ite_t hb125 H
    refine Cd.condT rfl hb125 ?_
    refine Cd.seq ?_
    refine Cd.region ?_
    refine Lst.run rfl rfl (by decide) (Ev.loadA (i := 2) rfl rfl Try.isAgg45 Try.sizeOf45 (ch := enc (CausalR.mk r20.1 s22)) (Enc.len _) (Get.here _)) ?_
    refine Lst.run rfl rfl (by decide) (Ev.loadA (i := 0) rfl rfl Try.isAgg45 Try.sizeOf45 (ch := enc (CausalR.mk Causal.zero Sl.nil)) (Enc.len _) (Get.here _)) ?_
    obtain ⟨r126, h127, H⟩ := bind_some H
    refine Lst.call1 rfl rfl (by decide) (vs := [.agg (enc (CausalR.mk r20.1 s22)).toArray, .agg (enc (CausalR.mk Causal.zero Sl.nil)).toArray]) ⟨rfl, rfl, trivial⟩ Try.call30 (partref_SameCausal_sim h127 w0 _ _ _ (List.Sublist.refl _) (Rd.own (i := 4) rfl rfl rfl) Rd.nil) ?_
    refine Lst.run rfl rfl (by decide) (Ev.move rfl) ?_
    obtain ⟨o130, H, HKo130⟩ := bind_some H
    refine Lst.join (σ := Bool) 4 (fun y131 => [(13, .int .i64 r20.2.2), (126, .bool y131)]) (fun y131 => (.blk b32 (enc (CausalR.mk Causal.zero Sl.nil)) 45) :: (.own Sl.nil 47 8 (encs ([] : List Mail))) :: (.blk b29 (enc (CausalR.mk r20.1 s22)) 45) :: (.own Sl.nil 47 8 (encs ([] : List Mail))) :: (.own s22 47 8 (encs r20.1.Hold)) :: (.own s24 47 8 (encs r20.2.1)) :: (.blk b18 (enc r9.2.1) 47) :: (.blk b16 (enc (CausalR.mk r9.1 s11)) 45) :: (.own Sl.nil 47 8 (encs ([] : List Mail))) :: (.own s11 47 8 (encs r9.1.Hold)) :: (.blk b3 (enc a2) 47) :: (.blk b1 (enc (CausalR.mk a0 s_a0_2)) 45) :: L) (fun _ y131 => y131 = o130) ?_ ?_
    · rcases (Bool.eq_false_or_eq_true r126).symm with hb132 | hb132
      · replace H := ite_f hb132 H
        refine Lst.skip rfl rfl rfl hb132 rfl (by decide) ?_
        refine Lst.skip rfl rfl rfl hb132 rfl (by decide) ?_
        refine Lst.skip rfl rfl rfl hb132 rfl (by decide) ?_
        refine Lst.run rfl rfl (by decide) (Ev.pickF rfl hb132 rfl) ?_
        refine Lst.nil ?_
        exact At.meet false (FLe.refl _) ⟨rfl, rfl, trivial⟩ rfl (some_inj H)
      replace H := ite_t hb132 H
      refine Lst.runG rfl rfl rfl hb132 rfl (by decide) (Ev.move rfl) ?_
      refine Lst.runG rfl rfl rfl hb132 rfl (by decide) (Ev.lenS (α := Mail) (xs := r20.2.1) (by decide) rfl rfl Try.runUnderlying43 (Rd.own (i := 5) rfl rfl rfl)) ?_
      refine Lst.runG rfl rfl rfl hb132 rfl (by decide) (Ev.eql rfl rfl) ?_
      refine Lst.run rfl rfl (by decide) (Ev.pickT rfl hb132 rfl) ?_
      refine Lst.nil ?_
      exact At.meet ((r20.2.1.length : Int) == (0 : Int)) (FLe.refl _) ⟨rfl, rfl, trivial⟩ rfl (some_inj H)
    rintro F133 y131 hF134 hy
    subst hy
    refine Lst.as (e' := [(13, .int .i64 r20.2.2), (126, .bool y131)]) (L' := (.blk b32 (enc (CausalR.mk Causal.zero Sl.nil)) 45) :: (.own Sl.nil 47 8 (encs ([] : List Mail))) :: (.blk b29 (enc (CausalR.mk r20.1 s22)) 45) :: (.own Sl.nil 47 8 (encs ([] : List Mail))) :: (.own s22 47 8 (encs r20.1.Hold)) :: (.own s24 47 8 (encs r20.2.1)) :: (.blk b18 (enc r9.2.1) 47) :: (.blk b16 (enc (CausalR.mk r9.1 s11)) 45) :: (.own Sl.nil 47 8 (encs ([] : List Mail))) :: (.own s11 47 8 (encs r9.1.Hold)) :: (.blk b3 (enc a2) 47) :: (.blk b1 (enc (CausalR.mk a0 s_a0_2)) 45) :: L) ⟨rfl, rfl, trivial⟩ rfl ?_
    replace H := HKo130
    refine Lst.run rfl rfl (by decide) (Ev.move rfl) ?_
    obtain ⟨o135, H, HKo135⟩ := bind_some H
    refine Lst.join (σ := Bool) 3 (fun y136 => [(130, .bool y136)]) (fun y136 => (.blk b32 (enc (CausalR.mk Causal.zero Sl.nil)) 45) :: (.own Sl.nil 47 8 (encs ([] : List Mail))) :: (.blk b29 (enc (CausalR.mk r20.1 s22)) 45) :: (.own Sl.nil 47 8 (encs ([] : List Mail))) :: (.own s22 47 8 (encs r20.1.Hold)) :: (.own s24 47 8 (encs r20.2.1)) :: (.blk b18 (enc r9.2.1) 47) :: (.blk b16 (enc (CausalR.mk r9.1 s11)) 45) :: (.own Sl.nil 47 8 (encs ([] : List Mail))) :: (.own s11 47 8 (encs r9.1.Hold)) :: (.blk b3 (enc a2) 47) :: (.blk b1 (enc (CausalR.mk a0 s_a0_2)) 45) :: L) (fun _ y136 => y136 = o135) ?_ ?_
    · rcases (Bool.eq_false_or_eq_true y131).symm with hb137 | hb137
      · replace H := ite_f hb137 H
        refine Lst.skip rfl rfl rfl hb137 rfl (by decide) ?_
        refine Lst.skip rfl rfl rfl hb137 rfl (by decide) ?_
        refine Lst.run rfl rfl (by decide) (Ev.pickF rfl hb137 rfl) ?_
        refine Lst.nil ?_
        exact At.meet false (FLe.refl _) ⟨rfl, trivial⟩ rfl (some_inj H)
      replace H := ite_t hb137 H
      refine Lst.runG rfl rfl rfl hb137 rfl (by decide) (Ev.move rfl) ?_
      refine Lst.runG rfl rfl rfl hb137 rfl (by decide) (Ev.eql rfl rfl) ?_
      refine Lst.run rfl rfl (by decide) (Ev.pickT rfl hb137 rfl) ?_
      refine Lst.nil ?_
      exact At.meet (r20.2.2 == (1 : Int)) (FLe.refl _) ⟨rfl, trivial⟩ rfl (some_inj H)
    rintro F138 y136 hF139 hy
    subst hy
    refine Lst.as (e' := [(130, .bool y136)]) (L' := (.blk b32 (enc (CausalR.mk Causal.zero Sl.nil)) 45) :: (.own Sl.nil 47 8 (encs ([] : List Mail))) :: (.blk b29 (enc (CausalR.mk r20.1 s22)) 45) :: (.own Sl.nil 47 8 (encs ([] : List Mail))) :: (.own s22 47 8 (encs r20.1.Hold)) :: (.own s24 47 8 (encs r20.2.1)) :: (.blk b18 (enc r9.2.1) 47) :: (.blk b16 (enc (CausalR.mk r9.1 s11)) 45) :: (.own Sl.nil 47 8 (encs ([] : List Mail))) :: (.own s11 47 8 (encs r9.1.Hold)) :: (.blk b3 (enc a2) 47) :: (.blk b1 (enc (CausalR.mk a0 s_a0_2)) 45) :: L) ⟨rfl, trivial⟩ rfl ?_
    replace H := HKo135
    refine Lst.run rfl rfl (by decide) (Ev.assign rfl) ?_
    refine Lst.nil ?_
    refine At.then ?_
    obtain rfl := some_inj H
    refine Cd.ret ?_
    refine At.then_ret ?_
    exact At.ret1 rfl (Res.tmp rfl) (FLe.trans (FLe.trans (FLe.trans (FLe.trans hF14 hF27) hF120) hF134) hF139) (List.Sublist.cons _ (List.Sublist.cons _ (List.Sublist.cons _ (List.Sublist.cons _ (List.Sublist.cons _ (List.Sublist.cons _ (List.Sublist.cons _ (List.Sublist.cons _ (List.Sublist.cons _ (List.Sublist.cons _ (List.Sublist.cons _ (List.Sublist.cons _ (List.Sublist.refl _))))))))))))) ⟨rfl, rfl⟩
  replace H := ite_f hb125 H
  refine Cd.condF rfl hb125 ?_
  refine Cd.skip ?_
  refine At.then ?_
  refine Cd.seq ?_
  refine Cd.region ?_
  refine Lst.run rfl rfl (by decide) (Ev.loadA (i := 11) rfl rfl Try.isAgg45 Try.sizeOf45 (ch := enc (CausalR.mk a0 s_a0_2)) (Enc.len _) (Get.here _)) ?_
  refine Lst.run rfl rfl (by decide) (Ev.loadA (i := 10) rfl rfl Try.isAgg47 Try.sizeOf47 (ch := enc a2) (Enc.len _) (Get.here _)) ?_
  obtain ⟨r140, h141, H⟩ := bind_some H
  refine Lst.call rfl rfl (by decide) (vs := [.agg (enc (CausalR.mk a0 s_a0_2)).toArray, .agg (enc a2).toArray]) ⟨rfl, rfl, trivial⟩ Try.call32 (partref_HearMail_sim h141 w0 _ M _ (List.Sublist.cons _ (List.Sublist.cons _ (List.Sublist.cons _ (List.Sublist.cons _ (List.Sublist.cons _ (List.Sublist.cons _ (List.Sublist.cons _ (List.Sublist.cons _ (List.Sublist.cons _ (List.Sublist.cons _ (List.Sublist.cons _ (List.Sublist.cons _ hM)))))))))))) (hs_a0_2.mono (FLe.trans (FLe.trans hF14 hF27) hF120) (List.Sublist.refl _))) (fun F146 L' v hF147 hv => ?_)
  obtain ⟨s142, s144, rfl, rfl⟩ := hv
  refine Lst.run rfl rfl (by decide) (Ev.move rfl) ?_
  refine Lst.run rfl rfl (by decide) (Ev.extract rfl rfl) ?_
  refine Lst.run rfl rfl (by decide) (Ev.extract rfl rfl) ?_
  refine Lst.run rfl rfl (by decide) (Ev.extract rfl rfl) ?_
  refine Lst.addNil 47 8 ?_
  refine Lst.alloc (cs := enc (CausalR.mk ({ Causal.zero with Hold := ([] : List Mail) } : Causal) Sl.nil)) rfl rfl (by decide) Try.zeroValue45 rfl (fun b149 => ?_)
  refine Lst.store (i := 0) rfl rfl rfl rfl rfl Try.sizeOf45 (vs := enc (CausalR.mk r140.1 s142)) rfl (Enc.len _) (Enc.one _) (cs' := enc (CausalR.mk r140.1 s142)) (Put.here ((Enc.len _).trans (Enc.len _).symm)) (L' := (.blk b149 (enc (CausalR.mk r140.1 s142)) 45) :: (.own Sl.nil 47 8 (encs ([] : List Mail))) :: (.own s142 47 8 (encs r140.1.Hold)) :: (.own s144 47 8 (encs r140.2.1)) :: (.blk b32 (enc (CausalR.mk Causal.zero Sl.nil)) 45) :: (.own Sl.nil 47 8 (encs ([] : List Mail))) :: (.blk b29 (enc (CausalR.mk r20.1 s22)) 45) :: (.own Sl.nil 47 8 (encs ([] : List Mail))) :: (.own s22 47 8 (encs r20.1.Hold)) :: (.own s24 47 8 (encs r20.2.1)) :: (.blk b18 (enc r9.2.1) 47) :: (.blk b16 (enc (CausalR.mk r9.1 s11)) 45) :: (.own Sl.nil 47 8 (encs ([] : List Mail))) :: (.own s11 47 8 (encs r9.1.Hold)) :: (.blk b3 (enc a2) 47) :: (.blk b1 (enc (CausalR.mk a0 s_a0_2)) 45) :: L) rfl ?_
  refine Lst.run rfl rfl (by decide) (Ev.assign rfl) ?_
  refine Lst.run rfl rfl (by decide) (Ev.assign rfl) ?_
  refine Lst.nil ?_
  refine At.then ?_
  refine Cd.seq ?_
  refine Cd.region ?_
  refine Lst.run rfl rfl (by decide) (Ev.loadA (i := 6) rfl rfl Try.isAgg45 Try.sizeOf45 (ch := enc (CausalR.mk r20.1 s22)) (Enc.len _) (Get.here _)) ?_
  refine Lst.run rfl rfl (by decide) (Ev.loadA (i := 0) rfl rfl Try.isAgg45 Try.sizeOf45 (ch := enc (CausalR.mk r140.1 s142)) (Enc.len _) (Get.here _)) ?_
  obtain ⟨r151, h152, H⟩ := bind_some H
  refine Lst.call1 rfl rfl (by decide) (vs := [.agg (enc (CausalR.mk r20.1 s22)).toArray, .agg (enc (CausalR.mk r140.1 s142)).toArray]) ⟨rfl, rfl, trivial⟩ Try.call30 (partref_SameCausal_sim h152 w0 _ _ _ (List.Sublist.refl _) (Rd.own (i := 8) rfl rfl rfl) (Rd.own (i := 2) rfl rfl rfl)) ?_
  refine Lst.run rfl rfl (by decide) (Ev.move rfl) ?_
  obtain ⟨o155, H, HKo155⟩ := bind_some H
  refine Lst.join (σ := Bool) 4 (fun y156 => [(13, .int .i64 r20.2.2), (18, .int .i64 r140.2.2), (145, .bool y156)]) (fun y156 => (.blk b149 (enc (CausalR.mk r140.1 s142)) 45) :: (.own Sl.nil 47 8 (encs ([] : List Mail))) :: (.own s142 47 8 (encs r140.1.Hold)) :: (.own s144 47 8 (encs r140.2.1)) :: (.blk b32 (enc (CausalR.mk Causal.zero Sl.nil)) 45) :: (.own Sl.nil 47 8 (encs ([] : List Mail))) :: (.blk b29 (enc (CausalR.mk r20.1 s22)) 45) :: (.own Sl.nil 47 8 (encs ([] : List Mail))) :: (.own s22 47 8 (encs r20.1.Hold)) :: (.own s24 47 8 (encs r20.2.1)) :: (.blk b18 (enc r9.2.1) 47) :: (.blk b16 (enc (CausalR.mk r9.1 s11)) 45) :: (.own Sl.nil 47 8 (encs ([] : List Mail))) :: (.own s11 47 8 (encs r9.1.Hold)) :: (.blk b3 (enc a2) 47) :: (.blk b1 (enc (CausalR.mk a0 s_a0_2)) 45) :: L) (fun _ y156 => y156 = o155) ?_ ?_
  · rcases (Bool.eq_false_or_eq_true r151).symm with hb157 | hb157
    · replace H := ite_f hb157 H
      refine Lst.skip rfl rfl rfl hb157 rfl (by decide) ?_
      refine Lst.skip rfl rfl rfl hb157 rfl (by decide) ?_
      refine Lst.skip rfl rfl rfl hb157 rfl (by decide) ?_
      refine Lst.run rfl rfl (by decide) (Ev.pickF rfl hb157 rfl) ?_
      refine Lst.nil ?_
      exact At.meet false (FLe.refl _) ⟨rfl, rfl, rfl, trivial⟩ rfl (some_inj H)
    replace H := ite_t hb157 H
    refine Lst.runG rfl rfl rfl hb157 rfl (by decide) (Ev.move rfl) ?_
    refine Lst.runG rfl rfl rfl hb157 rfl (by decide) (Ev.move rfl) ?_
    obtain ⟨r158, h159, H⟩ := bind_some H
    refine Lst.call1G rfl rfl rfl hb157 rfl (by decide) (vs := [Sl.v s24, Sl.v s144]) ⟨rfl, rfl, trivial⟩ Try.call33 (slices_Equal_api_Mail_api_Mail_sim h159 w0 _ _ _ (List.Sublist.refl _) (Rd.own (i := 9) rfl rfl rfl) (Rd.own (i := 3) rfl rfl rfl)) ?_
    refine Lst.run rfl rfl (by decide) (Ev.pickT rfl hb157 rfl) ?_
    refine Lst.nil ?_
    exact At.meet r158 (FLe.refl _) ⟨rfl, rfl, rfl, trivial⟩ rfl (some_inj H)
  rintro F162 y156 hF163 hy
  subst hy
  refine Lst.as (e' := [(13, .int .i64 r20.2.2), (18, .int .i64 r140.2.2), (145, .bool y156)]) (L' := (.blk b149 (enc (CausalR.mk r140.1 s142)) 45) :: (.own Sl.nil 47 8 (encs ([] : List Mail))) :: (.own s142 47 8 (encs r140.1.Hold)) :: (.own s144 47 8 (encs r140.2.1)) :: (.blk b32 (enc (CausalR.mk Causal.zero Sl.nil)) 45) :: (.own Sl.nil 47 8 (encs ([] : List Mail))) :: (.blk b29 (enc (CausalR.mk r20.1 s22)) 45) :: (.own Sl.nil 47 8 (encs ([] : List Mail))) :: (.own s22 47 8 (encs r20.1.Hold)) :: (.own s24 47 8 (encs r20.2.1)) :: (.blk b18 (enc r9.2.1) 47) :: (.blk b16 (enc (CausalR.mk r9.1 s11)) 45) :: (.own Sl.nil 47 8 (encs ([] : List Mail))) :: (.own s11 47 8 (encs r9.1.Hold)) :: (.blk b3 (enc a2) 47) :: (.blk b1 (enc (CausalR.mk a0 s_a0_2)) 45) :: L) ⟨rfl, rfl, rfl, trivial⟩ rfl ?_
  replace H := HKo155
  refine Lst.run rfl rfl (by decide) (Ev.move rfl) ?_
  obtain ⟨o164, H, HKo164⟩ := bind_some H
  refine Lst.join (σ := Bool) 4 (fun y165 => [(150, .bool y165)]) (fun y165 => (.blk b149 (enc (CausalR.mk r140.1 s142)) 45) :: (.own Sl.nil 47 8 (encs ([] : List Mail))) :: (.own s142 47 8 (encs r140.1.Hold)) :: (.own s144 47 8 (encs r140.2.1)) :: (.blk b32 (enc (CausalR.mk Causal.zero Sl.nil)) 45) :: (.own Sl.nil 47 8 (encs ([] : List Mail))) :: (.blk b29 (enc (CausalR.mk r20.1 s22)) 45) :: (.own Sl.nil 47 8 (encs ([] : List Mail))) :: (.own s22 47 8 (encs r20.1.Hold)) :: (.own s24 47 8 (encs r20.2.1)) :: (.blk b18 (enc r9.2.1) 47) :: (.blk b16 (enc (CausalR.mk r9.1 s11)) 45) :: (.own Sl.nil 47 8 (encs ([] : List Mail))) :: (.own s11 47 8 (encs r9.1.Hold)) :: (.blk b3 (enc a2) 47) :: (.blk b1 (enc (CausalR.mk a0 s_a0_2)) 45) :: L) (fun _ y165 => y165 = o164) ?_ ?_
  · rcases (Bool.eq_false_or_eq_true y156).symm with hb166 | hb166
    · replace H := ite_f hb166 H
      refine Lst.skip rfl rfl rfl hb166 rfl (by decide) ?_
      refine Lst.skip rfl rfl rfl hb166 rfl (by decide) ?_
      refine Lst.skip rfl rfl rfl hb166 rfl (by decide) ?_
      refine Lst.run rfl rfl (by decide) (Ev.pickF rfl hb166 rfl) ?_
      refine Lst.nil ?_
      exact At.meet false (FLe.refl _) ⟨rfl, trivial⟩ rfl (some_inj H)
    replace H := ite_t hb166 H
    refine Lst.runG rfl rfl rfl hb166 rfl (by decide) (Ev.move rfl) ?_
    refine Lst.runG rfl rfl rfl hb166 rfl (by decide) (Ev.move rfl) ?_
    refine Lst.runG rfl rfl rfl hb166 rfl (by decide) (Ev.eql rfl rfl) ?_
    refine Lst.run rfl rfl (by decide) (Ev.pickT rfl hb166 rfl) ?_
    refine Lst.nil ?_
    exact At.meet (r20.2.2 == r140.2.2) (FLe.refl _) ⟨rfl, trivial⟩ rfl (some_inj H)
  rintro F167 y165 hF168 hy
  subst hy
  refine Lst.as (e' := [(150, .bool y165)]) (L' := (.blk b149 (enc (CausalR.mk r140.1 s142)) 45) :: (.own Sl.nil 47 8 (encs ([] : List Mail))) :: (.own s142 47 8 (encs r140.1.Hold)) :: (.own s144 47 8 (encs r140.2.1)) :: (.blk b32 (enc (CausalR.mk Causal.zero Sl.nil)) 45) :: (.own Sl.nil 47 8 (encs ([] : List Mail))) :: (.blk b29 (enc (CausalR.mk r20.1 s22)) 45) :: (.own Sl.nil 47 8 (encs ([] : List Mail))) :: (.own s22 47 8 (encs r20.1.Hold)) :: (.own s24 47 8 (encs r20.2.1)) :: (.blk b18 (enc r9.2.1) 47) :: (.blk b16 (enc (CausalR.mk r9.1 s11)) 45) :: (.own Sl.nil 47 8 (encs ([] : List Mail))) :: (.own s11 47 8 (encs r9.1.Hold)) :: (.blk b3 (enc a2) 47) :: (.blk b1 (enc (CausalR.mk a0 s_a0_2)) 45) :: L) ⟨rfl, trivial⟩ rfl ?_
  replace H := HKo164
  refine Lst.run rfl rfl (by decide) (Ev.assign rfl) ?_
  refine Lst.nil ?_
  refine At.then ?_
  obtain rfl := some_inj H
  refine Cd.ret ?_
  exact At.ret1 rfl (Res.tmp rfl) (FLe.trans (FLe.trans (FLe.trans (FLe.trans (FLe.trans hF14 hF27) hF120) hF147) hF163) hF168) (List.Sublist.cons _ (List.Sublist.cons _ (List.Sublist.cons _ (List.Sublist.cons _ (List.Sublist.cons _ (List.Sublist.cons _ (List.Sublist.cons _ (List.Sublist.cons _ (List.Sublist.cons _ (List.Sublist.cons _ (List.Sublist.cons _ (List.Sublist.cons _ (List.Sublist.cons _ (List.Sublist.cons _ (List.Sublist.cons _ (List.Sublist.cons _ (List.Sublist.refl _))))))))))))))))) ⟨rfl, rfl⟩
end Go.Proofs.Ytobikknjaomalaa
