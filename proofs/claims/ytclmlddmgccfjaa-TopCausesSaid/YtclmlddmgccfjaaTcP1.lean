/-
  The functions compute their specs; printed by a program.
-/
import Derived.Test.YtclmlddmgccfjaaTcSp
import Derived.Test.YtclmlddmgccfjaaGoL
import Derived.Test.YtclmlddmgccfjaaGoK
import Derived.Test.YtclmlddmgccfjaaGoI
import Derived.Test.YtclmlddmgccfjaaGoU
import Derived.Test.YtclmlddmgccfjaaGoM
import Derived.Test.YtclmlddmgccfjaaGoS
import Derived.Test.YtclmlddmgccfjaaGoR
import Derived.Test.YtclmlddmgccfjaaProg
namespace Go.Proofs.Ytclmlddmgccfjaa
open Go.RowKit Enc
set_option linter.unusedVariables false
set_option linter.unusedSimpArgs false
set_option maxRecDepth 20000 in
theorem eq23 (x y : Vector Int 6) : ∀ w, (Op.equal 23 (.agg (enc x).toArray) (.agg (enc y).toArray)).run Try.prog w = .ok (decide (x = y)) w :=
  EqT.top (d := 10000) Try.isAgg23 Try.sizeOf23 rfl rfl (EqT.array (inf := Try.t3) Try.isAgg23 Try.sizeOf23 rfl Try.runUnderlying23 rfl (by kernel_rfl) (EqT.int Try.isAgg3 Try.runUnderlying3)) x y
set_option maxRecDepth 20000 in
theorem slices_Clone_api_Event_api_Event_sim {a0 : List Event} {s_a0 : Sl} {r : (List Event)} (H : slices_Clone_api_Event_api_Event a0 = some r) (w0 : World) (F : Frz) (M L : List Item) (hM : M.Sublist L) (hs_a0 : Rd w0 F M s_a0 a0) : Ok Try.prog w0 65 [Sl.v s_a0] F (L) (fun _ L' v => ∃ (s1 : Sl), v = Sl.v s1 ∧ L' = (.own s1 75 3 (encs r)) :: L) := by
  unfold slices_Clone_api_Event_api_Event at H
  refine Ok.enter (m := 1) (n := 8) Try.func65 rfl rfl rfl (by decide) ?_
  refine Cd.env (e' := [(0, Sl.v s_a0)]) rfl ?_
  refine Cd.seq ?_
  refine Cd.region ?_
  refine Lst.addNil 75 3 ?_
  refine Lst.run rfl rfl (by decide) (Ev.assign rfl) ?_
  refine Lst.nil ?_
  refine At.then ?_
  refine Cd.seq ?_
  refine Cd.seq ?_
  refine Cd.region ?_
  refine Lst.run rfl rfl (by decide) (Ev.move rfl) ?_
  refine Lst.run rfl rfl (by decide) (Ev.eqlNil rfl Try.runUnderlying24) ?_
  refine Lst.nil ?_
  refine At.then ?_
  rcases Bool.eq_false_or_eq_true ((Sl.a s_a0).isNone) with hb2 | hb2
  · refine Cd.bound (Rd.isNil (α := Event) (by decide) (hs_a0.mono (FLe.refl _) (List.Sublist.cons _ hM)) hb2) (fun hx9 => ?_)
    rw [clone_nil hx9] at H
    refine Cd.condT rfl hb2 ?_
    refine Cd.seq ?_
    refine Cd.region ?_
    refine Lst.addNil 75 3 ?_
    refine Lst.run rfl rfl (by decide) (Ev.assign rfl) ?_
    refine Lst.nil ?_
    refine At.then ?_
    obtain rfl := some_inj H
    refine Cd.ret ?_
    refine At.then_ret ?_
    exact At.ret1 rfl (Res.tmp rfl) (FLe.refl _) (List.Sublist.cons_cons _ (List.Sublist.cons _ (List.Sublist.refl _))) ⟨Sl.nil, rfl, rfl⟩
  refine Cd.condF rfl hb2 ?_
  refine Cd.skip ?_
  refine At.then ?_
  refine Cd.seq ?_
  refine Cd.region ?_
  refine Lst.buildSlice0 rfl rfl (by decide) Try.runUnderlying24 Try.sizeOf75 (fun s3 => ?_)
  refine Lst.its (L' := (.own s3 75 3 (encs ([] : List Event))) :: (.own Sl.nil 75 3 (encs ([] : List Event))) :: L) rfl ?_
  refine Lst.run rfl rfl (by decide) (Ev.move rfl) ?_
  obtain ⟨u5, h6, H⟩ := bind_some H
  refine Lst.append (i := 0) (α := Event) (xs := ([] : List Event)) (ys := a0) rfl rfl (by decide) rfl rfl Try.runUnderlying24 Try.typeInfo75 rfl rfl rfl rfl rfl rfl (hs_a0.mono (FLe.refl _) (List.Sublist.cons _ (List.Sublist.cons _ hM))) rfl (room_some h6) rfl (fun s7 => ?_)
  refine Lst.its (L' := (.own s7 75 3 (encs (([] : List Event) ++ a0))) :: (.own Sl.nil 75 3 (encs ([] : List Event))) :: L) rfl ?_
  refine Lst.run rfl rfl (by decide) (Ev.assign rfl) ?_
  refine Lst.nil ?_
  refine At.then ?_
  obtain rfl := some_inj H
  refine Cd.ret ?_
  exact At.ret1 rfl (Res.tmp rfl) (FLe.refl _) (List.Sublist.cons_cons _ (List.Sublist.cons _ (List.Sublist.refl _))) ⟨s7, rfl, rfl⟩
set_option maxRecDepth 20000 in
theorem stamp_in_sim {a0 : Int} {a1 : Int} {a2 : Int} {r : Bool} (H : stamp_in a0 a1 a2 = some r) (w0 : World) (F : Frz) (M L : List Item) (hM : M.Sublist L) : Ok Try.prog w0 69 [.int .i64 a0, .int .i64 a1, .int .i64 a2] F (L) (Is (.bool r) (L)) := by
  unfold stamp_in at H
  refine Ok.enter (m := 3) (n := 15) Try.func69 rfl rfl rfl (by decide) ?_
  refine Cd.env (e' := [(0, .int .i64 a0), (1, .int .i64 a1), (2, .int .i64 a2)]) rfl ?_
  refine Cd.seq ?_
  refine Cd.region ?_
  refine Lst.run rfl rfl (by decide) (Ev.assign rfl) ?_
  refine Lst.nil ?_
  refine At.then ?_
  refine Cd.seq ?_
  refine Cd.region ?_
  refine Lst.run rfl rfl (by decide) (Ev.move rfl) ?_
  refine Lst.run rfl rfl (by decide) (Ev.move rfl) ?_
  refine Lst.run rfl rfl (by decide) (Ev.geq rfl rfl) ?_
  refine Lst.run rfl rfl (by decide) (Ev.move rfl) ?_
  obtain ⟨o1, H, HKo1⟩ := bind_some H
  refine Lst.join (σ := Bool) 4 (fun y2 => [(14, .bool y2)]) (fun y2 => L) (fun _ y2 => y2 = o1) ?_ ?_
  · rcases (Bool.eq_false_or_eq_true (decide (a0 ≥ a1))).symm with hb3 | hb3
    · replace H := ite_f hb3 H
      refine Lst.skip rfl rfl rfl hb3 rfl (by decide) ?_
      refine Lst.skip rfl rfl rfl hb3 rfl (by decide) ?_
      refine Lst.skip rfl rfl rfl hb3 rfl (by decide) ?_
      refine Lst.run rfl rfl (by decide) (Ev.pickF rfl hb3 rfl) ?_
      refine Lst.nil ?_
      exact At.meet false (FLe.refl _) ⟨rfl, trivial⟩ rfl (some_inj H)
    replace H := ite_t hb3 H
    refine Lst.runG rfl rfl rfl hb3 rfl (by decide) (Ev.move rfl) ?_
    refine Lst.runG rfl rfl rfl hb3 rfl (by decide) (Ev.move rfl) ?_
    refine Lst.runG rfl rfl rfl hb3 rfl (by decide) (Ev.leq rfl rfl) ?_
    refine Lst.run rfl rfl (by decide) (Ev.pickT rfl hb3 rfl) ?_
    refine Lst.nil ?_
    exact At.meet (decide (a0 ≤ a2)) (FLe.refl _) ⟨rfl, trivial⟩ rfl (some_inj H)
  rintro F4 y2 hF5 hy
  subst hy
  refine Lst.as (e' := [(14, .bool y2)]) (L' := L) ⟨rfl, trivial⟩ rfl ?_
  replace H := HKo1
  refine Lst.run rfl rfl (by decide) (Ev.assign rfl) ?_
  refine Lst.nil ?_
  refine At.then ?_
  obtain rfl := some_inj H
  refine Cd.ret ?_
  exact At.ret1 rfl (Res.tmp rfl) hF5 (List.Sublist.refl _) ⟨rfl, rfl⟩
set_option maxRecDepth 20000 in
theorem stamp_checker_event_sim {a0 : Checker} {a1 : Event} {b_a0 : Nat} {r : Checker × Int} (H : stamp_checker_event a0 a1 = some r) (w0 : World) (F : Frz) (M L : List Item) (hM : M.Sublist L) : Ok Try.prog w0 51 [.pointer (some ⟨b_a0, 0, none⟩), .agg (enc a1).toArray] F ((.blk b_a0 (enc a0) 84) :: L) (fun _ L' v => v = .int .i64 r.2 ∧ L' = (.blk b_a0 (enc r.1) 84) :: L) := by
  unfold stamp_checker_event at H
  refine Ok.enter (m := 2) (n := 85) Try.func51 rfl rfl rfl (by decide) ?_
  refine Cd.env (e' := [(0, .pointer (some ⟨b_a0, 0, none⟩)), (1, .agg (enc a1).toArray)]) rfl ?_
  refine Cd.seq ?_
  refine Cd.region ?_
  refine Lst.box rfl rfl (by decide) rfl (cs := enc a1) rfl (fun b2 => ?_)
  refine Lst.run rfl rfl (by decide) (Ev.assign rfl) ?_
  refine Lst.nil ?_
  refine At.then ?_
  refine Cd.seq ?_
  refine Cd.seq ?_
  refine Cd.region ?_
  refine Lst.run rfl rfl (by decide) (Ev.fieldAddr (off' := 0) rfl Try.runUnderlying75 rfl Try.sizeOf3 rfl rfl) ?_
  refine Lst.run rfl rfl (by decide) (Ev.load (i := 0) rfl rfl Try.isAgg3 (v := .int .i64 a1.Proc) ((Event.get_Proc (Get.here _)).off (by rfl))) ?_
  obtain ⟨r4, h5, H⟩ := bind_some H
  refine Lst.call1 rfl rfl (by decide) (vs := [.int .i64 a1.Proc, .int .i64 (0 : Int), .int .i64 (5 : Int)]) ⟨rfl, rfl, rfl, trivial⟩ Try.call69 (stamp_in_sim h5 w0 _ M _ (List.Sublist.cons _ (List.Sublist.cons _ hM))) ?_
  refine Lst.run rfl rfl (by decide) (Ev.not rfl) ?_
  refine Lst.run rfl rfl (by decide) (Ev.move rfl) ?_
  obtain ⟨o8, H, HKo8⟩ := bind_some H
  refine Lst.join (σ := Bool) 5 (fun y9 => [(0, .pointer (some ⟨b_a0, 0, none⟩)), (3, .pointer (some ⟨b2, 0, none⟩)), (14, .bool y9)]) (fun y9 => (.blk b2 (enc a1) 75) :: (.blk b_a0 (enc a0) 84) :: L) (fun _ y9 => y9 = o8) ?_ ?_
  · rcases Bool.eq_false_or_eq_true (!r4) with hb10 | hb10
    · replace H := ite_t hb10 H
      refine Lst.skip rfl rfl rfl hb10 rfl (by decide) ?_
      refine Lst.skip rfl rfl rfl hb10 rfl (by decide) ?_
      refine Lst.skip rfl rfl rfl hb10 rfl (by decide) ?_
      refine Lst.skip rfl rfl rfl hb10 rfl (by decide) ?_
      refine Lst.run rfl rfl (by decide) (Ev.pickT rfl hb10 rfl) ?_
      refine Lst.nil ?_
      exact At.meet true (FLe.refl _) ⟨rfl, rfl, rfl, trivial⟩ rfl (some_inj H)
    replace H := ite_f hb10 H
    refine Lst.runG rfl rfl rfl hb10 rfl (by decide) (Ev.fieldAddr (off' := 2) rfl Try.runUnderlying75 rfl Try.sizeOf3 rfl rfl) ?_
    refine Lst.runG rfl rfl rfl hb10 rfl (by decide) (Ev.load (i := 0) rfl rfl Try.isAgg3 (v := .int .i64 a1.Msg) ((Event.get_Msg (Get.here _)).off (by rfl))) ?_
    obtain ⟨r11, h12, H⟩ := bind_some H
    refine Lst.call1G rfl rfl rfl hb10 rfl (by decide) (vs := [.int .i64 a1.Msg, .int .i64 (0 : Int), .int .i64 (29 : Int)]) ⟨rfl, rfl, rfl, trivial⟩ Try.call69 (stamp_in_sim h12 w0 _ M _ (List.Sublist.cons _ (List.Sublist.cons _ hM))) ?_
    refine Lst.runG rfl rfl rfl hb10 rfl (by decide) (Ev.not rfl) ?_
    refine Lst.run rfl rfl (by decide) (Ev.pickF rfl hb10 rfl) ?_
    refine Lst.nil ?_
    exact At.meet (!r11) (FLe.refl _) ⟨rfl, rfl, rfl, trivial⟩ rfl (some_inj H)
  rintro F15 y9 hF16 hy
  subst hy
  refine Lst.as (e' := [(0, .pointer (some ⟨b_a0, 0, none⟩)), (3, .pointer (some ⟨b2, 0, none⟩)), (14, .bool y9)]) (L' := (.blk b2 (enc a1) 75) :: (.blk b_a0 (enc a0) 84) :: L) ⟨rfl, rfl, rfl, trivial⟩ rfl ?_
  replace H := HKo8
  refine Lst.nil ?_
  refine At.then ?_
  rcases Bool.eq_false_or_eq_true y9 with hb17 | hb17
  · replace H := ite_t hb17 H
    refine Cd.condT rfl hb17 ?_
    refine Cd.seq ?_
    refine Cd.region ?_
    refine Lst.run rfl rfl (by decide) (Ev.assign rfl) ?_
    refine Lst.nil ?_
    refine At.then ?_
    obtain rfl := some_inj H
    refine Cd.ret ?_
    refine At.then_ret ?_
    exact At.ret1 rfl (Res.tmp rfl) hF16 (List.Sublist.cons _ (List.Sublist.cons_cons _ (List.Sublist.refl _))) ⟨rfl, rfl⟩
  replace H := ite_f hb17 H
  refine Cd.condF rfl hb17 ?_
  refine Cd.skip ?_
  refine At.then ?_
  obtain ⟨o19, H, HKo19⟩ := andThen_some H
  refine Cd.join (σ := Checker) (fun y18 => []) (fun y18 => (.blk b2 (enc a1) 75) :: (.blk b_a0 (enc y18) 84) :: L) (fun _ y18 => .inl y18 = o19) ?_ ?_
  · refine Cd.seq ?_
    refine Cd.region ?_
    refine Lst.run rfl rfl (by decide) (Ev.fieldAddr (off' := 1) rfl Try.runUnderlying75 rfl Try.sizeOf3 rfl rfl) ?_
    refine Lst.run rfl rfl (by decide) (Ev.load (i := 0) rfl rfl Try.isAgg3 (v := .int .i64 a1.Kind) ((Event.get_Kind (Get.here _)).off (by rfl))) ?_
    refine Lst.nil ?_
    refine At.then ?_
    refine Cd.block ?_
    refine Cd.seq ?_
    refine Cd.region ?_
    refine Lst.run rfl rfl (by decide) (Ev.eql rfl rfl) ?_
    refine Lst.run rfl rfl (by decide) (Ev.assign rfl) ?_
    refine Lst.nil ?_
    refine At.then ?_
    rcases Bool.eq_false_or_eq_true (a1.Kind == (1 : Int)) with hb20 | hb20
    · replace H := ite_t hb20 H
      refine Cd.condT rfl hb20 ?_
      refine Cd.seq ?_
      refine Cd.region ?_
      refine Lst.run rfl rfl (by decide) (Ev.fieldAddr (off' := 2) rfl Try.runUnderlying75 rfl Try.sizeOf3 rfl rfl) ?_
      refine Lst.run rfl rfl (by decide) (Ev.load (i := 0) rfl rfl Try.isAgg3 (v := .int .i64 a1.Msg) ((Event.get_Msg (Get.here _)).off (by rfl))) ?_
      refine Lst.run rfl rfl (by decide) (Ev.neq rfl rfl) ?_
      refine Lst.nil ?_
      refine At.then ?_
      rcases Bool.eq_false_or_eq_true (a1.Msg != (0 : Int)) with hb21 | hb21
      · replace H := ite_t hb21 H
        refine Cd.condT rfl hb21 ?_
        refine Cd.seq ?_
        refine Cd.region ?_
        refine Lst.run rfl rfl (by decide) (Ev.assign rfl) ?_
        refine Lst.nil ?_
        refine At.then ?_
        obtain rfl := some_inj H
        replace H := HKo19
        obtain rfl := some_inj H
        refine Cd.ret ?_
        refine At.in_ret ?_
        refine At.then_ret ?_
        exact At.ret1 rfl (Res.tmp rfl) hF16 (List.Sublist.cons _ (List.Sublist.cons_cons _ (List.Sublist.refl _))) ⟨rfl, rfl⟩
      replace H := ite_f hb21 H
      refine Cd.condF rfl hb21 ?_
      refine Cd.skip ?_
      refine At.in_normal ?_
      exact At.meet a0 (FLe.refl _) trivial rfl (some_inj H)
    replace H := ite_f hb20 H
    refine Cd.condF rfl hb20 ?_
    refine Cd.seq ?_
    refine Cd.region ?_
    refine Lst.run rfl rfl (by decide) (Ev.eql rfl rfl) ?_
    refine Lst.run rfl rfl (by decide) (Ev.assign rfl) ?_
    refine Lst.nil ?_
    refine At.then ?_
    rcases Bool.eq_false_or_eq_true (a1.Kind == (2 : Int)) with hb22 | hb22
    · replace H := ite_t hb22 H
      refine Cd.condT rfl hb22 ?_
      refine Cd.seq ?_
      refine Cd.seq ?_
      refine Cd.quiet (by kernel_rfl) (by kernel_rfl) ?_
      refine Qt.run rfl rfl (by decide) (Ev.move rfl) ?_
      refine Qt.run rfl rfl (by decide) (Ev.fieldAddr (off' := 2) rfl Try.runUnderlying75 rfl Try.sizeOf3 rfl rfl) ?_
      refine Qt.run rfl rfl (by decide) (Ev.load (i := 0) rfl rfl Try.isAgg3 (v := .int .i64 a1.Msg) ((Event.get_Msg (Get.here _)).off (by rfl))) ?_
      refine Qt.run rfl rfl (by decide) (Ev.nilCheck rfl) ?_
      refine Qt.run rfl rfl (by decide) (Ev.fieldAddr (off' := 0) rfl Try.runUnderlying84 rfl Try.sizeOf76 rfl rfl) ?_
      obtain ⟨x23, h24, H⟩ := bind_some H
      have g25 := vat_some h24
      refine Qt.run rfl rfl (by decide) (Ev.indexAddr (off' := 0 + a1.Msg.toNat * 1) rfl rfl Try.runUnderlying76 Try.sizeOf3 g25.1 g25.2.1 rfl) ?_
      refine Qt.run rfl rfl (by decide) (Ev.load (i := 1) rfl rfl Try.isAgg3 (v := .int .i64 x23) ((Checker.get_sender (Get.vecN (s := 1) (x := x23) rfl g25.2.2 (Get.here _))).off (by omega))) ?_
      refine Qt.run rfl rfl (by decide) (Ev.gtr rfl rfl) ?_
      refine Qt.done ?_
      refine At.then ?_
      rcases Bool.eq_false_or_eq_true (decide (x23 > (0 : Int))) with hb26 | hb26
      · replace H := ite_t hb26 H
        refine Cd.condT rfl hb26 ?_
        refine Cd.seq ?_
        refine Cd.as (e' := []) (L' := (.blk b2 (enc a1) 75) :: (.blk b_a0 (enc a0) 84) :: L) trivial rfl ?_
        refine Cd.region ?_
        refine Lst.run rfl rfl (by decide) (Ev.assign rfl) ?_
        refine Lst.nil ?_
        refine At.then ?_
        obtain rfl := some_inj H
        replace H := HKo19
        obtain rfl := some_inj H
        refine Cd.ret ?_
        refine At.then_ret ?_
        refine At.in_ret ?_
        refine At.then_ret ?_
        exact At.ret1 rfl (Res.tmp rfl) hF16 (List.Sublist.cons _ (List.Sublist.cons_cons _ (List.Sublist.refl _))) ⟨rfl, rfl⟩
      replace H := ite_f hb26 H
      refine Cd.condF rfl hb26 ?_
      refine Cd.skip ?_
      refine At.then ?_
      refine Cd.as (e' := [(0, .pointer (some ⟨b_a0, 0, none⟩)), (3, .pointer (some ⟨b2, 0, none⟩))]) (L' := (.blk b2 (enc a1) 75) :: (.blk b_a0 (enc a0) 84) :: L) ⟨rfl, rfl, trivial⟩ rfl ?_
      refine Cd.tail 9 (by kernel_rfl) (by kernel_rfl) ?_
      refine Qt.run rfl rfl (by decide) (Ev.move rfl) ?_
      refine Qt.run rfl rfl (by decide) (Ev.fieldAddr (off' := 2) rfl Try.runUnderlying75 rfl Try.sizeOf3 rfl rfl) ?_
      refine Qt.run rfl rfl (by decide) (Ev.load (i := 0) rfl rfl Try.isAgg3 (v := .int .i64 a1.Msg) ((Event.get_Msg (Get.here _)).off (by rfl))) ?_
      refine Qt.run rfl rfl (by decide) (Ev.fieldAddr (off' := 0) rfl Try.runUnderlying75 rfl Try.sizeOf3 rfl rfl) ?_
      refine Qt.run rfl rfl (by decide) (Ev.load (i := 0) rfl rfl Try.isAgg3 (v := .int .i64 a1.Proc) ((Event.get_Proc (Get.here _)).off (by rfl))) ?_
      refine Qt.run rfl rfl (by decide) (Ev.add rfl rfl) ?_
      refine Qt.run rfl rfl (by decide) (Ev.nilCheck rfl) ?_
      refine Qt.run rfl rfl (by decide) (Ev.fieldAddr (off' := 0) rfl Try.runUnderlying84 rfl Try.sizeOf76 rfl rfl) ?_
      obtain ⟨x27, h28, H⟩ := bind_some H
      have g29 := vat_some h28
      refine Qt.run rfl rfl (by decide) (Ev.indexAddr (off' := 0 + a1.Msg.toNat * 1) rfl rfl Try.runUnderlying76 Try.sizeOf3 g29.1 g29.2.1 rfl) ?_
      refine Qt.tail ?_
      obtain ⟨p30, h31, H⟩ := Let_some H
      refine Lst.store (i := 1) rfl rfl rfl rfl rfl Try.sizeOf3 (vs := [.int .i64 (w64 (a1.Proc + (1 : Int)))]) rfl rfl rfl (cs' := enc p30) (by rw [← h31]; exact (Checker.put_sender (Put.vecN (s := 1) (x := x27) rfl g29.2.2 (Put.here (vs := [.int .i64 (w64 (a1.Proc + (1 : Int)))]) rfl))).off (by omega)) (L' := (.blk b2 (enc a1) 75) :: (.blk b_a0 (enc p30) 84) :: L) rfl ?_
      refine Lst.nil ?_
      refine At.in_normal ?_
      exact At.meet p30 (FLe.refl _) trivial rfl (some_inj H)
    replace H := ite_f hb22 H
    refine Cd.condF rfl hb22 ?_
    refine Cd.seq ?_
    refine Cd.region ?_
    refine Lst.run rfl rfl (by decide) (Ev.eql rfl rfl) ?_
    refine Lst.run rfl rfl (by decide) (Ev.assign rfl) ?_
    refine Lst.nil ?_
    refine At.then ?_
    rcases (Bool.eq_false_or_eq_true (a1.Kind == (3 : Int))).symm with hb32 | hb32
    · replace H := ite_f hb32 H
      refine Cd.condF rfl hb32 ?_
      refine Cd.seq ?_
      refine Cd.region ?_
      refine Lst.run rfl rfl (by decide) (Ev.assign rfl) ?_
      refine Lst.nil ?_
      refine At.then ?_
      obtain rfl := some_inj H
      replace H := HKo19
      obtain rfl := some_inj H
      refine Cd.ret ?_
      refine At.in_ret ?_
      refine At.then_ret ?_
      exact At.ret1 rfl (Res.tmp rfl) hF16 (List.Sublist.cons _ (List.Sublist.cons_cons _ (List.Sublist.refl _))) ⟨rfl, rfl⟩
    replace H := ite_t hb32 H
    refine Cd.condT rfl hb32 ?_
    refine Cd.seq ?_
    refine Cd.seq ?_
    refine Cd.quiet (by kernel_rfl) (by kernel_rfl) ?_
    refine Qt.run rfl rfl (by decide) (Ev.move rfl) ?_
    refine Qt.run rfl rfl (by decide) (Ev.fieldAddr (off' := 2) rfl Try.runUnderlying75 rfl Try.sizeOf3 rfl rfl) ?_
    refine Qt.run rfl rfl (by decide) (Ev.load (i := 0) rfl rfl Try.isAgg3 (v := .int .i64 a1.Msg) ((Event.get_Msg (Get.here _)).off (by rfl))) ?_
    refine Qt.run rfl rfl (by decide) (Ev.nilCheck rfl) ?_
    refine Qt.run rfl rfl (by decide) (Ev.fieldAddr (off' := 0) rfl Try.runUnderlying84 rfl Try.sizeOf76 rfl rfl) ?_
    obtain ⟨x33, h34, H⟩ := bind_some H
    have g35 := vat_some h34
    refine Qt.run rfl rfl (by decide) (Ev.indexAddr (off' := 0 + a1.Msg.toNat * 1) rfl rfl Try.runUnderlying76 Try.sizeOf3 g35.1 g35.2.1 rfl) ?_
    refine Qt.run rfl rfl (by decide) (Ev.load (i := 1) rfl rfl Try.isAgg3 (v := .int .i64 x33) ((Checker.get_sender (Get.vecN (s := 1) (x := x33) rfl g35.2.2 (Get.here _))).off (by omega))) ?_
    refine Qt.run rfl rfl (by decide) (Ev.eql rfl rfl) ?_
    refine Qt.run rfl rfl (by decide) (Ev.move rfl) ?_
    obtain ⟨o36, H, HKo36⟩ := bind_some H
    refine Qt.join (σ := Bool) 12 (fun y37 => [(0, .pointer (some ⟨b_a0, 0, none⟩)), (3, .pointer (some ⟨b2, 0, none⟩)), (63, .bool y37)]) (fun y37 => y37 = o36) ?_ ?_
    · rcases Bool.eq_false_or_eq_true (x33 == (0 : Int)) with hb38 | hb38
      · replace H := ite_t hb38 H
        refine Qt.skip rfl rfl rfl hb38 rfl (by decide) ?_
        refine Qt.skip rfl rfl rfl hb38 rfl (by decide) ?_
        refine Qt.skip rfl rfl rfl hb38 rfl (by decide) ?_
        refine Qt.skip rfl rfl rfl hb38 rfl (by decide) ?_
        refine Qt.skip rfl rfl rfl hb38 rfl (by decide) ?_
        refine Qt.skip rfl rfl rfl hb38 rfl (by decide) ?_
        refine Qt.skip rfl rfl rfl hb38 rfl (by decide) ?_
        refine Qt.skip rfl rfl rfl hb38 rfl (by decide) ?_
        refine Qt.skip rfl rfl rfl hb38 rfl (by decide) ?_
        refine Qt.skip rfl rfl rfl hb38 rfl (by decide) ?_
        refine Qt.skip rfl rfl rfl hb38 rfl (by decide) ?_
        refine Qt.run rfl rfl (by decide) (Ev.pickT rfl hb38 rfl) ?_
        exact Qt.meet true ⟨rfl, rfl, rfl, trivial⟩ (some_inj H)
      replace H := ite_f hb38 H
      refine Qt.runG rfl rfl rfl hb38 rfl (by decide) (Ev.move rfl) ?_
      refine Qt.runG rfl rfl rfl hb38 rfl (by decide) (Ev.fieldAddr (off' := 2) rfl Try.runUnderlying75 rfl Try.sizeOf3 rfl rfl) ?_
      refine Qt.runG rfl rfl rfl hb38 rfl (by decide) (Ev.load (i := 0) rfl rfl Try.isAgg3 (v := .int .i64 a1.Msg) ((Event.get_Msg (Get.here _)).off (by rfl))) ?_
      refine Qt.runG rfl rfl rfl hb38 rfl (by decide) (Ev.nilCheck rfl) ?_
      refine Qt.runG rfl rfl rfl hb38 rfl (by decide) (Ev.fieldAddr (off' := 0) rfl Try.runUnderlying84 rfl Try.sizeOf76 rfl rfl) ?_
      obtain ⟨x39, h40, H⟩ := bind_some H
      have g41 := vat_some h40
      refine Qt.runG rfl rfl rfl hb38 rfl (by decide) (Ev.indexAddr (off' := 0 + a1.Msg.toNat * 1) rfl rfl Try.runUnderlying76 Try.sizeOf3 g41.1 g41.2.1 rfl) ?_
      refine Qt.runG rfl rfl rfl hb38 rfl (by decide) (Ev.load (i := 1) rfl rfl Try.isAgg3 (v := .int .i64 x39) ((Checker.get_sender (Get.vecN (s := 1) (x := x39) rfl g41.2.2 (Get.here _))).off (by omega))) ?_
      refine Qt.runG rfl rfl rfl hb38 rfl (by decide) (Ev.fieldAddr (off' := 0) rfl Try.runUnderlying75 rfl Try.sizeOf3 rfl rfl) ?_
      refine Qt.runG rfl rfl rfl hb38 rfl (by decide) (Ev.load (i := 0) rfl rfl Try.isAgg3 (v := .int .i64 a1.Proc) ((Event.get_Proc (Get.here _)).off (by rfl))) ?_
      refine Qt.runG rfl rfl rfl hb38 rfl (by decide) (Ev.add rfl rfl) ?_
      refine Qt.runG rfl rfl rfl hb38 rfl (by decide) (Ev.eql rfl rfl) ?_
      refine Qt.run rfl rfl (by decide) (Ev.pickF rfl hb38 rfl) ?_
      exact Qt.meet (x39 == (w64 (a1.Proc + (1 : Int)))) ⟨rfl, rfl, rfl, trivial⟩ (some_inj H)
    rintro y37 hy
    subst hy
    refine Qt.as (e' := [(0, .pointer (some ⟨b_a0, 0, none⟩)), (3, .pointer (some ⟨b2, 0, none⟩)), (63, .bool y37)]) ⟨rfl, rfl, rfl, trivial⟩ ?_
    replace H := HKo36
    refine Qt.run rfl rfl (by decide) (Ev.move rfl) ?_
    obtain ⟨o42, H, HKo42⟩ := bind_some H
    refine Qt.join (σ := Bool) 11 (fun y43 => [(0, .pointer (some ⟨b_a0, 0, none⟩)), (3, .pointer (some ⟨b2, 0, none⟩)), (75, .bool y43)]) (fun y43 => y43 = o42) ?_ ?_
    · rcases Bool.eq_false_or_eq_true y37 with hb44 | hb44
      · replace H := ite_t hb44 H
        refine Qt.skip rfl rfl rfl hb44 rfl (by decide) ?_
        refine Qt.skip rfl rfl rfl hb44 rfl (by decide) ?_
        refine Qt.skip rfl rfl rfl hb44 rfl (by decide) ?_
        refine Qt.skip rfl rfl rfl hb44 rfl (by decide) ?_
        refine Qt.skip rfl rfl rfl hb44 rfl (by decide) ?_
        refine Qt.skip rfl rfl rfl hb44 rfl (by decide) ?_
        refine Qt.skip rfl rfl rfl hb44 rfl (by decide) ?_
        refine Qt.skip rfl rfl rfl hb44 rfl (by decide) ?_
        refine Qt.skip rfl rfl rfl hb44 rfl (by decide) ?_
        refine Qt.skip rfl rfl rfl hb44 rfl (by decide) ?_
        refine Qt.run rfl rfl (by decide) (Ev.pickT rfl hb44 rfl) ?_
        exact Qt.meet true ⟨rfl, rfl, rfl, trivial⟩ (some_inj H)
      replace H := ite_f hb44 H
      refine Qt.runG rfl rfl rfl hb44 rfl (by decide) (Ev.move rfl) ?_
      refine Qt.runG rfl rfl rfl hb44 rfl (by decide) (Ev.fieldAddr (off' := 2) rfl Try.runUnderlying75 rfl Try.sizeOf3 rfl rfl) ?_
      refine Qt.runG rfl rfl rfl hb44 rfl (by decide) (Ev.load (i := 0) rfl rfl Try.isAgg3 (v := .int .i64 a1.Msg) ((Event.get_Msg (Get.here _)).off (by rfl))) ?_
      refine Qt.runG rfl rfl rfl hb44 rfl (by decide) (Ev.fieldAddr (off' := 0) rfl Try.runUnderlying75 rfl Try.sizeOf3 rfl rfl) ?_
      refine Qt.runG rfl rfl rfl hb44 rfl (by decide) (Ev.load (i := 0) rfl rfl Try.isAgg3 (v := .int .i64 a1.Proc) ((Event.get_Proc (Get.here _)).off (by rfl))) ?_
      refine Qt.runG rfl rfl rfl hb44 rfl (by decide) (Ev.nilCheck rfl) ?_
      refine Qt.runG rfl rfl rfl hb44 rfl (by decide) (Ev.fieldAddr (off' := 30) rfl Try.runUnderlying84 rfl Try.sizeOf82 rfl rfl) ?_
      obtain ⟨x45, h46, H⟩ := bind_some H
      have g47 := vat_some h46
      refine Qt.runG rfl rfl rfl hb44 rfl (by decide) (Ev.indexAddr (off' := 30 + a1.Msg.toNat * 6) rfl rfl Try.runUnderlying82 Try.sizeOf81 g47.1 g47.2.1 rfl) ?_
      obtain ⟨x48, h49, H⟩ := bind_some H
      have g50 := vat_some h49
      refine Qt.runG rfl rfl rfl hb44 rfl (by decide) (Ev.indexAddr (off' := 30 + a1.Msg.toNat * 6 + a1.Proc.toNat * 1) rfl rfl Try.runUnderlying81 Try.sizeOf4 g50.1 g50.2.1 rfl) ?_
      refine Qt.runG rfl rfl rfl hb44 rfl (by decide) (Ev.load (i := 1) rfl rfl Try.isAgg4 (v := .bool x48) ((Checker.get_taken (Get.vecN (s := 6) (x := x45) rfl g47.2.2 (Get.vecN (s := 1) (x := x48) rfl g50.2.2 (Get.here _)))).off (by omega))) ?_
      refine Qt.run rfl rfl (by decide) (Ev.pickF rfl hb44 rfl) ?_
      exact Qt.meet x48 ⟨rfl, rfl, rfl, trivial⟩ (some_inj H)
    rintro y43 hy
    subst hy
    refine Qt.as (e' := [(0, .pointer (some ⟨b_a0, 0, none⟩)), (3, .pointer (some ⟨b2, 0, none⟩)), (75, .bool y43)]) ⟨rfl, rfl, rfl, trivial⟩ ?_
    replace H := HKo42
    refine Qt.done ?_
    refine At.then ?_
    rcases Bool.eq_false_or_eq_true y43 with hb51 | hb51
    · replace H := ite_t hb51 H
      refine Cd.condT rfl hb51 ?_
      refine Cd.seq ?_
      refine Cd.region ?_
      refine Lst.run rfl rfl (by decide) (Ev.assign rfl) ?_
      refine Lst.nil ?_
      refine At.then ?_
      obtain rfl := some_inj H
      replace H := HKo19
      obtain rfl := some_inj H
      refine Cd.ret ?_
      refine At.then_ret ?_
      refine At.in_ret ?_
      refine At.then_ret ?_
      exact At.ret1 rfl (Res.tmp rfl) hF16 (List.Sublist.cons _ (List.Sublist.cons_cons _ (List.Sublist.refl _))) ⟨rfl, rfl⟩
    replace H := ite_f hb51 H
    refine Cd.condF rfl hb51 ?_
    refine Cd.skip ?_
    refine At.then ?_
    refine Cd.tail 9 (by kernel_rfl) (by kernel_rfl) ?_
    refine Qt.run rfl rfl (by decide) (Ev.move rfl) ?_
    refine Qt.run rfl rfl (by decide) (Ev.fieldAddr (off' := 2) rfl Try.runUnderlying75 rfl Try.sizeOf3 rfl rfl) ?_
    refine Qt.run rfl rfl (by decide) (Ev.load (i := 0) rfl rfl Try.isAgg3 (v := .int .i64 a1.Msg) ((Event.get_Msg (Get.here _)).off (by rfl))) ?_
    refine Qt.run rfl rfl (by decide) (Ev.fieldAddr (off' := 0) rfl Try.runUnderlying75 rfl Try.sizeOf3 rfl rfl) ?_
    refine Qt.run rfl rfl (by decide) (Ev.load (i := 0) rfl rfl Try.isAgg3 (v := .int .i64 a1.Proc) ((Event.get_Proc (Get.here _)).off (by rfl))) ?_
    refine Qt.run rfl rfl (by decide) (Ev.nilCheck rfl) ?_
    refine Qt.run rfl rfl (by decide) (Ev.fieldAddr (off' := 30) rfl Try.runUnderlying84 rfl Try.sizeOf82 rfl rfl) ?_
    obtain ⟨x52, h53, H⟩ := bind_some H
    have g54 := vat_some h53
    refine Qt.run rfl rfl (by decide) (Ev.indexAddr (off' := 30 + a1.Msg.toNat * 6) rfl rfl Try.runUnderlying82 Try.sizeOf81 g54.1 g54.2.1 rfl) ?_
    obtain ⟨x55, h56, H⟩ := bind_some H
    have g57 := vat_some h56
    refine Qt.run rfl rfl (by decide) (Ev.indexAddr (off' := 30 + a1.Msg.toNat * 6 + a1.Proc.toNat * 1) rfl rfl Try.runUnderlying81 Try.sizeOf4 g57.1 g57.2.1 rfl) ?_
    refine Qt.tail ?_
    obtain ⟨p58, h59, H⟩ := Let_some H
    refine Lst.store (i := 1) rfl rfl rfl rfl rfl Try.sizeOf4 (vs := [.bool true]) rfl rfl rfl (cs' := enc p58) (by rw [← h59]; exact (Checker.put_taken (Put.vecN (s := 6) (x := x52) rfl g54.2.2 (Put.vecN (s := 1) (x := x55) rfl g57.2.2 (Put.here (vs := [.bool true]) rfl)))).off (by omega)) (L' := (.blk b2 (enc a1) 75) :: (.blk b_a0 (enc p58) 84) :: L) rfl ?_
    refine Lst.nil ?_
    refine At.in_normal ?_
    exact At.meet p58 (FLe.refl _) trivial rfl (some_inj H)
  rintro F60 y18 hF61 hy
  subst hy
  refine Cd.as (e' := []) (L' := (.blk b2 (enc a1) 75) :: (.blk b_a0 (enc y18) 84) :: L) trivial rfl ?_
  replace H := HKo19
  refine Cd.seq ?_
  refine Cd.region ?_
  refine Lst.run rfl rfl (by decide) (Ev.assign rfl) ?_
  refine Lst.nil ?_
  refine At.then ?_
  obtain rfl := some_inj H
  refine Cd.ret ?_
  exact At.ret1 rfl (Res.tmp rfl) (FLe.trans hF16 hF61) (List.Sublist.cons _ (List.Sublist.cons_cons _ (List.Sublist.refl _))) ⟨rfl, rfl⟩
set_option maxRecDepth 20000 in
theorem stamp_Check_sim {a0 : List Event} {s_a0 : Sl} {r : Int} (H : stamp_Check a0 = some r) (w0 : World) (F : Frz) (M L : List Item) (hM : M.Sublist L) (hs_a0 : Rd w0 F M s_a0 a0) : Ok Try.prog w0 22 [Sl.v s_a0] F (L) (Is (.int .i64 r) (L)) := by
  unfold stamp_Check at H
  refine Ok.enter (m := 1) (n := 25) Try.func22 rfl rfl rfl (by decide) ?_
  refine Cd.env (e' := [(0, Sl.v s_a0)]) rfl ?_
  refine Cd.seq ?_
  refine Cd.region ?_
  refine Lst.run rfl rfl (by decide) (Ev.assign rfl) ?_
  refine Lst.nil ?_
  refine At.then ?_
  refine Cd.seq ?_
  refine Cd.seq ?_
  refine Cd.region ?_
  refine Lst.run rfl rfl (by decide) (Ev.move rfl) ?_
  refine Lst.run rfl rfl (by decide) (Ev.lenS (α := Event) (xs := a0) (by decide) rfl rfl Try.runUnderlying24 (hs_a0.mono (FLe.refl _) hM)) ?_
  refine Lst.run rfl rfl (by decide) (Ev.gtr rfl rfl) ?_
  refine Lst.nil ?_
  refine At.then ?_
  rcases Bool.eq_false_or_eq_true (decide ((a0.length : Int) > (60 : Int))) with hb1 | hb1
  · replace H := ite_t hb1 H
    refine Cd.condT rfl hb1 ?_
    refine Cd.seq ?_
    refine Cd.region ?_
    refine Lst.run rfl rfl (by decide) (Ev.assign rfl) ?_
    refine Lst.nil ?_
    refine At.then ?_
    obtain rfl := some_inj H
    refine Cd.ret ?_
    refine At.then_ret ?_
    exact At.ret1 rfl (Res.tmp rfl) (FLe.refl _) (List.Sublist.refl _) ⟨rfl, rfl⟩
  replace H := ite_f hb1 H
  refine Cd.condF rfl hb1 ?_
  refine Cd.skip ?_
  refine At.then ?_
  refine Cd.seq ?_
  refine Cd.region ?_
  refine Lst.run rfl rfl (by decide) (Ev.build (v := .agg (enc Checker.zero).toArray) (pv := []) trivial (fun w => by kernel_rfl)) ?_
  refine Lst.box rfl rfl (by decide) rfl (cs := enc Checker.zero) rfl (fun b2 => ?_)
  refine Lst.run rfl rfl (by decide) (Ev.assign rfl) ?_
  refine Lst.nil ?_
  refine At.then ?_
  refine Cd.seq ?_
  refine Cd.seq ?_
  refine Cd.region ?_
  refine Lst.run rfl rfl (by decide) (Ev.move rfl) ?_
  refine Lst.run rfl rfl (by decide) (Ev.lenS (α := Event) (xs := a0) (by decide) rfl rfl Try.runUnderlying24 (hs_a0.mono (FLe.refl _) (List.Sublist.cons _ hM))) ?_
  refine Lst.run rfl rfl (by decide) (Ev.move rfl) ?_
  refine Lst.nil ?_
  refine At.then ?_
  refine Cd.block ?_
  refine Cd.bound (Rd.le (α := Event) (xs := a0) (by decide) (hs_a0.mono (FLe.refl _) (List.Sublist.cons _ hM))) (fun hN18 => ?_)
  obtain ⟨ol4, H, HKl4⟩ := andThen_some H
  refine Cd.loop (σ := Nat × Nat × Checker) (fun (i4, k4, y5) => [(3, .pointer (some ⟨b2, 0, none⟩)), (12, Sl.v s_a0), (13, .int .i64 (a0.length : Int)), (14, .int .i64 (i4 : Int))]) (fun (i4, k4, y5) => (.blk b2 (enc y5) 84) :: L) (fun _ => (fun (i4, k4, y5) => rangeM (stamp_Check_B0 a0) k4 i4 y5 = some ol4 ∧ i4 + k4 = a0.length)) (fun (i4, k4, y5) => k4) (0, a0.length, Checker.zero) ⟨rfl, rfl, rfl, rfl, trivial⟩ rfl ⟨H, by omega⟩ ?_
  rintro F6 ⟨i4, k4, y5⟩ hF7 ⟨H, hik4⟩
  refine Cd.as (e' := [(3, .pointer (some ⟨b2, 0, none⟩)), (12, Sl.v s_a0), (13, .int .i64 (a0.length : Int)), (14, .int .i64 (i4 : Int))]) (L' := (.blk b2 (enc y5) 84) :: L) ⟨rfl, rfl, rfl, rfl, trivial⟩ rfl ?_
  rcases k4 with _ | k4
  · have hc4 : decide ((i4 : Int) < (a0.length : Int)) = false := decide_eq_false (by omega)
    replace H := rangeM_end H
    refine Cd.seq ?_
    refine Cd.region ?_
    refine Lst.run rfl rfl (by decide) (Ev.lss rfl rfl) ?_
    refine Lst.nil ?_
    refine At.then ?_
    refine Cd.seq ?_
    refine Cd.condF rfl hc4 ?_
    refine Cd.exit ?_
    refine At.then_exit ?_
    refine At.then_exit ?_
    refine At.in_exit ?_
    subst H
    replace H := HKl4
    refine At.then ?_
    refine Cd.seq ?_
    refine Cd.region ?_
    refine Lst.run rfl rfl (by decide) (Ev.assign rfl) ?_
    refine Lst.nil ?_
    refine At.then ?_
    obtain rfl := some_inj H
    refine Cd.ret ?_
    exact At.ret1 rfl (Res.tmp rfl) hF7 (List.Sublist.cons _ (List.Sublist.refl _)) ⟨rfl, rfl⟩
  have hc4 : decide ((i4 : Int) < (a0.length : Int)) = true := decide_eq_true (by omega)
  obtain ⟨c4, H, hgo4, hbrk4, hret4⟩ := rangeM_go H
  unfold stamp_Check_B0 at H
  try dsimp only at H
  refine Cd.seq ?_
  refine Cd.region ?_
  refine Lst.run rfl rfl (by decide) (Ev.lss rfl rfl) ?_
  refine Lst.nil ?_
  refine At.then ?_
  refine Cd.seq ?_
  refine Cd.condT rfl hc4 ?_
  refine Cd.skip ?_
  refine At.then ?_
  refine Cd.seq ?_
  refine Cd.block ?_
  refine Cd.seq ?_
  refine Cd.region ?_
  obtain ⟨x8, h9, H⟩ := bind_some H
  have g10 := lat_some h9
  refine Lst.run rfl rfl (by decide) (Ev.indexS (α := Event) (xs := a0) rfl rfl Try.runUnderlying24 Try.sizeOf75 rfl (by decide) (hs_a0.mono hF7 (List.Sublist.cons _ hM)) g10.1 g10.2.1) ?_
  refine Lst.run rfl rfl (by decide) (Ev.loadSA (α := Event) rfl (hs_a0.mono hF7 (List.Sublist.cons _ hM)) Try.isAgg75 Try.sizeOf75 (ch := enc x8) (Enc.len _) (by decide) ((Get.elemN (s := 3) (x := x8) rfl g10.2.2 (Get.here _)).off (by omega))) ?_
  refine Lst.alloc (cs := enc Event.zero) rfl rfl (by decide) Try.zeroValue75 rfl (fun b11 => ?_)
  refine Lst.store (i := 0) rfl rfl rfl rfl rfl Try.sizeOf75 (vs := enc x8) rfl (Enc.len _) (Enc.one _) (cs' := enc x8) (Put.here ((Enc.len _).trans (Enc.len _).symm)) (L' := (.blk b11 (enc x8) 75) :: (.blk b2 (enc y5) 84) :: L) rfl ?_
  refine Lst.nil ?_
  refine At.then ?_
  refine Cd.seq ?_
  refine Cd.region ?_
  refine Lst.run rfl rfl (by decide) (Ev.move rfl) ?_
  refine Lst.run rfl rfl (by decide) (Ev.loadA (i := 0) rfl rfl Try.isAgg75 Try.sizeOf75 (ch := enc x8) (Enc.len _) (Get.here _)) ?_
  obtain ⟨r13, h14, H⟩ := bind_some H
  refine Lst.front (i := 1) rfl (L' := (.blk b2 (enc y5) 84) :: (.blk b11 (enc x8) 75) :: L) rfl ?_
  refine Lst.call rfl rfl (by decide) (vs := [.pointer (some ⟨b2, 0, none⟩), .agg (enc x8).toArray]) ⟨rfl, rfl, trivial⟩ Try.call51 (stamp_checker_event_sim h14 w0 _ M _ (List.Sublist.cons _ hM)) (fun F15 L' v hF16 hv => ?_)
  obtain ⟨rfl, rfl⟩ := hv
  refine Lst.run rfl rfl (by decide) (Ev.assign rfl) ?_
  refine Lst.nil ?_
  refine At.then ?_
  refine Cd.seq ?_
  refine Cd.region ?_
  refine Lst.run rfl rfl (by decide) (Ev.move rfl) ?_
  refine Lst.run rfl rfl (by decide) (Ev.neq rfl rfl) ?_
  refine Lst.nil ?_
  refine At.then ?_
  rcases Bool.eq_false_or_eq_true (r13.2 != (0 : Int)) with hb17 | hb17
  · replace H := ite_t hb17 H
    refine Cd.condT rfl hb17 ?_
    refine Cd.seq ?_
    refine Cd.region ?_
    refine Lst.run rfl rfl (by decide) (Ev.move rfl) ?_
    refine Lst.run rfl rfl (by decide) (Ev.assign rfl) ?_
    refine Lst.nil ?_
    refine At.then ?_
    have H := hret4 _ (some_inj H).symm
    subst H
    replace H := HKl4
    obtain rfl := some_inj H
    refine Cd.ret ?_
    refine At.in_ret ?_
    refine At.then_ret ?_
    refine At.then_ret ?_
    refine At.in_ret ?_
    refine At.then_ret ?_
    exact At.ret1 rfl (Res.tmp rfl) (FLe.trans hF7 hF16) (List.Sublist.cons _ (List.Sublist.cons _ (List.Sublist.refl _))) ⟨rfl, rfl⟩
  replace H := ite_f hb17 H
  refine Cd.condF rfl hb17 ?_
  refine Cd.skip ?_
  refine At.in_normal ?_
  refine At.then ?_
  refine Cd.region ?_
  refine Lst.run rfl rfl (by decide) (Ev.incr (by omega) rfl rfl) ?_
  refine Lst.run rfl rfl (by decide) (Ev.move rfl) ?_
  refine Lst.nil ?_
  refine At.less (L' := (.blk b2 (enc r13.1) 84) :: L) (List.Sublist.cons_cons _ (List.Sublist.cons _ (List.Sublist.refl _))) ?_
  exact At.meet (i4 + 1, k4, r13.1) (FLe.trans hF7 hF16) ⟨rfl, rfl, rfl, rfl, trivial⟩ rfl ⟨⟨hgo4 _ (some_inj H).symm, by omega⟩, Nat.lt_succ_self _⟩
set_option maxRecDepth 20000 in
theorem parttop_historyOf_sim {a0 : List Event} {s_a0 : Sl} {r : (List Event)} (H : parttop_historyOf a0 = some r) (w0 : World) (F : Frz) (M L : List Item) (hM : M.Sublist L) (hs_a0 : Rd w0 F M s_a0 a0) : Ok Try.prog w0 45 [Sl.v s_a0] F (L) (fun _ L' v => ∃ (s1 : Sl), v = Sl.v s1 ∧ L' = (.own s1 75 3 (encs r)) :: L) := by
  unfold parttop_historyOf at H
  refine Ok.enter (m := 1) (n := 25) Try.func45 rfl rfl rfl (by decide) ?_
  refine Cd.env (e' := [(0, Sl.v s_a0)]) rfl ?_
  refine Cd.seq ?_
  refine Cd.region ?_
  refine Lst.addNil 75 3 ?_
  refine Lst.run rfl rfl (by decide) (Ev.assign rfl) ?_
  refine Lst.nil ?_
  refine At.then ?_
  refine Cd.seq ?_
  refine Cd.region ?_
  refine Lst.addNil 75 3 ?_
  refine Lst.run rfl rfl (by decide) (Ev.assign rfl) ?_
  refine Lst.nil ?_
  refine At.then ?_
  refine Cd.seq ?_
  refine Cd.seq ?_
  refine Cd.region ?_
  refine Lst.run rfl rfl (by decide) (Ev.move rfl) ?_
  refine Lst.run rfl rfl (by decide) (Ev.lenS (α := Event) (xs := a0) (by decide) rfl rfl Try.runUnderlying24 (hs_a0.mono (FLe.refl _) (List.Sublist.cons _ (List.Sublist.cons _ hM)))) ?_
  refine Lst.run rfl rfl (by decide) (Ev.move rfl) ?_
  refine Lst.nil ?_
  refine At.then ?_
  refine Cd.block ?_
  refine Cd.bound (Rd.le (α := Event) (xs := a0) (by decide) (hs_a0.mono (FLe.refl _) (List.Sublist.cons _ (List.Sublist.cons _ hM)))) (fun hN51 => ?_)
  obtain ⟨ol3, H, HKl3⟩ := bind_some H
  refine Cd.loop (σ := Nat × Nat × Sl × (List Event)) (fun (i3, k3, s4, l5) => [(3, Sl.v s4), (6, Sl.v s_a0), (7, .int .i64 (a0.length : Int)), (8, .int .i64 (i3 : Int))]) (fun (i3, k3, s4, l5) => (.own s4 75 3 (encs l5)) :: (.own Sl.nil 75 3 (encs ([] : List Event))) :: L) (fun _ => (fun (i3, k3, s4, l5) => rangeF (parttop_historyOf_B0 a0) k3 i3 l5 = some ol3 ∧ i3 + k3 = a0.length)) (fun (i3, k3, s4, l5) => k3) (0, a0.length, Sl.nil, ([] : List Event)) ⟨rfl, rfl, rfl, rfl, trivial⟩ rfl ⟨H, by omega⟩ ?_
  rintro F6 ⟨i3, k3, s4, l5⟩ hF7 ⟨H, hik3⟩
  refine Cd.as (e' := [(3, Sl.v s4), (6, Sl.v s_a0), (7, .int .i64 (a0.length : Int)), (8, .int .i64 (i3 : Int))]) (L' := (.own s4 75 3 (encs l5)) :: (.own Sl.nil 75 3 (encs ([] : List Event))) :: L) ⟨rfl, rfl, rfl, rfl, trivial⟩ rfl ?_
  rcases k3 with _ | k3
  · have hc3 : decide ((i3 : Int) < (a0.length : Int)) = false := decide_eq_false (by omega)
    replace H := rangeF_end H
    refine Cd.seq ?_
    refine Cd.region ?_
    refine Lst.run rfl rfl (by decide) (Ev.lss rfl rfl) ?_
    refine Lst.nil ?_
    refine At.then ?_
    refine Cd.seq ?_
    refine Cd.condF rfl hc3 ?_
    refine Cd.exit ?_
    refine At.then_exit ?_
    refine At.then_exit ?_
    refine At.in_exit ?_
    subst H
    replace H := HKl3
    refine At.then ?_
    refine Cd.seq ?_
    refine Cd.region ?_
    refine Lst.run rfl rfl (by decide) (Ev.move rfl) ?_
    refine Lst.run rfl rfl (by decide) (Ev.assign rfl) ?_
    refine Lst.nil ?_
    refine At.then ?_
    obtain rfl := some_inj H
    refine Cd.ret ?_
    exact At.ret1 rfl (Res.tmp rfl) hF7 (List.Sublist.cons_cons _ (List.Sublist.cons _ (List.Sublist.refl _))) ⟨s4, rfl, rfl⟩
  have hc3 : decide ((i3 : Int) < (a0.length : Int)) = true := decide_eq_true (by omega)
  obtain ⟨c3, H, hgo3⟩ := rangeF_go H
  unfold parttop_historyOf_B0 at H
  try dsimp only at H
  refine Cd.seq ?_
  refine Cd.region ?_
  refine Lst.run rfl rfl (by decide) (Ev.lss rfl rfl) ?_
  refine Lst.nil ?_
  refine At.then ?_
  refine Cd.seq ?_
  refine Cd.condT rfl hc3 ?_
  refine Cd.skip ?_
  refine At.then ?_
  refine Cd.seq ?_
  refine Cd.block ?_
  refine Cd.seq ?_
  refine Cd.region ?_
  obtain ⟨x8, h9, H⟩ := bind_some H
  have g10 := lat_some h9
  refine Lst.run rfl rfl (by decide) (Ev.indexS (α := Event) (xs := a0) rfl rfl Try.runUnderlying24 Try.sizeOf75 rfl (by decide) (hs_a0.mono hF7 (List.Sublist.cons _ (List.Sublist.cons _ hM))) g10.1 g10.2.1) ?_
  refine Lst.run rfl rfl (by decide) (Ev.loadSA (α := Event) rfl (hs_a0.mono hF7 (List.Sublist.cons _ (List.Sublist.cons _ hM))) Try.isAgg75 Try.sizeOf75 (ch := enc x8) (Enc.len _) (by decide) ((Get.elemN (s := 3) (x := x8) rfl g10.2.2 (Get.here _)).off (by omega))) ?_
  refine Lst.alloc (cs := enc Event.zero) rfl rfl (by decide) Try.zeroValue75 rfl (fun b11 => ?_)
  refine Lst.store (i := 0) rfl rfl rfl rfl rfl Try.sizeOf75 (vs := enc x8) rfl (Enc.len _) (Enc.one _) (cs' := enc x8) (Put.here ((Enc.len _).trans (Enc.len _).symm)) (L' := (.blk b11 (enc x8) 75) :: (.own s4 75 3 (encs l5)) :: (.own Sl.nil 75 3 (encs ([] : List Event))) :: L) rfl ?_
  refine Lst.nil ?_
  refine At.then ?_
  refine Cd.seq ?_
  obtain ⟨r13, h14, H⟩ := bind_some H
  obtain ⟨o26, h27, H⟩ := Let_some H
  refine Cd.headMeet (σ := Sl × (List Event) × Sl × (List Event)) 4 (fun (s22, l23, s24, l25) => [(3, Sl.v s4), (5, .pointer (some ⟨b11, 0, none⟩)), (6, Sl.v s_a0), (7, .int .i64 (a0.length : Int)), (8, .int .i64 (i3 : Int)), (13, Sl.v s24), (15, Sl.v s22)]) (fun (s22, l23, s24, l25) => (.own s22 75 3 (encs l23)) :: (.own s24 75 3 (encs l25)) :: (.blk b11 (enc x8) 75) :: (.own s4 75 3 (encs l5)) :: (.own Sl.nil 75 3 (encs ([] : List Event))) :: L) (fun _ (s22, l23, s24, l25) => (l23, l25) = o26) (by kernel_rfl) (by kernel_rfl) (behind_sink (by kernel_rfl) (by kernel_rfl) (by kernel_rfl)) (by kernel_rfl) (fun hsel hlt => ?_) ?_
  · refine HdJ.keep (fun w => St w0 F6 ((.blk b11 (enc x8) 75) :: (.own s4 75 3 (encs l5)) :: (.own Sl.nil 75 3 (encs ([] : List Event))) :: L) w) (fun w h => trivial) ?_
    refine HdJ.takeK hsel hlt 0 (fun w h => h.sublist (List.Sublist.cons_cons _ (List.Sublist.cons_cons _ (List.Sublist.cons_cons _ (List.Sublist.refl _))))) rfl rfl (by decide) (by decide) (by kernel_rfl) (by kernel_rfl) rfl (Ev.move rfl) ?_
    refine HdJ.takeK hsel hlt 2 (fun w h => h.sublist (List.Sublist.cons_cons _ (List.Sublist.cons_cons _ (List.Sublist.cons_cons _ (List.Sublist.refl _))))) rfl rfl (by decide) (by decide) (by kernel_rfl) (by kernel_rfl) rfl (Ev.loadA (i := 0) rfl rfl Try.isAgg75 Try.sizeOf75 (ch := enc x8) (Enc.len _) (Get.here _)) ?_
    refine HdJ.step [1, 3] (by kernel_rfl) rfl ?_
    refine HdStep.cons (by decide) rfl (fun inv => ?_) ?_
    · refine Lst.call rfl rfl (by decide) (vs := [Sl.v s4]) ⟨rfl, trivial⟩ Try.call65 (slices_Clone_api_Event_api_Event_sim h14 w0 _ _ _ (List.Sublist.refl _) (Rd.own (i := 1) rfl rfl rfl)) (fun F29 L' v hF30 hv => ?_)
      obtain ⟨s28, rfl, rfl⟩ := hv
      refine Lst.nil ?_
      refine At.hd inv (fun w h => (h.weaken hF30).sublist (List.Sublist.cons _ (List.Sublist.cons_cons _ (List.Sublist.cons_cons _ (List.Sublist.cons_cons _ (List.Sublist.refl _)))))) ?_
      refine HdJ.step [3] (by kernel_rfl) rfl ?_
      refine HdStep.cons (by decide) rfl (fun inv => ?_) ?_
      · refine Lst.buildSlice (α := Event) (xs := ([x8] : List Event)) (pv := [(0, .agg (enc x8).toArray)]) rfl rfl (by decide) ⟨rfl, rfl, trivial⟩ (run_buildSlice (α := Event) (z0 := Event.zero) (xs := ([x8] : List Event)) Try.runUnderlying24 Try.sizeOf75 Try.zeroValue75 rfl rfl rfl (by decide) rfl (fill_cons (cs := encs (List.replicate 1 Event.zero)) (cs' := encs ((List.replicate 1 Event.zero).set 0 x8)) (vs := enc x8) rfl rfl (Enc.len _) ((Put.elemN (s := 3) (i := 0) (x := Event.zero) (y := x8) rfl rfl (Put.here ((Enc.len _).trans (Enc.len _).symm))).off rfl) fill_nil)) rfl rfl (by decide) (fun s31 _ => ?_)
        refine Lst.nil ?_
        refine At.hd inv (fun w h => (h.weaken hF30).sublist (List.Sublist.cons _ (List.Sublist.cons _ (List.Sublist.cons_cons _ (List.Sublist.cons_cons _ (List.Sublist.cons_cons _ (List.Sublist.refl _))))))) ?_
        refine HdJ.done (by kernel_rfl) ?_
        exact At.meetN (s31, ([x8] : List Event), s28, r13) hF30 ⟨rfl, rfl, rfl, rfl, rfl, rfl, rfl, trivial⟩ rfl h27
      exact trivial
    refine HdStep.cons (by decide) rfl (fun inv => ?_) ?_
    · refine Lst.buildSlice (α := Event) (xs := ([x8] : List Event)) (pv := [(0, .agg (enc x8).toArray)]) rfl rfl (by decide) ⟨rfl, rfl, trivial⟩ (run_buildSlice (α := Event) (z0 := Event.zero) (xs := ([x8] : List Event)) Try.runUnderlying24 Try.sizeOf75 Try.zeroValue75 rfl rfl rfl (by decide) rfl (fill_cons (cs := encs (List.replicate 1 Event.zero)) (cs' := encs ((List.replicate 1 Event.zero).set 0 x8)) (vs := enc x8) rfl rfl (Enc.len _) ((Put.elemN (s := 3) (i := 0) (x := Event.zero) (y := x8) rfl rfl (Put.here ((Enc.len _).trans (Enc.len _).symm))).off rfl) fill_nil)) rfl rfl (by decide) (fun s32 _ => ?_)
      refine Lst.nil ?_
      refine At.hd inv (fun w h => (h.weaken (FLe.refl _)).sublist (List.Sublist.cons _ (List.Sublist.cons_cons _ (List.Sublist.cons_cons _ (List.Sublist.cons_cons _ (List.Sublist.refl _)))))) ?_
      refine HdJ.step [1] (by kernel_rfl) rfl ?_
      refine HdStep.cons (by decide) rfl (fun inv => ?_) ?_
      · refine Lst.call rfl rfl (by decide) (vs := [Sl.v s4]) ⟨rfl, trivial⟩ Try.call65 (slices_Clone_api_Event_api_Event_sim h14 w0 _ _ _ (List.Sublist.refl _) (Rd.own (i := 2) rfl rfl rfl)) (fun F34 L' v hF35 hv => ?_)
        obtain ⟨s33, rfl, rfl⟩ := hv
        refine Lst.nil ?_
        refine At.hd inv (fun w h => (h.weaken hF35).sublist (List.Sublist.cons _ (List.Sublist.cons _ (List.Sublist.cons_cons _ (List.Sublist.cons_cons _ (List.Sublist.cons_cons _ (List.Sublist.refl _))))))) ?_
        refine HdJ.done (by kernel_rfl) ?_
        refine At.front (i := 4) rfl rfl ?_
        refine At.front (i := 4) rfl rfl ?_
        refine At.front (i := 4) rfl rfl ?_
        refine At.front (i := 3) rfl rfl ?_
        refine At.front (i := 4) rfl rfl ?_
        exact At.meetN (s32, ([x8] : List Event), s33, r13) hF35 ⟨rfl, rfl, rfl, rfl, rfl, rfl, rfl, trivial⟩ rfl h27
      exact trivial
    exact trivial
  rintro F36 ⟨s22, l23, s24, l25⟩ hF37 hy
  subst hy
  refine Lst.as (e' := [(3, Sl.v s4), (5, .pointer (some ⟨b11, 0, none⟩)), (6, Sl.v s_a0), (7, .int .i64 (a0.length : Int)), (8, .int .i64 (i3 : Int)), (13, Sl.v s24), (15, Sl.v s22)]) (L' := (.own s22 75 3 (encs l23)) :: (.own s24 75 3 (encs l25)) :: (.blk b11 (enc x8) 75) :: (.own s4 75 3 (encs l5)) :: (.own Sl.nil 75 3 (encs ([] : List Event))) :: L) ⟨rfl, rfl, rfl, rfl, rfl, rfl, rfl, trivial⟩ rfl ?_
  obtain ⟨u38, h39, H⟩ := bind_some H
  refine Lst.append (i := 1) (α := Event) (xs := l25) (ys := l23) rfl rfl (by decide) rfl rfl Try.runUnderlying24 Try.typeInfo75 rfl rfl rfl rfl rfl rfl (Rd.own (i := 0) rfl rfl rfl) rfl (room_some h39) rfl (fun s40 => ?_)
  refine Lst.its (L' := (.own s22 75 3 (encs l23)) :: (.own s40 75 3 (encs (l25 ++ l23))) :: (.blk b11 (enc x8) 75) :: (.own s4 75 3 (encs l5)) :: (.own Sl.nil 75 3 (encs ([] : List Event))) :: L) rfl ?_
  obtain ⟨r41, h42, H⟩ := bind_some H
  refine Lst.call1 rfl rfl (by decide) (vs := [Sl.v s40]) ⟨rfl, trivial⟩ Try.call22 (stamp_Check_sim h42 w0 _ _ _ (List.Sublist.refl _) (Rd.own (i := 1) rfl rfl rfl)) ?_
  refine Lst.run rfl rfl (by decide) (Ev.eql rfl rfl) ?_
  refine Lst.nil ?_
  refine At.then ?_
  rcases (Bool.eq_false_or_eq_true (r41 == (0 : Int))).symm with hb45 | hb45
  · replace H := ite_f hb45 H
    refine Cd.condF rfl hb45 ?_
    refine Cd.skip ?_
    refine At.in_normal ?_
    refine At.then ?_
    refine Cd.region ?_
    refine Lst.run rfl rfl (by decide) (Ev.incr (by omega) rfl rfl) ?_
    refine Lst.run rfl rfl (by decide) (Ev.move rfl) ?_
    refine Lst.nil ?_
    refine At.less (L' := (.own s4 75 3 (encs l5)) :: (.own Sl.nil 75 3 (encs ([] : List Event))) :: L) (List.Sublist.cons _ (List.Sublist.cons _ (List.Sublist.cons _ (List.Sublist.cons_cons _ (List.Sublist.cons_cons _ (List.Sublist.refl _)))))) ?_
    exact At.meet (i3 + 1, k3, s4, l5) (FLe.trans hF7 hF37) ⟨rfl, rfl, rfl, rfl, trivial⟩ rfl ⟨⟨hgo3 _ (some_inj H).symm, by omega⟩, Nat.lt_succ_self _⟩
  replace H := ite_t hb45 H
  refine Cd.condT rfl hb45 ?_
  refine Cd.region ?_
  refine Lst.run rfl rfl (by decide) (Ev.move rfl) ?_
  refine Lst.run rfl rfl (by decide) (Ev.loadA (i := 2) rfl rfl Try.isAgg75 Try.sizeOf75 (ch := enc x8) (Enc.len _) (Get.here _)) ?_
  refine Lst.buildSlice (α := Event) (xs := ([x8] : List Event)) (pv := [(0, .agg (enc x8).toArray)]) rfl rfl (by decide) ⟨rfl, rfl, trivial⟩ (run_buildSlice (α := Event) (z0 := Event.zero) (xs := ([x8] : List Event)) Try.runUnderlying24 Try.sizeOf75 Try.zeroValue75 rfl rfl rfl (by decide) rfl (fill_cons (cs := encs (List.replicate 1 Event.zero)) (cs' := encs ((List.replicate 1 Event.zero).set 0 x8)) (vs := enc x8) rfl rfl (Enc.len _) ((Put.elemN (s := 3) (i := 0) (x := Event.zero) (y := x8) rfl rfl (Put.here ((Enc.len _).trans (Enc.len _).symm))).off rfl) fill_nil)) rfl rfl (by decide) (fun s46 _ => ?_)
  obtain ⟨u48, h49, H⟩ := bind_some H
  refine Lst.append (i := 4) (α := Event) (xs := l5) (ys := ([x8] : List Event)) rfl rfl (by decide) rfl rfl Try.runUnderlying24 Try.typeInfo75 rfl rfl rfl rfl rfl rfl (Rd.own (i := 0) rfl rfl rfl) rfl (room_some h49) rfl (fun s50 => ?_)
  refine Lst.its (L' := (.own s46 75 3 (encs ([x8] : List Event))) :: (.own s22 75 3 (encs l23)) :: (.own s40 75 3 (encs (l25 ++ l23))) :: (.blk b11 (enc x8) 75) :: (.own s50 75 3 (encs (l5 ++ ([x8] : List Event)))) :: (.own Sl.nil 75 3 (encs ([] : List Event))) :: L) rfl ?_
  refine Lst.run rfl rfl (by decide) (Ev.assign rfl) ?_
  refine Lst.nil ?_
  refine At.in_normal ?_
  refine At.then ?_
  refine Cd.region ?_
  refine Lst.run rfl rfl (by decide) (Ev.incr (by omega) rfl rfl) ?_
  refine Lst.run rfl rfl (by decide) (Ev.move rfl) ?_
  refine Lst.nil ?_
  refine At.less (L' := (.own s50 75 3 (encs (l5 ++ ([x8] : List Event)))) :: (.own Sl.nil 75 3 (encs ([] : List Event))) :: L) (List.Sublist.cons _ (List.Sublist.cons _ (List.Sublist.cons _ (List.Sublist.cons _ (List.Sublist.cons_cons _ (List.Sublist.cons_cons _ (List.Sublist.refl _))))))) ?_
  exact At.meet (i3 + 1, k3, s50, l5 ++ ([x8] : List Event)) (FLe.trans hF7 hF37) ⟨rfl, rfl, rfl, rfl, trivial⟩ rfl ⟨⟨hgo3 _ (some_inj H).symm, by omega⟩, Nat.lt_succ_self _⟩
set_option maxRecDepth 20000 in
theorem vect_Max_sim {a0 : Vector Int 6} {a1 : Vector Int 6} {r : (Vector Int 6)} (H : vect_Max a0 a1 = some r) (w0 : World) (F : Frz) (M L : List Item) (hM : M.Sublist L) : Ok Try.prog w0 10 [.agg (enc a0).toArray, .agg (enc a1).toArray] F (L) (Is (.agg (enc r).toArray) (L)) := by
  unfold vect_Max at H
  refine Ok.enter (m := 2) (n := 20) Try.func10 rfl rfl rfl (by decide) ?_
  refine Cd.env (e' := [(0, .agg (enc a0).toArray), (1, .agg (enc a1).toArray)]) rfl ?_
  refine Cd.seq ?_
  refine Cd.region ?_
  refine Lst.box rfl rfl (by decide) rfl (cs := enc a0) rfl (fun b1 => ?_)
  refine Lst.box rfl rfl (by decide) rfl (cs := enc a1) rfl (fun b3 => ?_)
  refine Lst.alloc (cs := enc (Vector.replicate 6 (0 : Int))) rfl rfl (by decide) Try.zeroValue23 rfl (fun b5 => ?_)
  refine Lst.nil ?_
  refine At.then ?_
  refine Cd.seq ?_
  refine Cd.seq ?_
  refine Cd.region ?_
  refine Lst.run rfl rfl (by decide) (Ev.move rfl) ?_
  refine Lst.nil ?_
  refine At.then ?_
  refine Cd.block ?_
  obtain ⟨ol7, H, HKl7⟩ := bind_some H
  refine Cd.loop (σ := Nat × Nat × (Vector Int 6)) (fun (i7, k7, y8) => [(2, .pointer (some ⟨b1, 0, none⟩)), (3, .pointer (some ⟨b3, 0, none⟩)), (4, .pointer (some ⟨b5, 0, none⟩)), (6, .int .i64 (i7 : Int))]) (fun (i7, k7, y8) => (.blk b5 (enc (Vector.replicate 6 (0 : Int))) 23) :: (.blk b3 (enc a1) 23) :: (.blk b1 (enc y8) 23) :: L) (fun _ => (fun (i7, k7, y8) => rangeF (vect_Max_B0 a1) k7 i7 y8 = some ol7 ∧ i7 + k7 = 6)) (fun (i7, k7, y8) => k7) (0, 6, a0) ⟨rfl, rfl, rfl, rfl, trivial⟩ rfl ⟨H, by omega⟩ ?_
  rintro F9 ⟨i7, k7, y8⟩ hF10 ⟨H, hik7⟩
  refine Cd.as (e' := [(2, .pointer (some ⟨b1, 0, none⟩)), (3, .pointer (some ⟨b3, 0, none⟩)), (4, .pointer (some ⟨b5, 0, none⟩)), (6, .int .i64 (i7 : Int))]) (L' := (.blk b5 (enc (Vector.replicate 6 (0 : Int))) 23) :: (.blk b3 (enc a1) 23) :: (.blk b1 (enc y8) 23) :: L) ⟨rfl, rfl, rfl, rfl, trivial⟩ rfl ?_
  rcases k7 with _ | k7
  · have hc7 : decide ((i7 : Int) < (6 : Int)) = false := decide_eq_false (by omega)
    replace H := rangeF_end H
    refine Cd.seq ?_
    refine Cd.region ?_
    refine Lst.run rfl rfl (by decide) (Ev.lss rfl rfl) ?_
    refine Lst.nil ?_
    refine At.then ?_
    refine Cd.seq ?_
    refine Cd.condF rfl hc7 ?_
    refine Cd.exit ?_
    refine At.then_exit ?_
    refine At.then_exit ?_
    refine At.in_exit ?_
    subst H
    replace H := HKl7
    refine At.then ?_
    refine Cd.seq ?_
    refine Cd.region ?_
    refine Lst.run rfl rfl (by decide) (Ev.loadA (i := 2) rfl rfl Try.isAgg23 Try.sizeOf23 (ch := enc y8) (Enc.len _) (Get.here _)) ?_
    refine Lst.store (i := 0) rfl rfl rfl rfl rfl Try.sizeOf23 (vs := enc y8) rfl (Enc.len _) (Enc.one _) (cs' := enc y8) (Put.here ((Enc.len _).trans (Enc.len _).symm)) (L' := (.blk b5 (enc y8) 23) :: (.blk b3 (enc a1) 23) :: (.blk b1 (enc y8) 23) :: L) rfl ?_
    refine Lst.nil ?_
    refine At.then ?_
    obtain rfl := some_inj H
    refine Cd.ret ?_
    exact At.ret1 rfl (Res.cellA (i := 0) rfl rfl Try.isAgg23 Try.sizeOf23 (Enc.len _)) hF10 (List.Sublist.cons _ (List.Sublist.cons _ (List.Sublist.cons _ (List.Sublist.refl _)))) ⟨rfl, rfl⟩
  have hc7 : decide ((i7 : Int) < (6 : Int)) = true := decide_eq_true (by omega)
  obtain ⟨c7, H, hgo7⟩ := rangeF_go H
  unfold vect_Max_B0 at H
  try dsimp only at H
  refine Cd.seq ?_
  refine Cd.region ?_
  refine Lst.run rfl rfl (by decide) (Ev.lss rfl rfl) ?_
  refine Lst.nil ?_
  refine At.then ?_
  refine Cd.seq ?_
  refine Cd.condT rfl hc7 ?_
  refine Cd.skip ?_
  refine At.then ?_
  refine Cd.seq ?_
  refine Cd.block ?_
  refine Cd.seq ?_
  refine Cd.region ?_
  refine Lst.run rfl rfl (by decide) (Ev.move rfl) ?_
  refine Lst.run rfl rfl (by decide) (Ev.assign rfl) ?_
  refine Lst.nil ?_
  refine At.then ?_
  refine Cd.tail 9 (by kernel_rfl) (by kernel_rfl) ?_
  refine Qt.run rfl rfl (by decide) (Ev.move rfl) ?_
  refine Qt.run rfl rfl (by decide) (Ev.move rfl) ?_
  obtain ⟨x11, h12, H⟩ := bind_some H
  have g13 := vat_some h12
  refine Qt.run rfl rfl (by decide) (Ev.indexAddr (off' := 0 + (i7 : Int).toNat * 1) rfl rfl Try.runUnderlying23 Try.sizeOf3 g13.1 g13.2.1 rfl) ?_
  refine Qt.run rfl rfl (by decide) (Ev.load (i := 2) rfl rfl Try.isAgg3 (v := .int .i64 x11) ((Get.vecN (s := 1) (x := x11) rfl g13.2.2 (Get.here _)).off (by omega))) ?_
  refine Qt.run rfl rfl (by decide) (Ev.move rfl) ?_
  obtain ⟨x14, h15, H⟩ := bind_some H
  have g16 := vat_some h15
  refine Qt.run rfl rfl (by decide) (Ev.indexAddr (off' := 0 + (i7 : Int).toNat * 1) rfl rfl Try.runUnderlying23 Try.sizeOf3 g16.1 g16.2.1 rfl) ?_
  refine Qt.run rfl rfl (by decide) (Ev.load (i := 1) rfl rfl Try.isAgg3 (v := .int .i64 x14) ((Get.vecN (s := 1) (x := x14) rfl g16.2.2 (Get.here _)).off (by omega))) ?_
  refine Qt.run rfl rfl (by decide) (Ev.max2 rfl rfl) ?_
  obtain ⟨x17, h18, H⟩ := bind_some H
  have g19 := vat_some h18
  refine Qt.run rfl rfl (by decide) (Ev.indexAddr (off' := 0 + (i7 : Int).toNat * 1) rfl rfl Try.runUnderlying23 Try.sizeOf3 g19.1 g19.2.1 rfl) ?_
  refine Qt.tail ?_
  obtain ⟨p20, h21, H⟩ := Let_some H
  refine Lst.store (i := 2) rfl rfl rfl rfl rfl Try.sizeOf3 (vs := [.int .i64 (max x11 x14)]) rfl rfl rfl (cs' := enc p20) (by rw [← h21]; exact (Put.vecN (s := 1) (x := x17) rfl g19.2.2 (Put.here (vs := [.int .i64 (max x11 x14)]) rfl)).off (by omega)) (L' := (.blk b5 (enc (Vector.replicate 6 (0 : Int))) 23) :: (.blk b3 (enc a1) 23) :: (.blk b1 (enc p20) 23) :: L) rfl ?_
  refine Lst.nil ?_
  refine At.in_normal ?_
  refine At.then ?_
  refine Cd.region ?_
  refine Lst.run rfl rfl (by decide) (Ev.incr (by omega) rfl rfl) ?_
  refine Lst.run rfl rfl (by decide) (Ev.move rfl) ?_
  refine Lst.nil ?_
  exact At.meet (i7 + 1, k7, p20) hF10 ⟨rfl, rfl, rfl, rfl, trivial⟩ rfl ⟨⟨hgo7 _ (some_inj H).symm, by omega⟩, Nat.lt_succ_self _⟩
set_option maxRecDepth 20000 in
theorem vect_Vectors_sim {a0 : List Event} {s_a0 : Sl} {r : (List (Vector Int 6)) × Int} (H : vect_Vectors a0 = some r) (w0 : World) (F : Frz) (M L : List Item) (hM : M.Sublist L) (hs_a0 : Rd w0 F M s_a0 a0) : Ok Try.prog w0 15 [Sl.v s_a0] F (L) (fun _ L' v => ∃ (s1 : Sl), v = .tuple #[Sl.v s1, .int .i64 r.2] ∧ L' = (.own s1 23 6 (encs r.1)) :: L) := by
  unfold vect_Vectors at H
  refine Ok.enter (m := 1) (n := 66) Try.func15 rfl rfl rfl (by decide) ?_
  refine Cd.env (e' := [(0, Sl.v s_a0)]) rfl ?_
  refine Cd.seq ?_
  refine Cd.region ?_
  refine Lst.addNil 23 6 ?_
  refine Lst.run rfl rfl (by decide) (Ev.assign rfl) ?_
  refine Lst.run rfl rfl (by decide) (Ev.assign rfl) ?_
  refine Lst.nil ?_
  refine At.then ?_
  refine Cd.seq ?_
  refine Cd.seq ?_
  refine Cd.region ?_
  refine Lst.run rfl rfl (by decide) (Ev.move rfl) ?_
  obtain ⟨r2, h3, H⟩ := bind_some H
  refine Lst.call1 rfl rfl (by decide) (vs := [Sl.v s_a0]) ⟨rfl, trivial⟩ Try.call22 (stamp_Check_sim h3 w0 _ M _ (List.Sublist.cons _ hM) (hs_a0.mono (FLe.refl _) (List.Sublist.refl _))) ?_
  refine Lst.run rfl rfl (by decide) (Ev.assign rfl) ?_
  refine Lst.nil ?_
  refine At.then ?_
  refine Cd.seq ?_
  refine Cd.region ?_
  refine Lst.run rfl rfl (by decide) (Ev.move rfl) ?_
  refine Lst.run rfl rfl (by decide) (Ev.neq rfl rfl) ?_
  refine Lst.nil ?_
  refine At.then ?_
  rcases Bool.eq_false_or_eq_true (r2 != (0 : Int)) with hb6 | hb6
  · replace H := ite_t hb6 H
    refine Cd.condT rfl hb6 ?_
    refine Cd.seq ?_
    refine Cd.region ?_
    refine Lst.run rfl rfl (by decide) (Ev.move rfl) ?_
    refine Lst.addNil 23 6 ?_
    refine Lst.run rfl rfl (by decide) (Ev.assign rfl) ?_
    refine Lst.run rfl rfl (by decide) (Ev.assign rfl) ?_
    refine Lst.nil ?_
    refine At.then ?_
    obtain rfl := some_inj H
    refine Cd.ret ?_
    refine At.then_ret ?_
    exact At.ret2 rfl (Res.tmp rfl) (Res.tmp rfl) (FLe.refl _) (List.Sublist.cons_cons _ (List.Sublist.cons _ (List.Sublist.refl _))) ⟨Sl.nil, rfl, rfl⟩
  replace H := ite_f hb6 H
  refine Cd.condF rfl hb6 ?_
  refine Cd.skip ?_
  refine At.then ?_
  refine Cd.seq ?_
  refine Cd.region ?_
  refine Lst.addNil 23 6 ?_
  refine Lst.run rfl rfl (by decide) (Ev.assign rfl) ?_
  refine Lst.nil ?_
  refine At.then ?_
  refine Cd.seq ?_
  refine Cd.region ?_
  refine Lst.alloc (cs := enc (Vector.replicate 6 (0 : Int))) rfl rfl (by decide) Try.zeroValue23 rfl (fun b9 => ?_)
  refine Lst.nil ?_
  refine At.then ?_
  refine Cd.seq ?_
  refine Cd.region ?_
  refine Lst.alloc (cs := enc (Vector.replicate 6 (Vector.replicate 6 (0 : Int)))) rfl rfl (by decide) Try.zeroValue72 rfl (fun b11 => ?_)
  refine Lst.nil ?_
  refine At.then ?_
  refine Cd.seq ?_
  refine Cd.region ?_
  refine Lst.alloc (z := .agg (enc (Vector.replicate 30 (Vector.replicate 6 (0 : Int)))).toArray) (cs := enc (Vector.replicate 30 (Vector.replicate 6 (0 : Int)))) rfl rfl (by decide) (fun _ => by kernel_rfl) rfl (fun b13 => ?_)
  refine Lst.nil ?_
  refine At.then ?_
  refine Cd.seq ?_
  refine Cd.seq ?_
  refine Cd.region ?_
  refine Lst.run rfl rfl (by decide) (Ev.move rfl) ?_
  refine Lst.run rfl rfl (by decide) (Ev.lenS (α := Event) (xs := a0) (by decide) rfl rfl Try.runUnderlying24 (hs_a0.mono (FLe.refl _) (List.Sublist.cons _ (List.Sublist.cons _ (List.Sublist.cons _ (List.Sublist.cons _ (List.Sublist.cons _ hM))))))) ?_
  refine Lst.run rfl rfl (by decide) (Ev.move rfl) ?_
  refine Lst.nil ?_
  refine At.then ?_
  refine Cd.block ?_
  refine Cd.bound (Rd.le (α := Event) (xs := a0) (by decide) (hs_a0.mono (FLe.refl _) (List.Sublist.cons _ (List.Sublist.cons _ (List.Sublist.cons _ (List.Sublist.cons _ (List.Sublist.cons _ hM))))))) (fun hN81 => ?_)
  obtain ⟨ol15, H, HKl15⟩ := bind_some H
  refine Cd.loop (σ := Nat × Nat × (Vector (Vector Int 6) 30) × (Vector (Vector Int 6) 6) × (Vector Int 6) × Sl × (List (Vector Int 6))) (fun (i15, k15, y16, y17, y18, s19, l20) => [(5, Sl.v s19), (6, .pointer (some ⟨b9, 0, none⟩)), (7, .pointer (some ⟨b11, 0, none⟩)), (8, .pointer (some ⟨b13, 0, none⟩)), (17, Sl.v s_a0), (18, .int .i64 (a0.length : Int)), (19, .int .i64 (i15 : Int))]) (fun (i15, k15, y16, y17, y18, s19, l20) => (.blk b13 (enc y16) 73) :: (.blk b11 (enc y17) 72) :: (.blk b9 (enc y18) 23) :: (.own s19 23 6 (encs l20)) :: (.own Sl.nil 23 6 (encs ([] : List (Vector Int 6)))) :: L) (fun _ => (fun (i15, k15, y16, y17, y18, s19, l20) => rangeF (vect_Vectors_B0 a0) k15 i15 (y16, y17, y18, l20) = some ol15 ∧ i15 + k15 = a0.length)) (fun (i15, k15, y16, y17, y18, s19, l20) => k15) (0, a0.length, (Vector.replicate 30 (Vector.replicate 6 (0 : Int))), (Vector.replicate 6 (Vector.replicate 6 (0 : Int))), (Vector.replicate 6 (0 : Int)), Sl.nil, ([] : List (Vector Int 6))) ⟨rfl, rfl, rfl, rfl, rfl, rfl, rfl, trivial⟩ rfl ⟨H, by omega⟩ ?_
  rintro F21 ⟨i15, k15, y16, y17, y18, s19, l20⟩ hF22 ⟨H, hik15⟩
  refine Cd.as (e' := [(5, Sl.v s19), (6, .pointer (some ⟨b9, 0, none⟩)), (7, .pointer (some ⟨b11, 0, none⟩)), (8, .pointer (some ⟨b13, 0, none⟩)), (17, Sl.v s_a0), (18, .int .i64 (a0.length : Int)), (19, .int .i64 (i15 : Int))]) (L' := (.blk b13 (enc y16) 73) :: (.blk b11 (enc y17) 72) :: (.blk b9 (enc y18) 23) :: (.own s19 23 6 (encs l20)) :: (.own Sl.nil 23 6 (encs ([] : List (Vector Int 6)))) :: L) ⟨rfl, rfl, rfl, rfl, rfl, rfl, rfl, trivial⟩ rfl ?_
  rcases k15 with _ | k15
  · have hc15 : decide ((i15 : Int) < (a0.length : Int)) = false := decide_eq_false (by omega)
    replace H := rangeF_end H
    refine Cd.seq ?_
    refine Cd.region ?_
    refine Lst.run rfl rfl (by decide) (Ev.lss rfl rfl) ?_
    refine Lst.nil ?_
    refine At.then ?_
    refine Cd.seq ?_
    refine Cd.condF rfl hc15 ?_
    refine Cd.exit ?_
    refine At.then_exit ?_
    refine At.then_exit ?_
    refine At.in_exit ?_
    subst H
    replace H := HKl15
    refine At.then ?_
    refine Cd.seq ?_
    refine Cd.region ?_
    refine Lst.run rfl rfl (by decide) (Ev.move rfl) ?_
    refine Lst.run rfl rfl (by decide) (Ev.assign rfl) ?_
    refine Lst.run rfl rfl (by decide) (Ev.assign rfl) ?_
    refine Lst.nil ?_
    refine At.then ?_
    obtain rfl := some_inj H
    refine Cd.ret ?_
    exact At.ret2 rfl (Res.tmp rfl) (Res.tmp rfl) hF22 (List.Sublist.cons _ (List.Sublist.cons _ (List.Sublist.cons _ (List.Sublist.cons_cons _ (List.Sublist.cons _ (List.Sublist.refl _)))))) ⟨s19, rfl, rfl⟩
  have hc15 : decide ((i15 : Int) < (a0.length : Int)) = true := decide_eq_true (by omega)
  obtain ⟨c15, H, hgo15⟩ := rangeF_go H
  unfold vect_Vectors_B0 at H
  try dsimp only at H
  refine Cd.seq ?_
  refine Cd.region ?_
  refine Lst.run rfl rfl (by decide) (Ev.lss rfl rfl) ?_
  refine Lst.nil ?_
  refine At.then ?_
  refine Cd.seq ?_
  refine Cd.condT rfl hc15 ?_
  refine Cd.skip ?_
  refine At.then ?_
  refine Cd.seq ?_
  refine Cd.block ?_
  refine Cd.seq ?_
  refine Cd.region ?_
  obtain ⟨x23, h24, H⟩ := bind_some H
  have g25 := lat_some h24
  refine Lst.run rfl rfl (by decide) (Ev.indexS (α := Event) (xs := a0) rfl rfl Try.runUnderlying24 Try.sizeOf75 rfl (by decide) (hs_a0.mono hF22 (List.Sublist.cons _ (List.Sublist.cons _ (List.Sublist.cons _ (List.Sublist.cons _ (List.Sublist.cons _ hM)))))) g25.1 g25.2.1) ?_
  refine Lst.run rfl rfl (by decide) (Ev.loadSA (α := Event) rfl (hs_a0.mono hF22 (List.Sublist.cons _ (List.Sublist.cons _ (List.Sublist.cons _ (List.Sublist.cons _ (List.Sublist.cons _ hM)))))) Try.isAgg75 Try.sizeOf75 (ch := enc x23) (Enc.len _) (by decide) ((Get.elemN (s := 3) (x := x23) rfl g25.2.2 (Get.here _)).off (by omega))) ?_
  refine Lst.alloc (cs := enc Event.zero) rfl rfl (by decide) Try.zeroValue75 rfl (fun b26 => ?_)
  refine Lst.store (i := 0) rfl rfl rfl rfl rfl Try.sizeOf75 (vs := enc x23) rfl (Enc.len _) (Enc.one _) (cs' := enc x23) (Put.here ((Enc.len _).trans (Enc.len _).symm)) (L' := (.blk b26 (enc x23) 75) :: (.blk b13 (enc y16) 73) :: (.blk b11 (enc y17) 72) :: (.blk b9 (enc y18) 23) :: (.own s19 23 6 (encs l20)) :: (.own Sl.nil 23 6 (encs ([] : List (Vector Int 6)))) :: L) rfl ?_
  refine Lst.nil ?_
  refine At.then ?_
  refine Cd.seq ?_
  refine Cd.region ?_
  refine Lst.run rfl rfl (by decide) (Ev.fieldAddr (off' := 0) rfl Try.runUnderlying75 rfl Try.sizeOf3 rfl rfl) ?_
  refine Lst.run rfl rfl (by decide) (Ev.load (i := 0) rfl rfl Try.isAgg3 (v := .int .i64 x23.Proc) ((Event.get_Proc (Get.here _)).off (by rfl))) ?_
  obtain ⟨x28, h29, H⟩ := bind_some H
  have g30 := vat_some h29
  refine Lst.run rfl rfl (by decide) (Ev.indexAddr (off' := 0 + x23.Proc.toNat * 6) rfl rfl Try.runUnderlying72 Try.sizeOf23 g30.1 g30.2.1 rfl) ?_
  refine Lst.run rfl rfl (by decide) (Ev.loadA (i := 2) rfl rfl Try.isAgg23 Try.sizeOf23 (ch := enc x28) (Enc.len _) ((Get.vecN (s := 6) (x := x28) rfl g30.2.2 (Get.here _)).off (by omega))) ?_
  refine Lst.alloc (cs := enc (Vector.replicate 6 (0 : Int))) rfl rfl (by decide) Try.zeroValue23 rfl (fun b31 => ?_)
  refine Lst.store (i := 0) rfl rfl rfl rfl rfl Try.sizeOf23 (vs := enc x28) rfl (Enc.len _) (Enc.one _) (cs' := enc x28) (Put.here ((Enc.len _).trans (Enc.len _).symm)) (L' := (.blk b31 (enc x28) 23) :: (.blk b26 (enc x23) 75) :: (.blk b13 (enc y16) 73) :: (.blk b11 (enc y17) 72) :: (.blk b9 (enc y18) 23) :: (.own s19 23 6 (encs l20)) :: (.own Sl.nil 23 6 (encs ([] : List (Vector Int 6)))) :: L) rfl ?_
  refine Lst.nil ?_
  refine At.then ?_
  obtain ⟨o34, H, HKo34⟩ := bind_some H
  refine Cd.join (σ := (Vector Int 6)) (fun y33 => [(5, Sl.v s19), (6, .pointer (some ⟨b9, 0, none⟩)), (7, .pointer (some ⟨b11, 0, none⟩)), (8, .pointer (some ⟨b13, 0, none⟩)), (10, .pointer (some ⟨b26, 0, none⟩)), (11, .pointer (some ⟨b31, 0, none⟩)), (17, Sl.v s_a0), (18, .int .i64 (a0.length : Int)), (19, .int .i64 (i15 : Int))]) (fun y33 => (.blk b31 (enc y33) 23) :: (.blk b26 (enc x23) 75) :: (.blk b13 (enc y16) 73) :: (.blk b11 (enc y17) 72) :: (.blk b9 (enc y18) 23) :: (.own s19 23 6 (encs l20)) :: (.own Sl.nil 23 6 (encs ([] : List (Vector Int 6)))) :: L) (fun _ y33 => y33 = o34) ?_ ?_
  · refine Cd.seq ?_
    refine Cd.region ?_
    refine Lst.run rfl rfl (by decide) (Ev.fieldAddr (off' := 1) rfl Try.runUnderlying75 rfl Try.sizeOf3 rfl rfl) ?_
    refine Lst.run rfl rfl (by decide) (Ev.load (i := 1) rfl rfl Try.isAgg3 (v := .int .i64 x23.Kind) ((Event.get_Kind (Get.here _)).off (by rfl))) ?_
    refine Lst.run rfl rfl (by decide) (Ev.eql rfl rfl) ?_
    refine Lst.nil ?_
    refine At.then ?_
    rcases (Bool.eq_false_or_eq_true (x23.Kind == (3 : Int))).symm with hb35 | hb35
    · replace H := ite_f hb35 H
      refine Cd.condF rfl hb35 ?_
      refine Cd.skip ?_
      exact At.meet x28 (FLe.refl _) ⟨rfl, rfl, rfl, rfl, rfl, rfl, rfl, rfl, rfl, trivial⟩ rfl (some_inj H)
    replace H := ite_t hb35 H
    refine Cd.condT rfl hb35 ?_
    refine Cd.tail 6 (by kernel_rfl) (by kernel_rfl) ?_
    refine Qt.run rfl rfl (by decide) (Ev.loadA (i := 0) rfl rfl Try.isAgg23 Try.sizeOf23 (ch := enc x28) (Enc.len _) (Get.here _)) ?_
    refine Qt.run rfl rfl (by decide) (Ev.fieldAddr (off' := 2) rfl Try.runUnderlying75 rfl Try.sizeOf3 rfl rfl) ?_
    refine Qt.run rfl rfl (by decide) (Ev.load (i := 1) rfl rfl Try.isAgg3 (v := .int .i64 x23.Msg) ((Event.get_Msg (Get.here _)).off (by rfl))) ?_
    obtain ⟨x36, h37, H⟩ := bind_some H
    have g38 := vat_some h37
    refine Qt.run rfl rfl (by decide) (Ev.indexAddr (off' := 0 + x23.Msg.toNat * 6) rfl rfl Try.runUnderlying73 Try.sizeOf23 g38.1 g38.2.1 rfl) ?_
    refine Qt.run rfl rfl (by decide) (Ev.loadA (i := 2) rfl rfl Try.isAgg23 Try.sizeOf23 (ch := enc x36) (Enc.len _) ((Get.vecN (s := 6) (x := x36) rfl g38.2.2 (Get.here _)).off (by omega))) ?_
    obtain ⟨r39, h40, H⟩ := bind_some H
    refine Qt.call rfl rfl (by decide) (vs := [.agg (enc x28).toArray, .agg (enc x36).toArray]) ⟨rfl, rfl, trivial⟩ Try.call10 (vect_Max_sim h40 w0 _ M _ (List.Sublist.cons _ (List.Sublist.cons _ (List.Sublist.cons _ (List.Sublist.cons _ (List.Sublist.cons _ (List.Sublist.cons _ (List.Sublist.cons _ hM)))))))) ?_
    refine Qt.tail ?_
    refine Lst.store (i := 0) rfl rfl rfl rfl rfl Try.sizeOf23 (vs := enc r39) rfl (Enc.len _) (Enc.one _) (cs' := enc r39) (Put.here ((Enc.len _).trans (Enc.len _).symm)) (L' := (.blk b31 (enc r39) 23) :: (.blk b26 (enc x23) 75) :: (.blk b13 (enc y16) 73) :: (.blk b11 (enc y17) 72) :: (.blk b9 (enc y18) 23) :: (.own s19 23 6 (encs l20)) :: (.own Sl.nil 23 6 (encs ([] : List (Vector Int 6)))) :: L) rfl ?_
    refine Lst.nil ?_
    exact At.meet r39 (FLe.refl _) ⟨rfl, rfl, rfl, rfl, rfl, rfl, rfl, rfl, rfl, trivial⟩ rfl (some_inj H)
  rintro F43 y33 hF44 hy
  subst hy
  refine Cd.as (e' := [(5, Sl.v s19), (6, .pointer (some ⟨b9, 0, none⟩)), (7, .pointer (some ⟨b11, 0, none⟩)), (8, .pointer (some ⟨b13, 0, none⟩)), (10, .pointer (some ⟨b26, 0, none⟩)), (11, .pointer (some ⟨b31, 0, none⟩)), (17, Sl.v s_a0), (18, .int .i64 (a0.length : Int)), (19, .int .i64 (i15 : Int))]) (L' := (.blk b31 (enc y33) 23) :: (.blk b26 (enc x23) 75) :: (.blk b13 (enc y16) 73) :: (.blk b11 (enc y17) 72) :: (.blk b9 (enc y18) 23) :: (.own s19 23 6 (encs l20)) :: (.own Sl.nil 23 6 (encs ([] : List (Vector Int 6)))) :: L) ⟨rfl, rfl, rfl, rfl, rfl, rfl, rfl, rfl, rfl, trivial⟩ rfl ?_
  replace H := HKo34
  refine Cd.seq ?_
  refine Cd.region ?_
  refine Lst.run rfl rfl (by decide) (Ev.fieldAddr (off' := 0) rfl Try.runUnderlying75 rfl Try.sizeOf3 rfl rfl) ?_
  refine Lst.run rfl rfl (by decide) (Ev.load (i := 1) rfl rfl Try.isAgg3 (v := .int .i64 x23.Proc) ((Event.get_Proc (Get.here _)).off (by rfl))) ?_
  obtain ⟨x45, h46, H⟩ := bind_some H
  have g47 := vat_some h46
  refine Lst.run rfl rfl (by decide) (Ev.indexAddr (off' := 0 + x23.Proc.toNat * 1) rfl rfl Try.runUnderlying23 Try.sizeOf3 g47.1 g47.2.1 rfl) ?_
  refine Lst.run rfl rfl (by decide) (Ev.load (i := 4) rfl rfl Try.isAgg3 (v := .int .i64 x45) ((Get.vecN (s := 1) (x := x45) rfl g47.2.2 (Get.here _)).off (by omega))) ?_
  refine Lst.run rfl rfl (by decide) (Ev.add rfl rfl) ?_
  obtain ⟨x48, h49, H⟩ := bind_some H
  have g50 := vat_some h49
  refine Lst.run rfl rfl (by decide) (Ev.indexAddr (off' := 0 + x23.Proc.toNat * 1) rfl rfl Try.runUnderlying23 Try.sizeOf3 g50.1 g50.2.1 rfl) ?_
  obtain ⟨p51, h52, H⟩ := Let_some H
  refine Lst.store (i := 4) rfl rfl rfl rfl rfl Try.sizeOf3 (vs := [.int .i64 (w64 (x45 + (1 : Int)))]) rfl rfl rfl (cs' := enc p51) (by rw [← h52]; exact (Put.vecN (s := 1) (x := x48) rfl g50.2.2 (Put.here (vs := [.int .i64 (w64 (x45 + (1 : Int)))]) rfl)).off (by omega)) (L' := (.blk b31 (enc y33) 23) :: (.blk b26 (enc x23) 75) :: (.blk b13 (enc y16) 73) :: (.blk b11 (enc y17) 72) :: (.blk b9 (enc p51) 23) :: (.own s19 23 6 (encs l20)) :: (.own Sl.nil 23 6 (encs ([] : List (Vector Int 6)))) :: L) rfl ?_
  refine Lst.nil ?_
  refine At.then ?_
  refine Cd.seq ?_
  refine Cd.tail 7 (by kernel_rfl) (by kernel_rfl) ?_
  refine Qt.run rfl rfl (by decide) (Ev.fieldAddr (off' := 0) rfl Try.runUnderlying75 rfl Try.sizeOf3 rfl rfl) ?_
  refine Qt.run rfl rfl (by decide) (Ev.load (i := 1) rfl rfl Try.isAgg3 (v := .int .i64 x23.Proc) ((Event.get_Proc (Get.here _)).off (by rfl))) ?_
  refine Qt.run rfl rfl (by decide) (Ev.fieldAddr (off' := 0) rfl Try.runUnderlying75 rfl Try.sizeOf3 rfl rfl) ?_
  refine Qt.run rfl rfl (by decide) (Ev.load (i := 1) rfl rfl Try.isAgg3 (v := .int .i64 x23.Proc) ((Event.get_Proc (Get.here _)).off (by rfl))) ?_
  obtain ⟨x53, h54, H⟩ := bind_some H
  have g55 := vat_some h54
  refine Qt.run rfl rfl (by decide) (Ev.indexAddr (off' := 0 + x23.Proc.toNat * 1) rfl rfl Try.runUnderlying23 Try.sizeOf3 g55.1 g55.2.1 rfl) ?_
  refine Qt.run rfl rfl (by decide) (Ev.load (i := 4) rfl rfl Try.isAgg3 (v := .int .i64 x53) ((Get.vecN (s := 1) (x := x53) rfl g55.2.2 (Get.here _)).off (by omega))) ?_
  obtain ⟨x56, h57, H⟩ := bind_some H
  have g58 := vat_some h57
  refine Qt.run rfl rfl (by decide) (Ev.indexAddr (off' := 0 + x23.Proc.toNat * 1) rfl rfl Try.runUnderlying23 Try.sizeOf3 g58.1 g58.2.1 rfl) ?_
  refine Qt.tail ?_
  obtain ⟨p59, h60, H⟩ := Let_some H
  refine Lst.store (i := 0) rfl rfl rfl rfl rfl Try.sizeOf3 (vs := [.int .i64 x53]) rfl rfl rfl (cs' := enc p59) (by rw [← h60]; exact (Put.vecN (s := 1) (x := x56) rfl g58.2.2 (Put.here (vs := [.int .i64 x53]) rfl)).off (by omega)) (L' := (.blk b31 (enc p59) 23) :: (.blk b26 (enc x23) 75) :: (.blk b13 (enc y16) 73) :: (.blk b11 (enc y17) 72) :: (.blk b9 (enc p51) 23) :: (.own s19 23 6 (encs l20)) :: (.own Sl.nil 23 6 (encs ([] : List (Vector Int 6)))) :: L) rfl ?_
  refine Lst.nil ?_
  refine At.then ?_
  refine Cd.seq ?_
  refine Cd.region ?_
  refine Lst.run rfl rfl (by decide) (Ev.fieldAddr (off' := 0) rfl Try.runUnderlying75 rfl Try.sizeOf3 rfl rfl) ?_
  refine Lst.run rfl rfl (by decide) (Ev.load (i := 1) rfl rfl Try.isAgg3 (v := .int .i64 x23.Proc) ((Event.get_Proc (Get.here _)).off (by rfl))) ?_
  refine Lst.run rfl rfl (by decide) (Ev.loadA (i := 0) rfl rfl Try.isAgg23 Try.sizeOf23 (ch := enc p59) (Enc.len _) (Get.here _)) ?_
  obtain ⟨x61, h62, H⟩ := bind_some H
  have g63 := vat_some h62
  refine Lst.run rfl rfl (by decide) (Ev.indexAddr (off' := 0 + x23.Proc.toNat * 6) rfl rfl Try.runUnderlying72 Try.sizeOf23 g63.1 g63.2.1 rfl) ?_
  obtain ⟨p64, h65, H⟩ := Let_some H
  refine Lst.store (i := 3) rfl rfl rfl rfl rfl Try.sizeOf23 (vs := enc p59) rfl (Enc.len _) (Enc.one _) (cs' := enc p64) (by rw [← h65]; exact (Put.vecN (s := 6) (x := x61) rfl g63.2.2 (Put.here ((Enc.len _).trans (Enc.len _).symm))).off (by omega)) (L' := (.blk b31 (enc p59) 23) :: (.blk b26 (enc x23) 75) :: (.blk b13 (enc y16) 73) :: (.blk b11 (enc p64) 72) :: (.blk b9 (enc p51) 23) :: (.own s19 23 6 (encs l20)) :: (.own Sl.nil 23 6 (encs ([] : List (Vector Int 6)))) :: L) rfl ?_
  refine Lst.nil ?_
  refine At.then ?_
  obtain ⟨o67, H, HKo67⟩ := bind_some H
  refine Cd.join (σ := (Vector (Vector Int 6) 30)) (fun y66 => [(5, Sl.v s19), (6, .pointer (some ⟨b9, 0, none⟩)), (7, .pointer (some ⟨b11, 0, none⟩)), (8, .pointer (some ⟨b13, 0, none⟩)), (11, .pointer (some ⟨b31, 0, none⟩)), (17, Sl.v s_a0), (18, .int .i64 (a0.length : Int)), (19, .int .i64 (i15 : Int))]) (fun y66 => (.blk b31 (enc p59) 23) :: (.blk b26 (enc x23) 75) :: (.blk b13 (enc y66) 73) :: (.blk b11 (enc p64) 72) :: (.blk b9 (enc p51) 23) :: (.own s19 23 6 (encs l20)) :: (.own Sl.nil 23 6 (encs ([] : List (Vector Int 6)))) :: L) (fun _ y66 => y66 = o67) ?_ ?_
  · refine Cd.seq ?_
    refine Cd.as (e' := [(5, Sl.v s19), (6, .pointer (some ⟨b9, 0, none⟩)), (7, .pointer (some ⟨b11, 0, none⟩)), (8, .pointer (some ⟨b13, 0, none⟩)), (10, .pointer (some ⟨b26, 0, none⟩)), (11, .pointer (some ⟨b31, 0, none⟩)), (17, Sl.v s_a0), (18, .int .i64 (a0.length : Int)), (19, .int .i64 (i15 : Int))]) (L' := (.blk b31 (enc p59) 23) :: (.blk b26 (enc x23) 75) :: (.blk b13 (enc y16) 73) :: (.blk b11 (enc p64) 72) :: (.blk b9 (enc p51) 23) :: (.own s19 23 6 (encs l20)) :: (.own Sl.nil 23 6 (encs ([] : List (Vector Int 6)))) :: L) ⟨rfl, rfl, rfl, rfl, rfl, rfl, rfl, rfl, rfl, trivial⟩ rfl ?_
    refine Cd.region ?_
    refine Lst.run rfl rfl (by decide) (Ev.fieldAddr (off' := 1) rfl Try.runUnderlying75 rfl Try.sizeOf3 rfl rfl) ?_
    refine Lst.run rfl rfl (by decide) (Ev.load (i := 1) rfl rfl Try.isAgg3 (v := .int .i64 x23.Kind) ((Event.get_Kind (Get.here _)).off (by rfl))) ?_
    refine Lst.run rfl rfl (by decide) (Ev.eql rfl rfl) ?_
    refine Lst.nil ?_
    refine At.then ?_
    rcases (Bool.eq_false_or_eq_true (x23.Kind == (2 : Int))).symm with hb68 | hb68
    · replace H := ite_f hb68 H
      refine Cd.condF rfl hb68 ?_
      refine Cd.skip ?_
      exact At.meet y16 (FLe.refl _) ⟨rfl, rfl, rfl, rfl, rfl, rfl, rfl, rfl, trivial⟩ rfl (some_inj H)
    replace H := ite_t hb68 H
    refine Cd.condT rfl hb68 ?_
    refine Cd.region ?_
    refine Lst.run rfl rfl (by decide) (Ev.fieldAddr (off' := 2) rfl Try.runUnderlying75 rfl Try.sizeOf3 rfl rfl) ?_
    refine Lst.run rfl rfl (by decide) (Ev.load (i := 1) rfl rfl Try.isAgg3 (v := .int .i64 x23.Msg) ((Event.get_Msg (Get.here _)).off (by rfl))) ?_
    refine Lst.run rfl rfl (by decide) (Ev.loadA (i := 0) rfl rfl Try.isAgg23 Try.sizeOf23 (ch := enc p59) (Enc.len _) (Get.here _)) ?_
    obtain ⟨x69, h70, H⟩ := bind_some H
    have g71 := vat_some h70
    refine Lst.run rfl rfl (by decide) (Ev.indexAddr (off' := 0 + x23.Msg.toNat * 6) rfl rfl Try.runUnderlying73 Try.sizeOf23 g71.1 g71.2.1 rfl) ?_
    obtain ⟨p72, h73, H⟩ := Let_some H
    refine Lst.store (i := 2) rfl rfl rfl rfl rfl Try.sizeOf23 (vs := enc p59) rfl (Enc.len _) (Enc.one _) (cs' := enc p72) (by rw [← h73]; exact (Put.vecN (s := 6) (x := x69) rfl g71.2.2 (Put.here ((Enc.len _).trans (Enc.len _).symm))).off (by omega)) (L' := (.blk b31 (enc p59) 23) :: (.blk b26 (enc x23) 75) :: (.blk b13 (enc p72) 73) :: (.blk b11 (enc p64) 72) :: (.blk b9 (enc p51) 23) :: (.own s19 23 6 (encs l20)) :: (.own Sl.nil 23 6 (encs ([] : List (Vector Int 6)))) :: L) rfl ?_
    refine Lst.nil ?_
    exact At.meet p72 (FLe.refl _) ⟨rfl, rfl, rfl, rfl, rfl, rfl, rfl, rfl, trivial⟩ rfl (some_inj H)
  rintro F74 y66 hF75 hy
  subst hy
  refine Cd.as (e' := [(5, Sl.v s19), (6, .pointer (some ⟨b9, 0, none⟩)), (7, .pointer (some ⟨b11, 0, none⟩)), (8, .pointer (some ⟨b13, 0, none⟩)), (11, .pointer (some ⟨b31, 0, none⟩)), (17, Sl.v s_a0), (18, .int .i64 (a0.length : Int)), (19, .int .i64 (i15 : Int))]) (L' := (.blk b31 (enc p59) 23) :: (.blk b26 (enc x23) 75) :: (.blk b13 (enc y66) 73) :: (.blk b11 (enc p64) 72) :: (.blk b9 (enc p51) 23) :: (.own s19 23 6 (encs l20)) :: (.own Sl.nil 23 6 (encs ([] : List (Vector Int 6)))) :: L) ⟨rfl, rfl, rfl, rfl, rfl, rfl, rfl, rfl, trivial⟩ rfl ?_
  replace H := HKo67
  refine Cd.region ?_
  refine Lst.run rfl rfl (by decide) (Ev.move rfl) ?_
  refine Lst.run rfl rfl (by decide) (Ev.loadA (i := 0) rfl rfl Try.isAgg23 Try.sizeOf23 (ch := enc p59) (Enc.len _) (Get.here _)) ?_
  refine Lst.buildSlice (α := Vector Int 6) (xs := ([p59] : List (Vector Int 6))) (pv := [(0, .agg (enc p59).toArray)]) rfl rfl (by decide) ⟨rfl, rfl, trivial⟩ (run_buildSlice (α := Vector Int 6) (z0 := (Vector.replicate 6 (0 : Int))) (xs := ([p59] : List (Vector Int 6))) Try.runUnderlying28 Try.sizeOf23 Try.zeroValue23 rfl rfl rfl (by decide) rfl (fill_cons (cs := encs (List.replicate 1 (Vector.replicate 6 (0 : Int)))) (cs' := encs ((List.replicate 1 (Vector.replicate 6 (0 : Int))).set 0 p59)) (vs := enc p59) rfl rfl (Enc.len _) ((Put.elemN (s := 6) (i := 0) (x := (Vector.replicate 6 (0 : Int))) (y := p59) rfl rfl (Put.here ((Enc.len _).trans (Enc.len _).symm))).off rfl) fill_nil)) rfl rfl (by decide) (fun s76 _ => ?_)
  obtain ⟨u78, h79, H⟩ := bind_some H
  refine Lst.append (i := 6) (α := Vector Int 6) (xs := l20) (ys := ([p59] : List (Vector Int 6))) rfl rfl (by decide) rfl rfl Try.runUnderlying28 Try.typeInfo23 rfl rfl rfl rfl rfl rfl (Rd.own (i := 0) rfl rfl rfl) rfl (room_some h79) rfl (fun s80 => ?_)
  refine Lst.its (L' := (.own s76 23 6 (encs ([p59] : List (Vector Int 6)))) :: (.blk b31 (enc p59) 23) :: (.blk b26 (enc x23) 75) :: (.blk b13 (enc y66) 73) :: (.blk b11 (enc p64) 72) :: (.blk b9 (enc p51) 23) :: (.own s80 23 6 (encs (l20 ++ ([p59] : List (Vector Int 6))))) :: (.own Sl.nil 23 6 (encs ([] : List (Vector Int 6)))) :: L) rfl ?_
  refine Lst.run rfl rfl (by decide) (Ev.assign rfl) ?_
  refine Lst.nil ?_
  refine At.in_normal ?_
  refine At.then ?_
  refine Cd.region ?_
  refine Lst.run rfl rfl (by decide) (Ev.incr (by omega) rfl rfl) ?_
  refine Lst.run rfl rfl (by decide) (Ev.move rfl) ?_
  refine Lst.nil ?_
  refine At.less (L' := (.blk b13 (enc y66) 73) :: (.blk b11 (enc p64) 72) :: (.blk b9 (enc p51) 23) :: (.own s80 23 6 (encs (l20 ++ ([p59] : List (Vector Int 6))))) :: (.own Sl.nil 23 6 (encs ([] : List (Vector Int 6)))) :: L) (List.Sublist.cons _ (List.Sublist.cons _ (List.Sublist.cons _ (List.Sublist.cons_cons _ (List.Sublist.cons_cons _ (List.Sublist.cons_cons _ (List.Sublist.cons_cons _ (List.Sublist.cons_cons _ (List.Sublist.refl _))))))))) ?_
  exact At.meet (i15 + 1, k15, y66, p64, p51, s80, l20 ++ ([p59] : List (Vector Int 6))) (FLe.trans (FLe.trans hF22 hF44) hF75) ⟨rfl, rfl, rfl, rfl, rfl, rfl, rfl, trivial⟩ rfl ⟨⟨hgo15 _ (some_inj H).symm, by omega⟩, Nat.lt_succ_self _⟩
set_option maxRecDepth 20000 in
theorem parttop_grown_sim {r : Bool} (H : parttop_grown = some r) (w0 : World) (F : Frz) (M L : List Item) (hM : M.Sublist L) : Ok Try.prog w0 44 [] F (L) (Is (.bool r) (L)) := by
  unfold parttop_grown at H
  refine Ok.enter (m := 0) (n := 34) Try.func44 rfl rfl rfl (by decide) ?_
  refine Cd.env (e' := []) rfl ?_
  refine Cd.seq ?_
  refine Cd.region ?_
  refine Lst.run rfl rfl (by decide) (Ev.assign rfl) ?_
  refine Lst.nil ?_
  refine At.then ?_
  refine Cd.seq ?_
  refine Cd.region ?_
  refine Lst.run rfl rfl (by decide) (Ev.build (v := .agg (enc ({ Event.zero with Kind := (2 : Int) } : Event)).toArray) (pv := [(1, .int .i64 (2 : Int))]) ⟨rfl, rfl, trivial⟩ (fun w => by kernel_rfl)) ?_
  refine Lst.run rfl rfl (by decide) (Ev.build (v := .agg (enc ({ Event.zero with Proc := (1 : Int), Kind := (3 : Int) } : Event)).toArray) (pv := [(0, .int .i64 (1 : Int)), (1, .int .i64 (3 : Int))]) ⟨rfl, rfl, ⟨rfl, rfl, trivial⟩⟩ (fun w => by kernel_rfl)) ?_
  refine Lst.run rfl rfl (by decide) (Ev.build (v := .agg (enc ({ Event.zero with Proc := (1 : Int), Kind := (3 : Int) } : Event)).toArray) (pv := [(0, .int .i64 (1 : Int)), (1, .int .i64 (3 : Int))]) ⟨rfl, rfl, ⟨rfl, rfl, trivial⟩⟩ (fun w => by kernel_rfl)) ?_
  refine Lst.run rfl rfl (by decide) (Ev.build (v := .agg (enc ({ Event.zero with Proc := (2 : Int), Kind := (1 : Int) } : Event)).toArray) (pv := [(0, .int .i64 (2 : Int)), (1, .int .i64 (1 : Int))]) ⟨rfl, rfl, ⟨rfl, rfl, trivial⟩⟩ (fun w => by kernel_rfl)) ?_
  refine Lst.buildSlice (α := Event) (xs := ([({ Event.zero with Kind := (2 : Int) } : Event), ({ Event.zero with Proc := (1 : Int), Kind := (3 : Int) } : Event), ({ Event.zero with Proc := (1 : Int), Kind := (3 : Int) } : Event), ({ Event.zero with Proc := (2 : Int), Kind := (1 : Int) } : Event)] : List Event)) (pv := [(0, .agg (enc ({ Event.zero with Kind := (2 : Int) } : Event)).toArray), (1, .agg (enc ({ Event.zero with Proc := (1 : Int), Kind := (3 : Int) } : Event)).toArray), (2, .agg (enc ({ Event.zero with Proc := (1 : Int), Kind := (3 : Int) } : Event)).toArray), (3, .agg (enc ({ Event.zero with Proc := (2 : Int), Kind := (1 : Int) } : Event)).toArray)]) rfl rfl (by decide) ⟨rfl, rfl, ⟨rfl, rfl, ⟨rfl, rfl, ⟨rfl, rfl, trivial⟩⟩⟩⟩ (run_buildSlice (α := Event) (z0 := Event.zero) (xs := ([({ Event.zero with Kind := (2 : Int) } : Event), ({ Event.zero with Proc := (1 : Int), Kind := (3 : Int) } : Event), ({ Event.zero with Proc := (1 : Int), Kind := (3 : Int) } : Event), ({ Event.zero with Proc := (2 : Int), Kind := (1 : Int) } : Event)] : List Event)) Try.runUnderlying24 Try.sizeOf75 Try.zeroValue75 rfl rfl rfl (by decide) rfl (fill_cons (cs := encs (List.replicate 4 Event.zero)) (cs' := encs ((List.replicate 4 Event.zero).set 0 ({ Event.zero with Kind := (2 : Int) } : Event))) (vs := enc ({ Event.zero with Kind := (2 : Int) } : Event)) rfl rfl (Enc.len _) ((Put.elemN (s := 3) (i := 0) (x := Event.zero) (y := ({ Event.zero with Kind := (2 : Int) } : Event)) rfl rfl (Put.here ((Enc.len _).trans (Enc.len _).symm))).off rfl) (fill_cons (cs := encs ((List.replicate 4 Event.zero).set 0 ({ Event.zero with Kind := (2 : Int) } : Event))) (cs' := encs (((List.replicate 4 Event.zero).set 0 ({ Event.zero with Kind := (2 : Int) } : Event)).set 1 ({ Event.zero with Proc := (1 : Int), Kind := (3 : Int) } : Event))) (vs := enc ({ Event.zero with Proc := (1 : Int), Kind := (3 : Int) } : Event)) rfl rfl (Enc.len _) ((Put.elemN (s := 3) (i := 1) (x := Event.zero) (y := ({ Event.zero with Proc := (1 : Int), Kind := (3 : Int) } : Event)) rfl rfl (Put.here ((Enc.len _).trans (Enc.len _).symm))).off rfl) (fill_cons (cs := encs (((List.replicate 4 Event.zero).set 0 ({ Event.zero with Kind := (2 : Int) } : Event)).set 1 ({ Event.zero with Proc := (1 : Int), Kind := (3 : Int) } : Event))) (cs' := encs ((((List.replicate 4 Event.zero).set 0 ({ Event.zero with Kind := (2 : Int) } : Event)).set 1 ({ Event.zero with Proc := (1 : Int), Kind := (3 : Int) } : Event)).set 2 ({ Event.zero with Proc := (1 : Int), Kind := (3 : Int) } : Event))) (vs := enc ({ Event.zero with Proc := (1 : Int), Kind := (3 : Int) } : Event)) rfl rfl (Enc.len _) ((Put.elemN (s := 3) (i := 2) (x := Event.zero) (y := ({ Event.zero with Proc := (1 : Int), Kind := (3 : Int) } : Event)) rfl rfl (Put.here ((Enc.len _).trans (Enc.len _).symm))).off rfl) (fill_cons (cs := encs ((((List.replicate 4 Event.zero).set 0 ({ Event.zero with Kind := (2 : Int) } : Event)).set 1 ({ Event.zero with Proc := (1 : Int), Kind := (3 : Int) } : Event)).set 2 ({ Event.zero with Proc := (1 : Int), Kind := (3 : Int) } : Event))) (cs' := encs (((((List.replicate 4 Event.zero).set 0 ({ Event.zero with Kind := (2 : Int) } : Event)).set 1 ({ Event.zero with Proc := (1 : Int), Kind := (3 : Int) } : Event)).set 2 ({ Event.zero with Proc := (1 : Int), Kind := (3 : Int) } : Event)).set 3 ({ Event.zero with Proc := (2 : Int), Kind := (1 : Int) } : Event))) (vs := enc ({ Event.zero with Proc := (2 : Int), Kind := (1 : Int) } : Event)) rfl rfl (Enc.len _) ((Put.elemN (s := 3) (i := 3) (x := Event.zero) (y := ({ Event.zero with Proc := (2 : Int), Kind := (1 : Int) } : Event)) rfl rfl (Put.here ((Enc.len _).trans (Enc.len _).symm))).off rfl) fill_nil))))) rfl rfl (by decide) (fun s1 _ => ?_)
  obtain ⟨r3, h4, H⟩ := bind_some H
  refine Lst.call rfl rfl (by decide) (vs := [Sl.v s1]) ⟨rfl, trivial⟩ Try.call45 (parttop_historyOf_sim h4 w0 _ _ _ (List.Sublist.refl _) (Rd.own (i := 0) rfl rfl rfl)) (fun F7 L' v hF8 hv => ?_)
  obtain ⟨s5, rfl, rfl⟩ := hv
  refine Lst.run rfl rfl (by decide) (Ev.assign rfl) ?_
  refine Lst.nil ?_
  refine At.then ?_
  refine Cd.seq ?_
  refine Cd.region ?_
  refine Lst.run rfl rfl (by decide) (Ev.move rfl) ?_
  obtain ⟨r9, h10, H⟩ := bind_some H
  refine Lst.call rfl rfl (by decide) (vs := [Sl.v s5]) ⟨rfl, trivial⟩ Try.call15 (vect_Vectors_sim h10 w0 _ _ _ (List.Sublist.refl _) (Rd.own (i := 0) rfl rfl rfl)) (fun F13 L' v hF14 hv => ?_)
  obtain ⟨s11, rfl, rfl⟩ := hv
  refine Lst.run rfl rfl (by decide) (Ev.move rfl) ?_
  refine Lst.run rfl rfl (by decide) (Ev.extract rfl rfl) ?_
  refine Lst.run rfl rfl (by decide) (Ev.extract rfl rfl) ?_
  refine Lst.run rfl rfl (by decide) (Ev.assign rfl) ?_
  refine Lst.run rfl rfl (by decide) (Ev.assign rfl) ?_
  refine Lst.nil ?_
  refine At.then ?_
  refine Cd.seq ?_
  refine Cd.region ?_
  refine Lst.run rfl rfl (by decide) (Ev.move rfl) ?_
  refine Lst.run rfl rfl (by decide) (Ev.lenS (α := Event) (xs := r3) (by decide) rfl rfl Try.runUnderlying24 (Rd.own (i := 1) rfl rfl rfl)) ?_
  refine Lst.run rfl rfl (by decide) (Ev.eql rfl rfl) ?_
  refine Lst.run rfl rfl (by decide) (Ev.move rfl) ?_
  obtain ⟨o15, H, HKo15⟩ := bind_some H
  refine Lst.join (σ := Bool) 3 (fun y16 => [(2, Sl.v s11), (21, .bool y16)]) (fun y16 => (.own s11 23 6 (encs r9.1)) :: (.own s5 75 3 (encs r3)) :: (.own s1 75 3 (encs ([({ Event.zero with Kind := (2 : Int) } : Event), ({ Event.zero with Proc := (1 : Int), Kind := (3 : Int) } : Event), ({ Event.zero with Proc := (1 : Int), Kind := (3 : Int) } : Event), ({ Event.zero with Proc := (2 : Int), Kind := (1 : Int) } : Event)] : List Event))) :: L) (fun _ y16 => y16 = o15) ?_ ?_
  · rcases (Bool.eq_false_or_eq_true ((r3.length : Int) == (3 : Int))).symm with hb17 | hb17
    · replace H := ite_f hb17 H
      refine Lst.skip rfl rfl rfl hb17 rfl (by decide) ?_
      refine Lst.skip rfl rfl rfl hb17 rfl (by decide) ?_
      refine Lst.run rfl rfl (by decide) (Ev.pickF rfl hb17 rfl) ?_
      refine Lst.nil ?_
      exact At.meet false (FLe.refl _) ⟨rfl, rfl, trivial⟩ rfl (some_inj H)
    replace H := ite_t hb17 H
    refine Lst.runG rfl rfl rfl hb17 rfl (by decide) (Ev.move rfl) ?_
    refine Lst.runG rfl rfl rfl hb17 rfl (by decide) (Ev.eql rfl rfl) ?_
    refine Lst.run rfl rfl (by decide) (Ev.pickT rfl hb17 rfl) ?_
    refine Lst.nil ?_
    exact At.meet (r9.2 == (0 : Int)) (FLe.refl _) ⟨rfl, rfl, trivial⟩ rfl (some_inj H)
  rintro F18 y16 hF19 hy
  subst hy
  refine Lst.as (e' := [(2, Sl.v s11), (21, .bool y16)]) (L' := (.own s11 23 6 (encs r9.1)) :: (.own s5 75 3 (encs r3)) :: (.own s1 75 3 (encs ([({ Event.zero with Kind := (2 : Int) } : Event), ({ Event.zero with Proc := (1 : Int), Kind := (3 : Int) } : Event), ({ Event.zero with Proc := (1 : Int), Kind := (3 : Int) } : Event), ({ Event.zero with Proc := (2 : Int), Kind := (1 : Int) } : Event)] : List Event))) :: L) ⟨rfl, rfl, trivial⟩ rfl ?_
  replace H := HKo15
  refine Lst.run rfl rfl (by decide) (Ev.move rfl) ?_
  obtain ⟨o20, H, HKo20⟩ := bind_some H
  refine Lst.join (σ := Bool) 4 (fun y21 => [(2, Sl.v s11), (26, .bool y21)]) (fun y21 => (.own s11 23 6 (encs r9.1)) :: (.own s5 75 3 (encs r3)) :: (.own s1 75 3 (encs ([({ Event.zero with Kind := (2 : Int) } : Event), ({ Event.zero with Proc := (1 : Int), Kind := (3 : Int) } : Event), ({ Event.zero with Proc := (1 : Int), Kind := (3 : Int) } : Event), ({ Event.zero with Proc := (2 : Int), Kind := (1 : Int) } : Event)] : List Event))) :: L) (fun _ y21 => y21 = o20) ?_ ?_
  · rcases (Bool.eq_false_or_eq_true y16).symm with hb22 | hb22
    · replace H := ite_f hb22 H
      refine Lst.skip rfl rfl rfl hb22 rfl (by decide) ?_
      refine Lst.skip rfl rfl rfl hb22 rfl (by decide) ?_
      refine Lst.skip rfl rfl rfl hb22 rfl (by decide) ?_
      refine Lst.run rfl rfl (by decide) (Ev.pickF rfl hb22 rfl) ?_
      refine Lst.nil ?_
      exact At.meet false (FLe.refl _) ⟨rfl, rfl, trivial⟩ rfl (some_inj H)
    replace H := ite_t hb22 H
    refine Lst.runG rfl rfl rfl hb22 rfl (by decide) (Ev.move rfl) ?_
    refine Lst.runG rfl rfl rfl hb22 rfl (by decide) (Ev.lenS (α := Vector Int 6) (xs := r9.1) (by decide) rfl rfl Try.runUnderlying28 (Rd.own (i := 0) rfl rfl rfl)) ?_
    refine Lst.runG rfl rfl rfl hb22 rfl (by decide) (Ev.eql rfl rfl) ?_
    refine Lst.run rfl rfl (by decide) (Ev.pickT rfl hb22 rfl) ?_
    refine Lst.nil ?_
    exact At.meet ((r9.1.length : Int) == (3 : Int)) (FLe.refl _) ⟨rfl, rfl, trivial⟩ rfl (some_inj H)
  rintro F23 y21 hF24 hy
  subst hy
  refine Lst.as (e' := [(2, Sl.v s11), (26, .bool y21)]) (L' := (.own s11 23 6 (encs r9.1)) :: (.own s5 75 3 (encs r3)) :: (.own s1 75 3 (encs ([({ Event.zero with Kind := (2 : Int) } : Event), ({ Event.zero with Proc := (1 : Int), Kind := (3 : Int) } : Event), ({ Event.zero with Proc := (1 : Int), Kind := (3 : Int) } : Event), ({ Event.zero with Proc := (2 : Int), Kind := (1 : Int) } : Event)] : List Event))) :: L) ⟨rfl, rfl, trivial⟩ rfl ?_
  replace H := HKo20
  refine Lst.run rfl rfl (by decide) (Ev.move rfl) ?_
  obtain ⟨o25, H, HKo25⟩ := bind_some H
  refine Lst.join (σ := Bool) 6 (fun y26 => [(33, .bool y26)]) (fun y26 => (.own s11 23 6 (encs r9.1)) :: (.own s5 75 3 (encs r3)) :: (.own s1 75 3 (encs ([({ Event.zero with Kind := (2 : Int) } : Event), ({ Event.zero with Proc := (1 : Int), Kind := (3 : Int) } : Event), ({ Event.zero with Proc := (1 : Int), Kind := (3 : Int) } : Event), ({ Event.zero with Proc := (2 : Int), Kind := (1 : Int) } : Event)] : List Event))) :: L) (fun _ y26 => y26 = o25) ?_ ?_
  · rcases (Bool.eq_false_or_eq_true y21).symm with hb27 | hb27
    · replace H := ite_f hb27 H
      refine Lst.skip rfl rfl rfl hb27 rfl (by decide) ?_
      refine Lst.skip rfl rfl rfl hb27 rfl (by decide) ?_
      refine Lst.skip rfl rfl rfl hb27 rfl (by decide) ?_
      refine Lst.skip rfl rfl rfl hb27 rfl (by decide) ?_
      refine Lst.skip rfl rfl rfl hb27 rfl (by decide) ?_
      refine Lst.run rfl rfl (by decide) (Ev.pickF rfl hb27 rfl) ?_
      refine Lst.nil ?_
      exact At.meet false (FLe.refl _) ⟨rfl, trivial⟩ rfl (some_inj H)
    replace H := ite_t hb27 H
    refine Lst.runG rfl rfl rfl hb27 rfl (by decide) (Ev.move rfl) ?_
    obtain ⟨x28, h29, H⟩ := bind_some H
    have g30 := lat_some h29
    refine Lst.runG rfl rfl rfl hb27 rfl (by decide) (Ev.indexS (α := Vector Int 6) (xs := r9.1) rfl rfl Try.runUnderlying28 Try.sizeOf23 rfl (by decide) (Rd.own (i := 0) rfl rfl rfl) g30.1 g30.2.1) ?_
    refine Lst.runG rfl rfl rfl hb27 rfl (by decide) (Ev.loadSA (α := Vector Int 6) rfl (Rd.own (i := 0) rfl rfl rfl) Try.isAgg23 Try.sizeOf23 (ch := enc x28) (Enc.len _) (by decide) ((Get.elemN (s := 6) (x := x28) rfl g30.2.2 (Get.here _)).off (by omega))) ?_
    refine Lst.runG rfl rfl rfl hb27 rfl (by decide) (Ev.build (v := .agg (enc ((((Vector.replicate 6 (0 : Int)).setIfInBounds 0 (1 : Int)).setIfInBounds 1 (1 : Int)) : Vector Int 6)).toArray) (pv := [(0, .int .i64 (1 : Int)), (1, .int .i64 (1 : Int))]) ⟨rfl, rfl, ⟨rfl, rfl, trivial⟩⟩ (run_buildArray Try.zeroValue23 (zs := enc (Vector.replicate 6 (0 : Int))) rfl Try.runUnderlying23 Try.sizeOf3 (fill_cons (cs := enc (Vector.replicate 6 (0 : Int))) (cs' := enc ((Vector.replicate 6 (0 : Int)).setIfInBounds 0 (1 : Int))) (vs := [.int .i64 (1 : Int)]) rfl rfl rfl ((Put.vecN (s := 1) (i := 0) (x := (0 : Int)) (y := (1 : Int)) rfl rfl (Put.here (vs := [.int .i64 (1 : Int)]) rfl)).off rfl) (fill_cons (cs := enc ((Vector.replicate 6 (0 : Int)).setIfInBounds 0 (1 : Int))) (cs' := enc (((Vector.replicate 6 (0 : Int)).setIfInBounds 0 (1 : Int)).setIfInBounds 1 (1 : Int))) (vs := [.int .i64 (1 : Int)]) rfl rfl rfl ((Put.vecN (s := 1) (i := 1) (x := (0 : Int)) (y := (1 : Int)) rfl rfl (Put.here (vs := [.int .i64 (1 : Int)]) rfl)).off rfl) fill_nil)))) ?_
    refine Lst.runG rfl rfl rfl hb27 rfl (by decide) (Ev.eqlA rfl rfl (by kernel_rfl) (eq23 _ _)) ?_
    refine Lst.run rfl rfl (by decide) (Ev.pickT rfl hb27 rfl) ?_
    refine Lst.nil ?_
    exact At.meet (decide (x28 = ((((Vector.replicate 6 (0 : Int)).setIfInBounds 0 (1 : Int)).setIfInBounds 1 (1 : Int)) : Vector Int 6))) (FLe.refl _) ⟨rfl, trivial⟩ rfl (some_inj H)
  rintro F31 y26 hF32 hy
  subst hy
  refine Lst.as (e' := [(33, .bool y26)]) (L' := (.own s11 23 6 (encs r9.1)) :: (.own s5 75 3 (encs r3)) :: (.own s1 75 3 (encs ([({ Event.zero with Kind := (2 : Int) } : Event), ({ Event.zero with Proc := (1 : Int), Kind := (3 : Int) } : Event), ({ Event.zero with Proc := (1 : Int), Kind := (3 : Int) } : Event), ({ Event.zero with Proc := (2 : Int), Kind := (1 : Int) } : Event)] : List Event))) :: L) ⟨rfl, trivial⟩ rfl ?_
  replace H := HKo25
  refine Lst.run rfl rfl (by decide) (Ev.assign rfl) ?_
  refine Lst.nil ?_
  refine At.then ?_
  obtain rfl := some_inj H
  refine Cd.ret ?_
  exact At.ret1 rfl (Res.tmp rfl) (FLe.trans (FLe.trans (FLe.trans (FLe.trans hF8 hF14) hF19) hF24) hF32) (List.Sublist.cons _ (List.Sublist.cons _ (List.Sublist.cons _ (List.Sublist.refl _)))) ⟨rfl, rfl⟩
set_option maxRecDepth 20000 in
theorem stamp_Stamps_sim {a0 : List Event} {s_a0 : Sl} {r : (List Int) × Int} (H : stamp_Stamps a0 = some r) (w0 : World) (F : Frz) (M L : List Item) (hM : M.Sublist L) (hs_a0 : Rd w0 F M s_a0 a0) : Ok Try.prog w0 19 [Sl.v s_a0] F (L) (fun _ L' v => ∃ (s1 : Sl), v = .tuple #[Sl.v s1, .int .i64 r.2] ∧ L' = (.own s1 3 1 (encs r.1)) :: L) := by
  unfold stamp_Stamps at H
  refine Ok.enter (m := 1) (n := 54) Try.func19 rfl rfl rfl (by decide) ?_
  refine Cd.env (e' := [(0, Sl.v s_a0)]) rfl ?_
  refine Cd.seq ?_
  refine Cd.region ?_
  refine Lst.addNil 3 1 ?_
  refine Lst.run rfl rfl (by decide) (Ev.assign rfl) ?_
  refine Lst.run rfl rfl (by decide) (Ev.assign rfl) ?_
  refine Lst.nil ?_
  refine At.then ?_
  refine Cd.seq ?_
  refine Cd.seq ?_
  refine Cd.region ?_
  refine Lst.run rfl rfl (by decide) (Ev.move rfl) ?_
  obtain ⟨r2, h3, H⟩ := bind_some H
  refine Lst.call1 rfl rfl (by decide) (vs := [Sl.v s_a0]) ⟨rfl, trivial⟩ Try.call22 (stamp_Check_sim h3 w0 _ M _ (List.Sublist.cons _ hM) (hs_a0.mono (FLe.refl _) (List.Sublist.refl _))) ?_
  refine Lst.run rfl rfl (by decide) (Ev.assign rfl) ?_
  refine Lst.nil ?_
  refine At.then ?_
  refine Cd.seq ?_
  refine Cd.region ?_
  refine Lst.run rfl rfl (by decide) (Ev.move rfl) ?_
  refine Lst.run rfl rfl (by decide) (Ev.neq rfl rfl) ?_
  refine Lst.nil ?_
  refine At.then ?_
  rcases Bool.eq_false_or_eq_true (r2 != (0 : Int)) with hb6 | hb6
  · replace H := ite_t hb6 H
    refine Cd.condT rfl hb6 ?_
    refine Cd.seq ?_
    refine Cd.region ?_
    refine Lst.run rfl rfl (by decide) (Ev.move rfl) ?_
    refine Lst.addNil 3 1 ?_
    refine Lst.run rfl rfl (by decide) (Ev.assign rfl) ?_
    refine Lst.run rfl rfl (by decide) (Ev.assign rfl) ?_
    refine Lst.nil ?_
    refine At.then ?_
    obtain rfl := some_inj H
    refine Cd.ret ?_
    refine At.then_ret ?_
    exact At.ret2 rfl (Res.tmp rfl) (Res.tmp rfl) (FLe.refl _) (List.Sublist.cons_cons _ (List.Sublist.cons _ (List.Sublist.refl _))) ⟨Sl.nil, rfl, rfl⟩
  replace H := ite_f hb6 H
  refine Cd.condF rfl hb6 ?_
  refine Cd.skip ?_
  refine At.then ?_
  refine Cd.seq ?_
  refine Cd.region ?_
  refine Lst.addNil 3 1 ?_
  refine Lst.run rfl rfl (by decide) (Ev.assign rfl) ?_
  refine Lst.nil ?_
  refine At.then ?_
  refine Cd.seq ?_
  refine Cd.region ?_
  refine Lst.alloc (cs := enc (Vector.replicate 6 (0 : Int))) rfl rfl (by decide) Try.zeroValue22 rfl (fun b9 => ?_)
  refine Lst.nil ?_
  refine At.then ?_
  refine Cd.seq ?_
  refine Cd.region ?_
  refine Lst.alloc (cs := enc (Vector.replicate 30 (0 : Int))) rfl rfl (by decide) Try.zeroValue76 rfl (fun b11 => ?_)
  refine Lst.nil ?_
  refine At.then ?_
  refine Cd.seq ?_
  refine Cd.seq ?_
  refine Cd.region ?_
  refine Lst.run rfl rfl (by decide) (Ev.move rfl) ?_
  refine Lst.run rfl rfl (by decide) (Ev.lenS (α := Event) (xs := a0) (by decide) rfl rfl Try.runUnderlying24 (hs_a0.mono (FLe.refl _) (List.Sublist.cons _ (List.Sublist.cons _ (List.Sublist.cons _ (List.Sublist.cons _ hM)))))) ?_
  refine Lst.run rfl rfl (by decide) (Ev.move rfl) ?_
  refine Lst.nil ?_
  refine At.then ?_
  refine Cd.block ?_
  refine Cd.bound (Rd.le (α := Event) (xs := a0) (by decide) (hs_a0.mono (FLe.refl _) (List.Sublist.cons _ (List.Sublist.cons _ (List.Sublist.cons _ (List.Sublist.cons _ hM)))))) (fun hN56 => ?_)
  obtain ⟨ol13, H, HKl13⟩ := bind_some H
  refine Cd.loop (σ := Nat × Nat × (Vector Int 30) × (Vector Int 6) × Sl × (List Int)) (fun (i13, k13, y14, y15, s16, l17) => [(5, Sl.v s16), (6, .pointer (some ⟨b9, 0, none⟩)), (7, .pointer (some ⟨b11, 0, none⟩)), (16, Sl.v s_a0), (17, .int .i64 (a0.length : Int)), (18, .int .i64 (i13 : Int))]) (fun (i13, k13, y14, y15, s16, l17) => (.blk b11 (enc y14) 76) :: (.blk b9 (enc y15) 22) :: (.own s16 3 1 (encs l17)) :: (.own Sl.nil 3 1 (encs ([] : List Int))) :: L) (fun _ => (fun (i13, k13, y14, y15, s16, l17) => rangeF (stamp_Stamps_B0 a0) k13 i13 (y14, y15, l17) = some ol13 ∧ i13 + k13 = a0.length)) (fun (i13, k13, y14, y15, s16, l17) => k13) (0, a0.length, (Vector.replicate 30 (0 : Int)), (Vector.replicate 6 (0 : Int)), Sl.nil, ([] : List Int)) ⟨rfl, rfl, rfl, rfl, rfl, rfl, trivial⟩ rfl ⟨H, by omega⟩ ?_
  rintro F18 ⟨i13, k13, y14, y15, s16, l17⟩ hF19 ⟨H, hik13⟩
  refine Cd.as (e' := [(5, Sl.v s16), (6, .pointer (some ⟨b9, 0, none⟩)), (7, .pointer (some ⟨b11, 0, none⟩)), (16, Sl.v s_a0), (17, .int .i64 (a0.length : Int)), (18, .int .i64 (i13 : Int))]) (L' := (.blk b11 (enc y14) 76) :: (.blk b9 (enc y15) 22) :: (.own s16 3 1 (encs l17)) :: (.own Sl.nil 3 1 (encs ([] : List Int))) :: L) ⟨rfl, rfl, rfl, rfl, rfl, rfl, trivial⟩ rfl ?_
  rcases k13 with _ | k13
  · have hc13 : decide ((i13 : Int) < (a0.length : Int)) = false := decide_eq_false (by omega)
    replace H := rangeF_end H
    refine Cd.seq ?_
    refine Cd.region ?_
    refine Lst.run rfl rfl (by decide) (Ev.lss rfl rfl) ?_
    refine Lst.nil ?_
    refine At.then ?_
    refine Cd.seq ?_
    refine Cd.condF rfl hc13 ?_
    refine Cd.exit ?_
    refine At.then_exit ?_
    refine At.then_exit ?_
    refine At.in_exit ?_
    subst H
    replace H := HKl13
    refine At.then ?_
    refine Cd.seq ?_
    refine Cd.region ?_
    refine Lst.run rfl rfl (by decide) (Ev.move rfl) ?_
    refine Lst.run rfl rfl (by decide) (Ev.assign rfl) ?_
    refine Lst.run rfl rfl (by decide) (Ev.assign rfl) ?_
    refine Lst.nil ?_
    refine At.then ?_
    obtain rfl := some_inj H
    refine Cd.ret ?_
    exact At.ret2 rfl (Res.tmp rfl) (Res.tmp rfl) hF19 (List.Sublist.cons _ (List.Sublist.cons _ (List.Sublist.cons_cons _ (List.Sublist.cons _ (List.Sublist.refl _))))) ⟨s16, rfl, rfl⟩
  have hc13 : decide ((i13 : Int) < (a0.length : Int)) = true := decide_eq_true (by omega)
  obtain ⟨c13, H, hgo13⟩ := rangeF_go H
  unfold stamp_Stamps_B0 at H
  try dsimp only at H
  refine Cd.seq ?_
  refine Cd.region ?_
  refine Lst.run rfl rfl (by decide) (Ev.lss rfl rfl) ?_
  refine Lst.nil ?_
  refine At.then ?_
  refine Cd.seq ?_
  refine Cd.condT rfl hc13 ?_
  refine Cd.skip ?_
  refine At.then ?_
  refine Cd.seq ?_
  refine Cd.block ?_
  refine Cd.seq ?_
  refine Cd.region ?_
  obtain ⟨x20, h21, H⟩ := bind_some H
  have g22 := lat_some h21
  refine Lst.run rfl rfl (by decide) (Ev.indexS (α := Event) (xs := a0) rfl rfl Try.runUnderlying24 Try.sizeOf75 rfl (by decide) (hs_a0.mono hF19 (List.Sublist.cons _ (List.Sublist.cons _ (List.Sublist.cons _ (List.Sublist.cons _ hM))))) g22.1 g22.2.1) ?_
  refine Lst.run rfl rfl (by decide) (Ev.loadSA (α := Event) rfl (hs_a0.mono hF19 (List.Sublist.cons _ (List.Sublist.cons _ (List.Sublist.cons _ (List.Sublist.cons _ hM))))) Try.isAgg75 Try.sizeOf75 (ch := enc x20) (Enc.len _) (by decide) ((Get.elemN (s := 3) (x := x20) rfl g22.2.2 (Get.here _)).off (by omega))) ?_
  refine Lst.alloc (cs := enc Event.zero) rfl rfl (by decide) Try.zeroValue75 rfl (fun b23 => ?_)
  refine Lst.store (i := 0) rfl rfl rfl rfl rfl Try.sizeOf75 (vs := enc x20) rfl (Enc.len _) (Enc.one _) (cs' := enc x20) (Put.here ((Enc.len _).trans (Enc.len _).symm)) (L' := (.blk b23 (enc x20) 75) :: (.blk b11 (enc y14) 76) :: (.blk b9 (enc y15) 22) :: (.own s16 3 1 (encs l17)) :: (.own Sl.nil 3 1 (encs ([] : List Int))) :: L) rfl ?_
  refine Lst.nil ?_
  refine At.then ?_
  refine Cd.seq ?_
  refine Cd.region ?_
  refine Lst.run rfl rfl (by decide) (Ev.fieldAddr (off' := 0) rfl Try.runUnderlying75 rfl Try.sizeOf3 rfl rfl) ?_
  refine Lst.run rfl rfl (by decide) (Ev.load (i := 0) rfl rfl Try.isAgg3 (v := .int .i64 x20.Proc) ((Event.get_Proc (Get.here _)).off (by rfl))) ?_
  obtain ⟨x25, h26, H⟩ := bind_some H
  have g27 := vat_some h26
  refine Lst.run rfl rfl (by decide) (Ev.indexAddr (off' := 0 + x20.Proc.toNat * 1) rfl rfl Try.runUnderlying22 Try.sizeOf3 g27.1 g27.2.1 rfl) ?_
  refine Lst.run rfl rfl (by decide) (Ev.load (i := 2) rfl rfl Try.isAgg3 (v := .int .i64 x25) ((Get.vecN (s := 1) (x := x25) rfl g27.2.2 (Get.here _)).off (by omega))) ?_
  refine Lst.run rfl rfl (by decide) (Ev.assign rfl) ?_
  refine Lst.nil ?_
  refine At.then ?_
  obtain ⟨o29, H, HKo29⟩ := bind_some H
  refine Cd.join (σ := Int) (fun y28 => [(5, Sl.v s16), (6, .pointer (some ⟨b9, 0, none⟩)), (7, .pointer (some ⟨b11, 0, none⟩)), (9, .pointer (some ⟨b23, 0, none⟩)), (10, .int .i64 y28), (16, Sl.v s_a0), (17, .int .i64 (a0.length : Int)), (18, .int .i64 (i13 : Int))]) (fun y28 => (.blk b23 (enc x20) 75) :: (.blk b11 (enc y14) 76) :: (.blk b9 (enc y15) 22) :: (.own s16 3 1 (encs l17)) :: (.own Sl.nil 3 1 (encs ([] : List Int))) :: L) (fun _ y28 => y28 = o29) ?_ ?_
  · refine Cd.seq ?_
    refine Cd.region ?_
    refine Lst.run rfl rfl (by decide) (Ev.fieldAddr (off' := 1) rfl Try.runUnderlying75 rfl Try.sizeOf3 rfl rfl) ?_
    refine Lst.run rfl rfl (by decide) (Ev.load (i := 0) rfl rfl Try.isAgg3 (v := .int .i64 x20.Kind) ((Event.get_Kind (Get.here _)).off (by rfl))) ?_
    refine Lst.run rfl rfl (by decide) (Ev.eql rfl rfl) ?_
    refine Lst.nil ?_
    refine At.then ?_
    rcases (Bool.eq_false_or_eq_true (x20.Kind == (3 : Int))).symm with hb30 | hb30
    · replace H := ite_f hb30 H
      refine Cd.condF rfl hb30 ?_
      refine Cd.skip ?_
      exact At.meet x25 (FLe.refl _) ⟨rfl, rfl, rfl, rfl, rfl, rfl, rfl, rfl, trivial⟩ rfl (some_inj H)
    replace H := ite_t hb30 H
    refine Cd.condT rfl hb30 ?_
    refine Cd.region ?_
    refine Lst.run rfl rfl (by decide) (Ev.move rfl) ?_
    refine Lst.run rfl rfl (by decide) (Ev.fieldAddr (off' := 2) rfl Try.runUnderlying75 rfl Try.sizeOf3 rfl rfl) ?_
    refine Lst.run rfl rfl (by decide) (Ev.load (i := 0) rfl rfl Try.isAgg3 (v := .int .i64 x20.Msg) ((Event.get_Msg (Get.here _)).off (by rfl))) ?_
    obtain ⟨x31, h32, H⟩ := bind_some H
    have g33 := vat_some h32
    refine Lst.run rfl rfl (by decide) (Ev.indexAddr (off' := 0 + x20.Msg.toNat * 1) rfl rfl Try.runUnderlying76 Try.sizeOf3 g33.1 g33.2.1 rfl) ?_
    refine Lst.run rfl rfl (by decide) (Ev.load (i := 1) rfl rfl Try.isAgg3 (v := .int .i64 x31) ((Get.vecN (s := 1) (x := x31) rfl g33.2.2 (Get.here _)).off (by omega))) ?_
    refine Lst.run rfl rfl (by decide) (Ev.max2 rfl rfl) ?_
    refine Lst.run rfl rfl (by decide) (Ev.assign rfl) ?_
    refine Lst.nil ?_
    exact At.meet (max x25 x31) (FLe.refl _) ⟨rfl, rfl, rfl, rfl, rfl, rfl, rfl, rfl, trivial⟩ rfl (some_inj H)
  rintro F34 y28 hF35 hy
  subst hy
  refine Cd.as (e' := [(5, Sl.v s16), (6, .pointer (some ⟨b9, 0, none⟩)), (7, .pointer (some ⟨b11, 0, none⟩)), (9, .pointer (some ⟨b23, 0, none⟩)), (10, .int .i64 y28), (16, Sl.v s_a0), (17, .int .i64 (a0.length : Int)), (18, .int .i64 (i13 : Int))]) (L' := (.blk b23 (enc x20) 75) :: (.blk b11 (enc y14) 76) :: (.blk b9 (enc y15) 22) :: (.own s16 3 1 (encs l17)) :: (.own Sl.nil 3 1 (encs ([] : List Int))) :: L) ⟨rfl, rfl, rfl, rfl, rfl, rfl, rfl, rfl, trivial⟩ rfl ?_
  replace H := HKo29
  refine Cd.seq ?_
  refine Cd.region ?_
  refine Lst.run rfl rfl (by decide) (Ev.move rfl) ?_
  refine Lst.run rfl rfl (by decide) (Ev.add rfl rfl) ?_
  refine Lst.run rfl rfl (by decide) (Ev.assign rfl) ?_
  refine Lst.nil ?_
  refine At.then ?_
  refine Cd.seq ?_
  refine Cd.region ?_
  refine Lst.run rfl rfl (by decide) (Ev.fieldAddr (off' := 0) rfl Try.runUnderlying75 rfl Try.sizeOf3 rfl rfl) ?_
  refine Lst.run rfl rfl (by decide) (Ev.load (i := 0) rfl rfl Try.isAgg3 (v := .int .i64 x20.Proc) ((Event.get_Proc (Get.here _)).off (by rfl))) ?_
  refine Lst.run rfl rfl (by decide) (Ev.move rfl) ?_
  obtain ⟨x36, h37, H⟩ := bind_some H
  have g38 := vat_some h37
  refine Lst.run rfl rfl (by decide) (Ev.indexAddr (off' := 0 + x20.Proc.toNat * 1) rfl rfl Try.runUnderlying22 Try.sizeOf3 g38.1 g38.2.1 rfl) ?_
  obtain ⟨p39, h40, H⟩ := Let_some H
  refine Lst.store (i := 2) rfl rfl rfl rfl rfl Try.sizeOf3 (vs := [.int .i64 (w64 (y28 + (1 : Int)))]) rfl rfl rfl (cs' := enc p39) (by rw [← h40]; exact (Put.vecN (s := 1) (x := x36) rfl g38.2.2 (Put.here (vs := [.int .i64 (w64 (y28 + (1 : Int)))]) rfl)).off (by omega)) (L' := (.blk b23 (enc x20) 75) :: (.blk b11 (enc y14) 76) :: (.blk b9 (enc p39) 22) :: (.own s16 3 1 (encs l17)) :: (.own Sl.nil 3 1 (encs ([] : List Int))) :: L) rfl ?_
  refine Lst.nil ?_
  refine At.then ?_
  obtain ⟨o42, H, HKo42⟩ := bind_some H
  refine Cd.join (σ := (Vector Int 30)) (fun y41 => [(5, Sl.v s16), (6, .pointer (some ⟨b9, 0, none⟩)), (7, .pointer (some ⟨b11, 0, none⟩)), (10, .int .i64 (w64 (y28 + (1 : Int)))), (16, Sl.v s_a0), (17, .int .i64 (a0.length : Int)), (18, .int .i64 (i13 : Int))]) (fun y41 => (.blk b23 (enc x20) 75) :: (.blk b11 (enc y41) 76) :: (.blk b9 (enc p39) 22) :: (.own s16 3 1 (encs l17)) :: (.own Sl.nil 3 1 (encs ([] : List Int))) :: L) (fun _ y41 => y41 = o42) ?_ ?_
  · refine Cd.seq ?_
    refine Cd.region ?_
    refine Lst.run rfl rfl (by decide) (Ev.fieldAddr (off' := 1) rfl Try.runUnderlying75 rfl Try.sizeOf3 rfl rfl) ?_
    refine Lst.run rfl rfl (by decide) (Ev.load (i := 0) rfl rfl Try.isAgg3 (v := .int .i64 x20.Kind) ((Event.get_Kind (Get.here _)).off (by rfl))) ?_
    refine Lst.run rfl rfl (by decide) (Ev.eql rfl rfl) ?_
    refine Lst.nil ?_
    refine At.then ?_
    rcases (Bool.eq_false_or_eq_true (x20.Kind == (2 : Int))).symm with hb43 | hb43
    · replace H := ite_f hb43 H
      refine Cd.condF rfl hb43 ?_
      refine Cd.skip ?_
      exact At.meet y14 (FLe.refl _) ⟨rfl, rfl, rfl, rfl, rfl, rfl, rfl, trivial⟩ rfl (some_inj H)
    replace H := ite_t hb43 H
    refine Cd.condT rfl hb43 ?_
    refine Cd.region ?_
    refine Lst.run rfl rfl (by decide) (Ev.fieldAddr (off' := 2) rfl Try.runUnderlying75 rfl Try.sizeOf3 rfl rfl) ?_
    refine Lst.run rfl rfl (by decide) (Ev.load (i := 0) rfl rfl Try.isAgg3 (v := .int .i64 x20.Msg) ((Event.get_Msg (Get.here _)).off (by rfl))) ?_
    refine Lst.run rfl rfl (by decide) (Ev.move rfl) ?_
    obtain ⟨x44, h45, H⟩ := bind_some H
    have g46 := vat_some h45
    refine Lst.run rfl rfl (by decide) (Ev.indexAddr (off' := 0 + x20.Msg.toNat * 1) rfl rfl Try.runUnderlying76 Try.sizeOf3 g46.1 g46.2.1 rfl) ?_
    obtain ⟨p47, h48, H⟩ := Let_some H
    refine Lst.store (i := 1) rfl rfl rfl rfl rfl Try.sizeOf3 (vs := [.int .i64 (w64 (y28 + (1 : Int)))]) rfl rfl rfl (cs' := enc p47) (by rw [← h48]; exact (Put.vecN (s := 1) (x := x44) rfl g46.2.2 (Put.here (vs := [.int .i64 (w64 (y28 + (1 : Int)))]) rfl)).off (by omega)) (L' := (.blk b23 (enc x20) 75) :: (.blk b11 (enc p47) 76) :: (.blk b9 (enc p39) 22) :: (.own s16 3 1 (encs l17)) :: (.own Sl.nil 3 1 (encs ([] : List Int))) :: L) rfl ?_
    refine Lst.nil ?_
    exact At.meet p47 (FLe.refl _) ⟨rfl, rfl, rfl, rfl, rfl, rfl, rfl, trivial⟩ rfl (some_inj H)
  rintro F49 y41 hF50 hy
  subst hy
  refine Cd.as (e' := [(5, Sl.v s16), (6, .pointer (some ⟨b9, 0, none⟩)), (7, .pointer (some ⟨b11, 0, none⟩)), (10, .int .i64 (w64 (y28 + (1 : Int)))), (16, Sl.v s_a0), (17, .int .i64 (a0.length : Int)), (18, .int .i64 (i13 : Int))]) (L' := (.blk b23 (enc x20) 75) :: (.blk b11 (enc y41) 76) :: (.blk b9 (enc p39) 22) :: (.own s16 3 1 (encs l17)) :: (.own Sl.nil 3 1 (encs ([] : List Int))) :: L) ⟨rfl, rfl, rfl, rfl, rfl, rfl, rfl, trivial⟩ rfl ?_
  replace H := HKo42
  refine Cd.region ?_
  refine Lst.run rfl rfl (by decide) (Ev.move rfl) ?_
  refine Lst.run rfl rfl (by decide) (Ev.move rfl) ?_
  refine Lst.buildSlice (α := Int) (xs := ([w64 (y28 + (1 : Int))] : List Int)) (pv := [(0, .int .i64 (w64 (y28 + (1 : Int))))]) rfl rfl (by decide) ⟨rfl, rfl, trivial⟩ (run_buildSlice (α := Int) (z0 := (0 : Int)) (xs := ([w64 (y28 + (1 : Int))] : List Int)) Try.runUnderlying36 Try.sizeOf3 Try.zeroValue3 rfl rfl rfl (by decide) rfl (fill_cons (cs := encs (List.replicate 1 (0 : Int))) (cs' := encs ((List.replicate 1 (0 : Int)).set 0 (w64 (y28 + (1 : Int))))) (vs := [.int .i64 (w64 (y28 + (1 : Int)))]) rfl rfl rfl ((Put.elemN (s := 1) (i := 0) (x := (0 : Int)) (y := (w64 (y28 + (1 : Int)))) rfl rfl (Put.here (vs := [.int .i64 (w64 (y28 + (1 : Int)))]) rfl)).off rfl) fill_nil)) rfl rfl (by decide) (fun s51 _ => ?_)
  obtain ⟨u53, h54, H⟩ := bind_some H
  refine Lst.append (i := 4) (α := Int) (xs := l17) (ys := ([w64 (y28 + (1 : Int))] : List Int)) rfl rfl (by decide) rfl rfl Try.runUnderlying36 Try.typeInfo3 rfl rfl rfl rfl rfl rfl (Rd.own (i := 0) rfl rfl rfl) rfl (room_some h54) rfl (fun s55 => ?_)
  refine Lst.its (L' := (.own s51 3 1 (encs ([w64 (y28 + (1 : Int))] : List Int))) :: (.blk b23 (enc x20) 75) :: (.blk b11 (enc y41) 76) :: (.blk b9 (enc p39) 22) :: (.own s55 3 1 (encs (l17 ++ ([w64 (y28 + (1 : Int))] : List Int)))) :: (.own Sl.nil 3 1 (encs ([] : List Int))) :: L) rfl ?_
  refine Lst.run rfl rfl (by decide) (Ev.assign rfl) ?_
  refine Lst.nil ?_
  refine At.in_normal ?_
  refine At.then ?_
  refine Cd.region ?_
  refine Lst.run rfl rfl (by decide) (Ev.incr (by omega) rfl rfl) ?_
  refine Lst.run rfl rfl (by decide) (Ev.move rfl) ?_
  refine Lst.nil ?_
  refine At.less (L' := (.blk b11 (enc y41) 76) :: (.blk b9 (enc p39) 22) :: (.own s55 3 1 (encs (l17 ++ ([w64 (y28 + (1 : Int))] : List Int)))) :: (.own Sl.nil 3 1 (encs ([] : List Int))) :: L) (List.Sublist.cons _ (List.Sublist.cons _ (List.Sublist.cons_cons _ (List.Sublist.cons_cons _ (List.Sublist.cons_cons _ (List.Sublist.cons_cons _ (List.Sublist.refl _))))))) ?_
  exact At.meet (i13 + 1, k13, y41, p39, s55, l17 ++ ([w64 (y28 + (1 : Int))] : List Int)) (FLe.trans (FLe.trans hF19 hF35) hF50) ⟨rfl, rfl, rfl, rfl, rfl, rfl, trivial⟩ rfl ⟨⟨hgo13 _ (some_inj H).symm, by omega⟩, Nat.lt_succ_self _⟩
set_option maxRecDepth 20000 in
theorem vect_Within_sim {a0 : Vector Int 6} {a1 : Vector Int 6} {r : Bool} (H : vect_Within a0 a1 = some r) (w0 : World) (F : Frz) (M L : List Item) (hM : M.Sublist L) : Ok Try.prog w0 14 [.agg (enc a0).toArray, .agg (enc a1).toArray] F (L) (Is (.bool r) (L)) := by
  unfold vect_Within at H
  refine Ok.enter (m := 2) (n := 10) Try.func14 rfl rfl rfl (by decide) ?_
  refine Cd.env (e' := [(0, .agg (enc a0).toArray), (1, .agg (enc a1).toArray)]) rfl ?_
  refine Cd.seq ?_
  refine Cd.region ?_
  refine Lst.box rfl rfl (by decide) rfl (cs := enc a0) rfl (fun b1 => ?_)
  refine Lst.box rfl rfl (by decide) rfl (cs := enc a1) rfl (fun b3 => ?_)
  refine Lst.run rfl rfl (by decide) (Ev.assign rfl) ?_
  refine Lst.nil ?_
  refine At.then ?_
  refine Cd.seq ?_
  refine Cd.quiet (by kernel_rfl) (by kernel_rfl) ?_
  refine Qt.run rfl rfl (by decide) (Ev.loadA (i := 1) rfl rfl Try.isAgg23 Try.sizeOf23 (ch := enc a0) (Enc.len _) (Get.here _)) ?_
  refine Qt.run rfl rfl (by decide) (Ev.loadA (i := 0) rfl rfl Try.isAgg23 Try.sizeOf23 (ch := enc a1) (Enc.len _) (Get.here _)) ?_
  obtain ⟨r5, h6, H⟩ := bind_some H
  refine Qt.call rfl rfl (by decide) (vs := [.agg (enc a0).toArray, .agg (enc a1).toArray]) ⟨rfl, rfl, trivial⟩ Try.call10 (vect_Max_sim h6 w0 _ M _ (List.Sublist.cons _ (List.Sublist.cons _ hM))) ?_
  refine Qt.run rfl rfl (by decide) (Ev.loadA (i := 0) rfl rfl Try.isAgg23 Try.sizeOf23 (ch := enc a1) (Enc.len _) (Get.here _)) ?_
  refine Qt.run rfl rfl (by decide) (Ev.eqlA rfl rfl (by kernel_rfl) (eq23 _ _)) ?_
  refine Qt.run rfl rfl (by decide) (Ev.assign rfl) ?_
  refine Qt.done ?_
  refine At.then ?_
  obtain rfl := some_inj H
  refine Cd.ret ?_
  exact At.ret1 rfl (Res.tmp rfl) (FLe.refl _) (List.Sublist.cons _ (List.Sublist.cons _ (List.Sublist.refl _))) ⟨rfl, rfl⟩
set_option maxRecDepth 20000 in
theorem cut_counts_sim {a0 : List Event} {s_a0 : Sl} {r : (Vector Int 6)} (H : cut_counts a0 = some r) (w0 : World) (F : Frz) (M L : List Item) (hM : M.Sublist L) (hs_a0 : Rd w0 F M s_a0 a0) : Ok Try.prog w0 57 [Sl.v s_a0] F (L) (Is (.agg (enc r).toArray) (L)) := by
  unfold cut_counts at H
  refine Ok.enter (m := 1) (n := 20) Try.func57 rfl rfl rfl (by decide) ?_
  refine Cd.env (e' := [(0, Sl.v s_a0)]) rfl ?_
  refine Cd.seq ?_
  refine Cd.region ?_
  refine Lst.alloc (cs := enc (Vector.replicate 6 (0 : Int))) rfl rfl (by decide) Try.zeroValue23 rfl (fun b1 => ?_)
  refine Lst.nil ?_
  refine At.then ?_
  refine Cd.seq ?_
  refine Cd.region ?_
  refine Lst.alloc (cs := enc (Vector.replicate 6 (0 : Int))) rfl rfl (by decide) Try.zeroValue23 rfl (fun b3 => ?_)
  refine Lst.nil ?_
  refine At.then ?_
  refine Cd.seq ?_
  refine Cd.seq ?_
  refine Cd.region ?_
  refine Lst.run rfl rfl (by decide) (Ev.move rfl) ?_
  refine Lst.run rfl rfl (by decide) (Ev.lenS (α := Event) (xs := a0) (by decide) rfl rfl Try.runUnderlying24 (hs_a0.mono (FLe.refl _) (List.Sublist.cons _ (List.Sublist.cons _ hM)))) ?_
  refine Lst.run rfl rfl (by decide) (Ev.move rfl) ?_
  refine Lst.nil ?_
  refine At.then ?_
  refine Cd.block ?_
  refine Cd.bound (Rd.le (α := Event) (xs := a0) (by decide) (hs_a0.mono (FLe.refl _) (List.Sublist.cons _ (List.Sublist.cons _ hM)))) (fun hN22 => ?_)
  obtain ⟨ol5, H, HKl5⟩ := bind_some H
  refine Cd.loop (σ := Nat × Nat × (Vector Int 6)) (fun (i5, k5, y6) => [(2, .pointer (some ⟨b1, 0, none⟩)), (3, .pointer (some ⟨b3, 0, none⟩)), (6, Sl.v s_a0), (7, .int .i64 (a0.length : Int)), (8, .int .i64 (i5 : Int))]) (fun (i5, k5, y6) => (.blk b3 (enc y6) 23) :: (.blk b1 (enc (Vector.replicate 6 (0 : Int))) 23) :: L) (fun _ => (fun (i5, k5, y6) => rangeF (cut_counts_B0 a0) k5 i5 y6 = some ol5 ∧ i5 + k5 = a0.length)) (fun (i5, k5, y6) => k5) (0, a0.length, (Vector.replicate 6 (0 : Int))) ⟨rfl, rfl, rfl, rfl, rfl, trivial⟩ rfl ⟨H, by omega⟩ ?_
  rintro F7 ⟨i5, k5, y6⟩ hF8 ⟨H, hik5⟩
  refine Cd.as (e' := [(2, .pointer (some ⟨b1, 0, none⟩)), (3, .pointer (some ⟨b3, 0, none⟩)), (6, Sl.v s_a0), (7, .int .i64 (a0.length : Int)), (8, .int .i64 (i5 : Int))]) (L' := (.blk b3 (enc y6) 23) :: (.blk b1 (enc (Vector.replicate 6 (0 : Int))) 23) :: L) ⟨rfl, rfl, rfl, rfl, rfl, trivial⟩ rfl ?_
  rcases k5 with _ | k5
  · have hc5 : decide ((i5 : Int) < (a0.length : Int)) = false := decide_eq_false (by omega)
    replace H := rangeF_end H
    refine Cd.seq ?_
    refine Cd.region ?_
    refine Lst.run rfl rfl (by decide) (Ev.lss rfl rfl) ?_
    refine Lst.nil ?_
    refine At.then ?_
    refine Cd.seq ?_
    refine Cd.condF rfl hc5 ?_
    refine Cd.exit ?_
    refine At.then_exit ?_
    refine At.then_exit ?_
    refine At.in_exit ?_
    subst H
    replace H := HKl5
    refine At.then ?_
    refine Cd.seq ?_
    refine Cd.region ?_
    refine Lst.run rfl rfl (by decide) (Ev.loadA (i := 0) rfl rfl Try.isAgg23 Try.sizeOf23 (ch := enc y6) (Enc.len _) (Get.here _)) ?_
    refine Lst.store (i := 1) rfl rfl rfl rfl rfl Try.sizeOf23 (vs := enc y6) rfl (Enc.len _) (Enc.one _) (cs' := enc y6) (Put.here ((Enc.len _).trans (Enc.len _).symm)) (L' := (.blk b3 (enc y6) 23) :: (.blk b1 (enc y6) 23) :: L) rfl ?_
    refine Lst.nil ?_
    refine At.then ?_
    obtain rfl := some_inj H
    refine Cd.ret ?_
    exact At.ret1 rfl (Res.cellA (i := 1) rfl rfl Try.isAgg23 Try.sizeOf23 (Enc.len _)) hF8 (List.Sublist.cons _ (List.Sublist.cons _ (List.Sublist.refl _))) ⟨rfl, rfl⟩
  have hc5 : decide ((i5 : Int) < (a0.length : Int)) = true := decide_eq_true (by omega)
  obtain ⟨c5, H, hgo5⟩ := rangeF_go H
  unfold cut_counts_B0 at H
  try dsimp only at H
  refine Cd.seq ?_
  refine Cd.region ?_
  refine Lst.run rfl rfl (by decide) (Ev.lss rfl rfl) ?_
  refine Lst.nil ?_
  refine At.then ?_
  refine Cd.seq ?_
  refine Cd.condT rfl hc5 ?_
  refine Cd.skip ?_
  refine At.then ?_
  refine Cd.seq ?_
  refine Cd.block ?_
  refine Cd.seq ?_
  refine Cd.region ?_
  obtain ⟨x9, h10, H⟩ := bind_some H
  have g11 := lat_some h10
  refine Lst.run rfl rfl (by decide) (Ev.indexS (α := Event) (xs := a0) rfl rfl Try.runUnderlying24 Try.sizeOf75 rfl (by decide) (hs_a0.mono hF8 (List.Sublist.cons _ (List.Sublist.cons _ hM))) g11.1 g11.2.1) ?_
  refine Lst.run rfl rfl (by decide) (Ev.loadSA (α := Event) rfl (hs_a0.mono hF8 (List.Sublist.cons _ (List.Sublist.cons _ hM))) Try.isAgg75 Try.sizeOf75 (ch := enc x9) (Enc.len _) (by decide) ((Get.elemN (s := 3) (x := x9) rfl g11.2.2 (Get.here _)).off (by omega))) ?_
  refine Lst.alloc (cs := enc Event.zero) rfl rfl (by decide) Try.zeroValue75 rfl (fun b12 => ?_)
  refine Lst.store (i := 0) rfl rfl rfl rfl rfl Try.sizeOf75 (vs := enc x9) rfl (Enc.len _) (Enc.one _) (cs' := enc x9) (Put.here ((Enc.len _).trans (Enc.len _).symm)) (L' := (.blk b12 (enc x9) 75) :: (.blk b3 (enc y6) 23) :: (.blk b1 (enc (Vector.replicate 6 (0 : Int))) 23) :: L) rfl ?_
  refine Lst.nil ?_
  refine At.then ?_
  refine Cd.region ?_
  refine Lst.run rfl rfl (by decide) (Ev.fieldAddr (off' := 0) rfl Try.runUnderlying75 rfl Try.sizeOf3 rfl rfl) ?_
  refine Lst.run rfl rfl (by decide) (Ev.load (i := 0) rfl rfl Try.isAgg3 (v := .int .i64 x9.Proc) ((Event.get_Proc (Get.here _)).off (by rfl))) ?_
  obtain ⟨x14, h15, H⟩ := bind_some H
  have g16 := vat_some h15
  refine Lst.run rfl rfl (by decide) (Ev.indexAddr (off' := 0 + x9.Proc.toNat * 1) rfl rfl Try.runUnderlying23 Try.sizeOf3 g16.1 g16.2.1 rfl) ?_
  refine Lst.run rfl rfl (by decide) (Ev.load (i := 1) rfl rfl Try.isAgg3 (v := .int .i64 x14) ((Get.vecN (s := 1) (x := x14) rfl g16.2.2 (Get.here _)).off (by omega))) ?_
  refine Lst.run rfl rfl (by decide) (Ev.add rfl rfl) ?_
  obtain ⟨x17, h18, H⟩ := bind_some H
  have g19 := vat_some h18
  refine Lst.run rfl rfl (by decide) (Ev.indexAddr (off' := 0 + x9.Proc.toNat * 1) rfl rfl Try.runUnderlying23 Try.sizeOf3 g19.1 g19.2.1 rfl) ?_
  obtain ⟨p20, h21, H⟩ := Let_some H
  refine Lst.store (i := 1) rfl rfl rfl rfl rfl Try.sizeOf3 (vs := [.int .i64 (w64 (x14 + (1 : Int)))]) rfl rfl rfl (cs' := enc p20) (by rw [← h21]; exact (Put.vecN (s := 1) (x := x17) rfl g19.2.2 (Put.here (vs := [.int .i64 (w64 (x14 + (1 : Int)))]) rfl)).off (by omega)) (L' := (.blk b12 (enc x9) 75) :: (.blk b3 (enc p20) 23) :: (.blk b1 (enc (Vector.replicate 6 (0 : Int))) 23) :: L) rfl ?_
  refine Lst.nil ?_
  refine At.in_normal ?_
  refine At.then ?_
  refine Cd.region ?_
  refine Lst.run rfl rfl (by decide) (Ev.incr (by omega) rfl rfl) ?_
  refine Lst.run rfl rfl (by decide) (Ev.move rfl) ?_
  refine Lst.nil ?_
  refine At.less (L' := (.blk b3 (enc p20) 23) :: (.blk b1 (enc (Vector.replicate 6 (0 : Int))) 23) :: L) (List.Sublist.cons _ (List.Sublist.cons_cons _ (List.Sublist.cons_cons _ (List.Sublist.refl _)))) ?_
  exact At.meet (i5 + 1, k5, p20) hF8 ⟨rfl, rfl, rfl, rfl, rfl, trivial⟩ rfl ⟨⟨hgo5 _ (some_inj H).symm, by omega⟩, Nat.lt_succ_self _⟩
set_option maxRecDepth 20000 in
theorem cut_Check_sim {a0 : List Event} {a1 : Vector Int 6} {s_a0 : Sl} {r : Int} (H : cut_Check a0 a1 = some r) (w0 : World) (F : Frz) (M L : List Item) (hM : M.Sublist L) (hs_a0 : Rd w0 F M s_a0 a0) : Ok Try.prog w0 32 [Sl.v s_a0, .agg (enc a1).toArray] F (L) (Is (.int .i64 r) (L)) := by
  unfold cut_Check at H
  refine Ok.enter (m := 2) (n := 22) Try.func32 rfl rfl rfl (by decide) ?_
  refine Cd.env (e' := [(0, Sl.v s_a0), (1, .agg (enc a1).toArray)]) rfl ?_
  refine Cd.seq ?_
  refine Cd.region ?_
  refine Lst.box rfl rfl (by decide) rfl (cs := enc a1) rfl (fun b1 => ?_)
  refine Lst.run rfl rfl (by decide) (Ev.assign rfl) ?_
  refine Lst.nil ?_
  refine At.then ?_
  refine Cd.seq ?_
  refine Cd.seq ?_
  refine Cd.region ?_
  refine Lst.run rfl rfl (by decide) (Ev.move rfl) ?_
  obtain ⟨r3, h4, H⟩ := bind_some H
  refine Lst.call1 rfl rfl (by decide) (vs := [Sl.v s_a0]) ⟨rfl, trivial⟩ Try.call22 (stamp_Check_sim h4 w0 _ M _ (List.Sublist.cons _ hM) (hs_a0.mono (FLe.refl _) (List.Sublist.refl _))) ?_
  refine Lst.run rfl rfl (by decide) (Ev.assign rfl) ?_
  refine Lst.nil ?_
  refine At.then ?_
  refine Cd.seq ?_
  refine Cd.region ?_
  refine Lst.run rfl rfl (by decide) (Ev.move rfl) ?_
  refine Lst.run rfl rfl (by decide) (Ev.neq rfl rfl) ?_
  refine Lst.nil ?_
  refine At.then ?_
  rcases Bool.eq_false_or_eq_true (r3 != (0 : Int)) with hb7 | hb7
  · replace H := ite_t hb7 H
    refine Cd.condT rfl hb7 ?_
    refine Cd.seq ?_
    refine Cd.region ?_
    refine Lst.run rfl rfl (by decide) (Ev.move rfl) ?_
    refine Lst.run rfl rfl (by decide) (Ev.assign rfl) ?_
    refine Lst.nil ?_
    refine At.then ?_
    obtain rfl := some_inj H
    refine Cd.ret ?_
    refine At.then_ret ?_
    exact At.ret1 rfl (Res.tmp rfl) (FLe.refl _) (List.Sublist.cons _ (List.Sublist.refl _)) ⟨rfl, rfl⟩
  replace H := ite_f hb7 H
  refine Cd.condF rfl hb7 ?_
  refine Cd.skip ?_
  refine At.then ?_
  refine Cd.seq ?_
  refine Cd.seq ?_
  refine Cd.quiet (by kernel_rfl) (by kernel_rfl) ?_
  refine Qt.run rfl rfl (by decide) (Ev.build (v := .agg (enc ((Vector.replicate 6 (0 : Int)) : Vector Int 6)).toArray) (pv := []) trivial (fun w => by kernel_rfl)) ?_
  refine Qt.run rfl rfl (by decide) (Ev.loadA (i := 0) rfl rfl Try.isAgg23 Try.sizeOf23 (ch := enc a1) (Enc.len _) (Get.here _)) ?_
  obtain ⟨r8, h9, H⟩ := bind_some H
  refine Qt.call rfl rfl (by decide) (vs := [.agg (enc ((Vector.replicate 6 (0 : Int)) : Vector Int 6)).toArray, .agg (enc a1).toArray]) ⟨rfl, rfl, trivial⟩ Try.call14 (vect_Within_sim h9 w0 _ M _ (List.Sublist.cons _ hM)) ?_
  refine Qt.run rfl rfl (by decide) (Ev.not rfl) ?_
  refine Qt.run rfl rfl (by decide) (Ev.move rfl) ?_
  obtain ⟨o12, H, HKo12⟩ := bind_some H
  refine Qt.join (σ := Bool) 6 (fun y13 => [(21, .bool y13)]) (fun y13 => y13 = o12) ?_ ?_
  · rcases Bool.eq_false_or_eq_true (!r8) with hb14 | hb14
    · replace H := ite_t hb14 H
      refine Qt.skip rfl rfl rfl hb14 rfl (by decide) ?_
      refine Qt.skip rfl rfl rfl hb14 rfl (by decide) ?_
      refine Qt.skip rfl rfl rfl hb14 rfl (by decide) ?_
      refine Qt.skip rfl rfl rfl hb14 rfl (by decide) ?_
      refine Qt.skip rfl rfl rfl hb14 rfl (by decide) ?_
      refine Qt.run rfl rfl (by decide) (Ev.pickT rfl hb14 rfl) ?_
      exact Qt.meet true ⟨rfl, trivial⟩ (some_inj H)
    replace H := ite_f hb14 H
    refine Qt.runG rfl rfl rfl hb14 rfl (by decide) (Ev.loadA (i := 0) rfl rfl Try.isAgg23 Try.sizeOf23 (ch := enc a1) (Enc.len _) (Get.here _)) ?_
    refine Qt.runG rfl rfl rfl hb14 rfl (by decide) (Ev.move rfl) ?_
    obtain ⟨r15, h16, H⟩ := bind_some H
    refine Qt.callG rfl rfl rfl hb14 rfl (by decide) (vs := [Sl.v s_a0]) ⟨rfl, trivial⟩ Try.call57 (cut_counts_sim h16 w0 _ M _ (List.Sublist.cons _ hM) (hs_a0.mono (FLe.refl _) (List.Sublist.refl _))) ?_
    obtain ⟨r19, h20, H⟩ := bind_some H
    refine Qt.callG rfl rfl rfl hb14 rfl (by decide) (vs := [.agg (enc a1).toArray, .agg (enc r15).toArray]) ⟨rfl, rfl, trivial⟩ Try.call14 (vect_Within_sim h20 w0 _ M _ (List.Sublist.cons _ hM)) ?_
    refine Qt.runG rfl rfl rfl hb14 rfl (by decide) (Ev.not rfl) ?_
    refine Qt.run rfl rfl (by decide) (Ev.pickF rfl hb14 rfl) ?_
    exact Qt.meet (!r19) ⟨rfl, trivial⟩ (some_inj H)
  rintro y13 hy
  subst hy
  refine Qt.as (e' := [(21, .bool y13)]) ⟨rfl, trivial⟩ ?_
  replace H := HKo12
  refine Qt.done ?_
  refine At.then ?_
  rcases Bool.eq_false_or_eq_true y13 with hb23 | hb23
  · replace H := ite_t hb23 H
    refine Cd.condT rfl hb23 ?_
    refine Cd.seq ?_
    refine Cd.region ?_
    refine Lst.run rfl rfl (by decide) (Ev.assign rfl) ?_
    refine Lst.nil ?_
    refine At.then ?_
    obtain rfl := some_inj H
    refine Cd.ret ?_
    refine At.then_ret ?_
    exact At.ret1 rfl (Res.tmp rfl) (FLe.refl _) (List.Sublist.cons _ (List.Sublist.refl _)) ⟨rfl, rfl⟩
  replace H := ite_f hb23 H
  refine Cd.condF rfl hb23 ?_
  refine Cd.skip ?_
  refine At.then ?_
  refine Cd.seq ?_
  refine Cd.region ?_
  refine Lst.run rfl rfl (by decide) (Ev.assign rfl) ?_
  refine Lst.nil ?_
  refine At.then ?_
  obtain rfl := some_inj H
  refine Cd.ret ?_
  exact At.ret1 rfl (Res.tmp rfl) (FLe.refl _) (List.Sublist.cons _ (List.Sublist.refl _)) ⟨rfl, rfl⟩
set_option maxRecDepth 20000 in
theorem cut_vectors_sim {a0 : List Event} {s_a0 : Sl} {r : (Vector (List (Vector Int 6)) 6)} (H : cut_vectors a0 = some r) (w0 : World) (F : Frz) (M L : List Item) (hM : M.Sublist L) (hs_a0 : Rd w0 F M s_a0 a0) : Ok Try.prog w0 56 [Sl.v s_a0] F (L) (fun Fx L' v => ∃ (rs1 : Vector (LR (Vector Int 6)) 6), v = .agg (enc rs1).toArray ∧ L' = (.rows (α := Vector Int 6) 23 rs1.toList) :: L ∧ rs1.toList.map LR.v = r.toList) := by
  unfold cut_vectors at H
  refine Ok.enter (m := 1) (n := 35) Try.func56 rfl rfl rfl (by decide) ?_
  refine Cd.env (e' := [(0, Sl.v s_a0)]) rfl ?_
  refine Cd.seq ?_
  refine Cd.region ?_
  have hm1 : (Vector.replicate 6 ⟨[], Sl.nil⟩ : Vector (LR (Vector Int 6)) 6).toList.map LR.v = (Vector.replicate 6 [] : Vector (List (Vector Int 6)) 6).toList := vmap_rep _ _
  refine Lst.rowsNilV (Vector Int 6) 23 6 ?_
  refine Lst.alloc (cs := enc (Vector.replicate 6 ⟨[], Sl.nil⟩ : Vector (LR (Vector Int 6)) 6)) rfl rfl (by decide) Try.zeroValue90 rfl (fun b3 => ?_)
  refine Lst.nil ?_
  refine At.then ?_
  refine Cd.seq ?_
  refine Cd.region ?_
  have hm5 : (Vector.replicate 6 ⟨[], Sl.nil⟩ : Vector (LR (Vector Int 6)) 6).toList.map LR.v = (Vector.replicate 6 [] : Vector (List (Vector Int 6)) 6).toList := vmap_rep _ _
  refine Lst.rowsNilV (Vector Int 6) 23 6 ?_
  refine Lst.alloc (cs := enc (Vector.replicate 6 ⟨[], Sl.nil⟩ : Vector (LR (Vector Int 6)) 6)) rfl rfl (by decide) Try.zeroValue90 rfl (fun b7 => ?_)
  refine Lst.nil ?_
  refine At.then ?_
  refine Cd.seq ?_
  refine Cd.region ?_
  refine Lst.run rfl rfl (by decide) (Ev.move rfl) ?_
  obtain ⟨r9, h10, H⟩ := bind_some H
  refine Lst.call rfl rfl (by decide) (vs := [Sl.v s_a0]) ⟨rfl, trivial⟩ Try.call15 (vect_Vectors_sim h10 w0 _ M _ (List.Sublist.cons _ (List.Sublist.cons _ (List.Sublist.cons _ (List.Sublist.cons _ hM)))) (hs_a0.mono (FLe.refl _) (List.Sublist.refl _))) (fun F13 L' v hF14 hv => ?_)
  obtain ⟨s11, rfl, rfl⟩ := hv
  refine Lst.run rfl rfl (by decide) (Ev.move rfl) ?_
  refine Lst.run rfl rfl (by decide) (Ev.extract rfl rfl) ?_
  refine Lst.run rfl rfl (by decide) (Ev.extract rfl rfl) ?_
  refine Lst.run rfl rfl (by decide) (Ev.assign rfl) ?_
  refine Lst.run rfl rfl (by decide) (Ev.assign rfl) ?_
  refine Lst.nil ?_
  refine At.then ?_
  refine Cd.seq ?_
  refine Cd.seq ?_
  refine Cd.region ?_
  refine Lst.run rfl rfl (by decide) (Ev.move rfl) ?_
  refine Lst.run rfl rfl (by decide) (Ev.lenS (α := Event) (xs := a0) (by decide) rfl rfl Try.runUnderlying24 (hs_a0.mono hF14 (List.Sublist.cons _ (List.Sublist.cons _ (List.Sublist.cons _ (List.Sublist.cons _ (List.Sublist.cons _ hM))))))) ?_
  refine Lst.run rfl rfl (by decide) (Ev.move rfl) ?_
  refine Lst.nil ?_
  refine At.then ?_
  refine Cd.block ?_
  refine Cd.front (i := 4) rfl (L' := (.rows (α := Vector Int 6) 23 ((Vector.replicate 6 ⟨[], Sl.nil⟩ : Vector (LR (Vector Int 6)) 6).toList)) :: (.own s11 23 6 (encs r9.1)) :: (.blk b7 (enc (Vector.replicate 6 ⟨[], Sl.nil⟩ : Vector (LR (Vector Int 6)) 6)) 90) :: (.rows (α := Vector Int 6) 23 ((Vector.replicate 6 ⟨[], Sl.nil⟩ : Vector (LR (Vector Int 6)) 6).toList)) :: (.blk b3 (enc (Vector.replicate 6 ⟨[], Sl.nil⟩ : Vector (LR (Vector Int 6)) 6)) 90) :: L) rfl ?_
  refine Cd.front (i := 4) rfl (L' := (.blk b3 (enc (Vector.replicate 6 ⟨[], Sl.nil⟩ : Vector (LR (Vector Int 6)) 6)) 90) :: (.rows (α := Vector Int 6) 23 ((Vector.replicate 6 ⟨[], Sl.nil⟩ : Vector (LR (Vector Int 6)) 6).toList)) :: (.own s11 23 6 (encs r9.1)) :: (.blk b7 (enc (Vector.replicate 6 ⟨[], Sl.nil⟩ : Vector (LR (Vector Int 6)) 6)) 90) :: (.rows (α := Vector Int 6) 23 ((Vector.replicate 6 ⟨[], Sl.nil⟩ : Vector (LR (Vector Int 6)) 6).toList)) :: L) rfl ?_
  refine Cd.front (i := 3) rfl (L' := (.blk b7 (enc (Vector.replicate 6 ⟨[], Sl.nil⟩ : Vector (LR (Vector Int 6)) 6)) 90) :: (.blk b3 (enc (Vector.replicate 6 ⟨[], Sl.nil⟩ : Vector (LR (Vector Int 6)) 6)) 90) :: (.rows (α := Vector Int 6) 23 ((Vector.replicate 6 ⟨[], Sl.nil⟩ : Vector (LR (Vector Int 6)) 6).toList)) :: (.own s11 23 6 (encs r9.1)) :: (.rows (α := Vector Int 6) 23 ((Vector.replicate 6 ⟨[], Sl.nil⟩ : Vector (LR (Vector Int 6)) 6).toList)) :: L) rfl ?_
  refine Cd.front (i := 3) rfl (L' := (.own s11 23 6 (encs r9.1)) :: (.blk b7 (enc (Vector.replicate 6 ⟨[], Sl.nil⟩ : Vector (LR (Vector Int 6)) 6)) 90) :: (.blk b3 (enc (Vector.replicate 6 ⟨[], Sl.nil⟩ : Vector (LR (Vector Int 6)) 6)) 90) :: (.rows (α := Vector Int 6) 23 ((Vector.replicate 6 ⟨[], Sl.nil⟩ : Vector (LR (Vector Int 6)) 6).toList)) :: (.rows (α := Vector Int 6) 23 ((Vector.replicate 6 ⟨[], Sl.nil⟩ : Vector (LR (Vector Int 6)) 6).toList)) :: L) rfl ?_
  refine Cd.front (i := 4) rfl (L' := (.rows (α := Vector Int 6) 23 ((Vector.replicate 6 ⟨[], Sl.nil⟩ : Vector (LR (Vector Int 6)) 6).toList)) :: (.own s11 23 6 (encs r9.1)) :: (.blk b7 (enc (Vector.replicate 6 ⟨[], Sl.nil⟩ : Vector (LR (Vector Int 6)) 6)) 90) :: (.blk b3 (enc (Vector.replicate 6 ⟨[], Sl.nil⟩ : Vector (LR (Vector Int 6)) 6)) 90) :: (.rows (α := Vector Int 6) 23 ((Vector.replicate 6 ⟨[], Sl.nil⟩ : Vector (LR (Vector Int 6)) 6).toList)) :: L) rfl ?_
  refine Cd.bound (Rd.le (α := Event) (xs := a0) (by decide) (hs_a0.mono hF14 (List.Sublist.cons _ (List.Sublist.cons _ (List.Sublist.cons _ (List.Sublist.cons _ (List.Sublist.cons _ hM))))))) (fun hN59 => ?_)
  obtain ⟨ol15, H, HKl15⟩ := bind_some H
  refine Cd.loop (σ := Nat × Nat × (Vector (LR (Vector Int 6)) 6) × (Vector (List (Vector Int 6)) 6)) (fun (i15, k15, rs16, l17) => [(2, .pointer (some ⟨b3, 0, none⟩)), (3, .pointer (some ⟨b7, 0, none⟩)), (4, Sl.v s11), (13, Sl.v s_a0), (14, .int .i64 (a0.length : Int)), (15, .int .i64 (i15 : Int))]) (fun (i15, k15, rs16, l17) => (.rows (α := Vector Int 6) 23 rs16.toList) :: (.own s11 23 6 (encs r9.1)) :: (.blk b7 (enc rs16) 90) :: (.blk b3 (enc (Vector.replicate 6 ⟨[], Sl.nil⟩ : Vector (LR (Vector Int 6)) 6)) 90) :: (.rows (α := Vector Int 6) 23 ((Vector.replicate 6 ⟨[], Sl.nil⟩ : Vector (LR (Vector Int 6)) 6).toList)) :: L) (fun Fx => (fun (i15, k15, rs16, l17) => rangeF (cut_vectors_B0 a0 r9) k15 i15 l17 = some ol15 ∧ i15 + k15 = a0.length ∧ rs16.toList.map LR.v = l17.toList)) (fun (i15, k15, rs16, l17) => k15) (0, a0.length, (Vector.replicate 6 ⟨[], Sl.nil⟩ : Vector (LR (Vector Int 6)) 6), (Vector.replicate 6 [] : Vector (List (Vector Int 6)) 6)) ⟨rfl, rfl, rfl, rfl, rfl, rfl, trivial⟩ rfl ⟨H, by omega, hm5⟩ ?_
  rintro F20 ⟨i15, k15, rs16, l17⟩ hF21 ⟨H, hik15, fm18⟩
  refine Cd.as (e' := [(2, .pointer (some ⟨b3, 0, none⟩)), (3, .pointer (some ⟨b7, 0, none⟩)), (4, Sl.v s11), (13, Sl.v s_a0), (14, .int .i64 (a0.length : Int)), (15, .int .i64 (i15 : Int))]) (L' := (.rows (α := Vector Int 6) 23 rs16.toList) :: (.own s11 23 6 (encs r9.1)) :: (.blk b7 (enc rs16) 90) :: (.blk b3 (enc (Vector.replicate 6 ⟨[], Sl.nil⟩ : Vector (LR (Vector Int 6)) 6)) 90) :: (.rows (α := Vector Int 6) 23 ((Vector.replicate 6 ⟨[], Sl.nil⟩ : Vector (LR (Vector Int 6)) 6).toList)) :: L) ⟨rfl, rfl, rfl, rfl, rfl, rfl, trivial⟩ rfl ?_
  rcases k15 with _ | k15
  · have hc15 : decide ((i15 : Int) < (a0.length : Int)) = false := decide_eq_false (by omega)
    replace H := rangeF_end H
    refine Cd.seq ?_
    refine Cd.region ?_
    refine Lst.run rfl rfl (by decide) (Ev.lss rfl rfl) ?_
    refine Lst.nil ?_
    refine At.then ?_
    refine Cd.seq ?_
    refine Cd.condF rfl hc15 ?_
    refine Cd.exit ?_
    refine At.then_exit ?_
    refine At.then_exit ?_
    refine At.in_exit ?_
    subst H
    replace H := HKl15
    refine At.then ?_
    refine Cd.seq ?_
    refine Cd.region ?_
    refine Lst.run rfl rfl (by decide) (Ev.loadA (i := 2) rfl rfl Try.isAgg90 Try.sizeOf90 (ch := enc rs16) (Enc.len _) (Get.here _)) ?_
    refine Lst.store (i := 3) rfl rfl rfl rfl rfl Try.sizeOf90 (vs := enc rs16) rfl (Enc.len _) (Enc.one _) (cs' := enc rs16) (Put.here ((Enc.len _).trans (Enc.len _).symm)) (L' := (.rows (α := Vector Int 6) 23 rs16.toList) :: (.own s11 23 6 (encs r9.1)) :: (.blk b7 (enc rs16) 90) :: (.blk b3 (enc rs16) 90) :: (.rows (α := Vector Int 6) 23 ((Vector.replicate 6 ⟨[], Sl.nil⟩ : Vector (LR (Vector Int 6)) 6).toList)) :: L) rfl ?_
    refine Lst.nil ?_
    refine At.then ?_
    obtain rfl := some_inj H
    refine Cd.ret ?_
    exact At.ret1 rfl (Res.cellA (i := 3) rfl rfl Try.isAgg90 Try.sizeOf90 (Enc.len _)) (FLe.trans hF14 hF21) (List.Sublist.cons_cons _ (List.Sublist.cons _ (List.Sublist.cons _ (List.Sublist.cons _ (List.Sublist.cons _ (List.Sublist.refl _)))))) ⟨rs16, rfl, rfl, fm18⟩
  have hc15 : decide ((i15 : Int) < (a0.length : Int)) = true := decide_eq_true (by omega)
  obtain ⟨c15, H, hgo15⟩ := rangeF_go H
  unfold cut_vectors_B0 at H
  try dsimp only at H
  refine Cd.seq ?_
  refine Cd.region ?_
  refine Lst.run rfl rfl (by decide) (Ev.lss rfl rfl) ?_
  refine Lst.nil ?_
  refine At.then ?_
  refine Cd.seq ?_
  refine Cd.condT rfl hc15 ?_
  refine Cd.skip ?_
  refine At.then ?_
  refine Cd.seq ?_
  refine Cd.block ?_
  refine Cd.seq ?_
  refine Cd.region ?_
  refine Lst.run rfl rfl (by decide) (Ev.move rfl) ?_
  obtain ⟨x22, h23, H⟩ := bind_some H
  have g24 := lat_some h23
  refine Lst.run rfl rfl (by decide) (Ev.indexS (α := Event) (xs := a0) rfl rfl Try.runUnderlying24 Try.sizeOf75 rfl (by decide) (hs_a0.mono (FLe.trans hF14 hF21) (List.Sublist.cons _ (List.Sublist.cons _ (List.Sublist.cons _ (List.Sublist.cons _ (List.Sublist.cons _ hM)))))) g24.1 g24.2.1) ?_
  refine Lst.run rfl rfl (by decide) (Ev.loadSA (α := Event) rfl (hs_a0.mono (FLe.trans hF14 hF21) (List.Sublist.cons _ (List.Sublist.cons _ (List.Sublist.cons _ (List.Sublist.cons _ (List.Sublist.cons _ hM)))))) Try.isAgg75 Try.sizeOf75 (ch := enc x22) (Enc.len _) (by decide) ((Get.elemN (s := 3) (x := x22) rfl g24.2.2 (Get.here _)).off (by omega))) ?_
  refine Lst.alloc (cs := enc Event.zero) rfl rfl (by decide) Try.zeroValue75 rfl (fun b25 => ?_)
  refine Lst.run rfl rfl (by decide) (Ev.assign rfl) ?_
  refine Lst.store (i := 0) rfl rfl rfl rfl rfl Try.sizeOf75 (vs := enc x22) rfl (Enc.len _) (Enc.one _) (cs' := enc x22) (Put.here ((Enc.len _).trans (Enc.len _).symm)) (L' := (.blk b25 (enc x22) 75) :: (.rows (α := Vector Int 6) 23 rs16.toList) :: (.own s11 23 6 (encs r9.1)) :: (.blk b7 (enc rs16) 90) :: (.blk b3 (enc (Vector.replicate 6 ⟨[], Sl.nil⟩ : Vector (LR (Vector Int 6)) 6)) 90) :: (.rows (α := Vector Int 6) 23 ((Vector.replicate 6 ⟨[], Sl.nil⟩ : Vector (LR (Vector Int 6)) 6).toList)) :: L) rfl ?_
  refine Lst.nil ?_
  refine At.then ?_
  obtain ⟨x27, h28, H⟩ := bind_some H
  obtain ⟨x31, h32, H⟩ := bind_some H
  obtain ⟨u37, h38, H⟩ := bind_some H
  obtain ⟨o43, h44, H⟩ := Let_some H
  refine Cd.headMeet (σ := Sl × (List (Vector Int 6))) 12 (fun (s41, l42) => [(2, .pointer (some ⟨b3, 0, none⟩)), (3, .pointer (some ⟨b7, 0, none⟩)), (4, Sl.v s11), (13, Sl.v s_a0), (14, .int .i64 (a0.length : Int)), (15, .int .i64 (i15 : Int)), (21, .int .i64 x22.Proc), (31, Sl.v s41)]) (fun (s41, l42) => (.own s41 23 6 (encs l42)) :: (.rows (α := Vector Int 6) 23 (rs16.toList.set x22.Proc.toNat ⟨[], Sl.nil⟩)) :: (.blk b25 (enc x22) 75) :: (.own s11 23 6 (encs r9.1)) :: (.blk b7 (enc rs16) 90) :: (.blk b3 (enc (Vector.replicate 6 ⟨[], Sl.nil⟩ : Vector (LR (Vector Int 6)) 6)) 90) :: (.rows (α := Vector Int 6) 23 ((Vector.replicate 6 ⟨[], Sl.nil⟩ : Vector (LR (Vector Int 6)) 6).toList)) :: L) (fun _ (s41, l42) => l42 = o43) (by kernel_rfl) (by kernel_rfl) (behind_sink (by kernel_rfl) (by kernel_rfl) (by kernel_rfl)) (by kernel_rfl) (fun hsel hlt => ?_) ?_
  · refine HdJ.keep (fun w => St w0 F20 ((.blk b25 (enc x22) 75) :: (.own s11 23 6 (encs r9.1)) :: (.blk b7 (enc rs16) 90) :: (.blk b3 (enc (Vector.replicate 6 ⟨[], Sl.nil⟩ : Vector (LR (Vector Int 6)) 6)) 90) :: (.rows (α := Vector Int 6) 23 ((Vector.replicate 6 ⟨[], Sl.nil⟩ : Vector (LR (Vector Int 6)) 6).toList)) :: L) w) (fun w h => trivial) ?_
    refine HdJ.takeK hsel hlt 0 (fun w h => h.sublist (List.Sublist.cons_cons _ (List.Sublist.cons _ (List.Sublist.cons_cons _ (List.Sublist.cons_cons _ (List.Sublist.cons_cons _ (List.Sublist.cons_cons _ (List.Sublist.refl _)))))))) rfl rfl (by decide) (by decide) (by kernel_rfl) (by kernel_rfl) rfl (Ev.fieldAddr (off' := 0) rfl Try.runUnderlying75 rfl Try.sizeOf3 rfl rfl) ?_
    refine HdJ.takeK hsel hlt 1 (fun w h => h.sublist (List.Sublist.cons_cons _ (List.Sublist.cons _ (List.Sublist.cons_cons _ (List.Sublist.cons_cons _ (List.Sublist.cons_cons _ (List.Sublist.cons_cons _ (List.Sublist.refl _)))))))) rfl rfl (by decide) (by decide) (by kernel_rfl) (by kernel_rfl) rfl (Ev.load (i := 0) rfl rfl Try.isAgg3 (v := .int .i64 x22.Proc) ((Event.get_Proc (Get.here _)).off (by rfl))) ?_
    refine HdJ.takeK hsel hlt 2 (fun w h => h.sublist (List.Sublist.cons_cons _ (List.Sublist.cons _ (List.Sublist.cons_cons _ (List.Sublist.cons_cons _ (List.Sublist.cons_cons _ (List.Sublist.cons_cons _ (List.Sublist.refl _)))))))) rfl rfl (by decide) (by decide) (by kernel_rfl) (by kernel_rfl) rfl (Ev.fieldAddr (off' := 0) rfl Try.runUnderlying75 rfl Try.sizeOf3 rfl rfl) ?_
    refine HdJ.takeK hsel hlt 3 (fun w h => h.sublist (List.Sublist.cons_cons _ (List.Sublist.cons _ (List.Sublist.cons_cons _ (List.Sublist.cons_cons _ (List.Sublist.cons_cons _ (List.Sublist.cons_cons _ (List.Sublist.refl _)))))))) rfl rfl (by decide) (by decide) (by kernel_rfl) (by kernel_rfl) rfl (Ev.load (i := 0) rfl rfl Try.isAgg3 (v := .int .i64 x22.Proc) ((Event.get_Proc (Get.here _)).off (by rfl))) ?_
    have g45 := vat_some h28
    obtain ⟨⟨r46v, r46h⟩, r46g, r46e, r46m, r46l⟩ := vmap_get fm18 g45.2.2
    obtain rfl : x27 = r46v := r46e.symm
    refine HdJ.takeK hsel hlt 4 (fun w h => h.sublist (List.Sublist.cons_cons _ (List.Sublist.cons _ (List.Sublist.cons_cons _ (List.Sublist.cons_cons _ (List.Sublist.cons_cons _ (List.Sublist.cons_cons _ (List.Sublist.refl _)))))))) rfl rfl (by decide) (by decide) (by kernel_rfl) (by kernel_rfl) rfl (Ev.indexAddr (off' := 0 + x22.Proc.toNat * 1) rfl rfl Try.runUnderlying90 Try.sizeOf28 g45.1 g45.2.1 rfl) ?_
    refine HdJ.takeK hsel hlt 5 (fun w h => h.sublist (List.Sublist.cons_cons _ (List.Sublist.cons _ (List.Sublist.cons_cons _ (List.Sublist.cons_cons _ (List.Sublist.cons_cons _ (List.Sublist.cons_cons _ (List.Sublist.refl _)))))))) rfl rfl (by decide) (by decide) (by kernel_rfl) (by kernel_rfl) rfl (Ev.load (i := 2) rfl rfl Try.isAgg28 (v := Sl.v r46h) ((Get.vecN (s := 1) rfl r46g (Get.here _)).off (by omega))) ?_
    refine HdJ.takeK hsel hlt 6 (fun w h => h.sublist (List.Sublist.cons_cons _ (List.Sublist.cons _ (List.Sublist.cons_cons _ (List.Sublist.cons_cons _ (List.Sublist.cons_cons _ (List.Sublist.cons_cons _ (List.Sublist.refl _)))))))) rfl rfl (by decide) (by decide) (by kernel_rfl) (by kernel_rfl) rfl (Ev.move rfl) ?_
    refine HdJ.takeK hsel hlt 7 (fun w h => h.sublist (List.Sublist.cons_cons _ (List.Sublist.cons _ (List.Sublist.cons_cons _ (List.Sublist.cons_cons _ (List.Sublist.cons_cons _ (List.Sublist.cons_cons _ (List.Sublist.refl _)))))))) rfl rfl (by decide) (by decide) (by kernel_rfl) (by kernel_rfl) rfl (Ev.move rfl) ?_
    have g47 := lat_some h32
    refine HdJ.takeK hsel hlt 8 (fun w h => h.sublist (List.Sublist.cons_cons _ (List.Sublist.cons _ (List.Sublist.cons_cons _ (List.Sublist.cons_cons _ (List.Sublist.cons_cons _ (List.Sublist.cons_cons _ (List.Sublist.refl _)))))))) rfl rfl (by decide) (by decide) (by kernel_rfl) (by kernel_rfl) rfl (Ev.indexS (α := Vector Int 6) (xs := r9.1) rfl rfl Try.runUnderlying28 Try.sizeOf23 rfl (by decide) (Rd.own (i := 1) rfl rfl rfl) g47.1 g47.2.1) ?_
    refine HdJ.takeK hsel hlt 9 (fun w h => h.sublist (List.Sublist.cons_cons _ (List.Sublist.cons _ (List.Sublist.cons_cons _ (List.Sublist.cons_cons _ (List.Sublist.cons_cons _ (List.Sublist.cons_cons _ (List.Sublist.refl _)))))))) rfl rfl (by decide) (by decide) (by kernel_rfl) (by kernel_rfl) rfl (Ev.loadSA (α := Vector Int 6) rfl (Rd.own (i := 1) rfl rfl rfl) Try.isAgg23 Try.sizeOf23 (ch := enc x31) (Enc.len _) (by decide) ((Get.elemN (s := 6) (x := x31) rfl g47.2.2 (Get.here _)).off (by omega))) ?_
    refine HdJ.step [10] (by kernel_rfl) rfl ?_
    refine HdStep.cons (by decide) rfl (fun inv => ?_) ?_
    · refine Lst.buildSlice (α := Vector Int 6) (xs := ([x31] : List (Vector Int 6))) (pv := [(0, .agg (enc x31).toArray)]) rfl rfl (by decide) ⟨rfl, rfl, trivial⟩ (run_buildSlice (α := Vector Int 6) (z0 := (Vector.replicate 6 (0 : Int))) (xs := ([x31] : List (Vector Int 6))) Try.runUnderlying28 Try.sizeOf23 Try.zeroValue23 rfl rfl rfl (by decide) rfl (fill_cons (cs := encs (List.replicate 1 (Vector.replicate 6 (0 : Int)))) (cs' := encs ((List.replicate 1 (Vector.replicate 6 (0 : Int))).set 0 x31)) (vs := enc x31) rfl rfl (Enc.len _) ((Put.elemN (s := 6) (i := 0) (x := (Vector.replicate 6 (0 : Int))) (y := x31) rfl rfl (Put.here ((Enc.len _).trans (Enc.len _).symm))).off rfl) fill_nil)) rfl rfl (by decide) (fun s48 _ => ?_)
      refine Lst.nil ?_
      refine At.hd inv (fun w h => (h.weaken (FLe.refl _)).sublist (List.Sublist.cons _ (List.Sublist.cons_cons _ (List.Sublist.cons _ (List.Sublist.cons_cons _ (List.Sublist.cons_cons _ (List.Sublist.cons_cons _ (List.Sublist.cons_cons _ (List.Sublist.refl _))))))))) ?_
      refine HdJ.step [11] (by kernel_rfl) rfl ?_
      refine HdStep.cons (by decide) rfl (fun inv => ?_) ?_
      · refine Lst.front (i := 2) rfl (L' := (.rows (α := Vector Int 6) 23 rs16.toList) :: (.own s48 23 6 (encs ([x31] : List (Vector Int 6)))) :: (.blk b25 (enc x22) 75) :: (.own s11 23 6 (encs r9.1)) :: (.blk b7 (enc rs16) 90) :: (.blk b3 (enc (Vector.replicate 6 ⟨[], Sl.nil⟩ : Vector (LR (Vector Int 6)) 6)) 90) :: (.rows (α := Vector Int 6) 23 ((Vector.replicate 6 ⟨[], Sl.nil⟩ : Vector (LR (Vector Int 6)) 6).toList)) :: L) rfl ?_
        refine Lst.rowOut (k := x22.Proc.toNat) r46l rfl ?_
        refine Lst.its (L' := (.own r46h 23 6 (encs x27)) :: (.rows (α := Vector Int 6) 23 (rs16.toList.set x22.Proc.toNat ⟨[], Sl.nil⟩)) :: (.own s48 23 6 (encs ([x31] : List (Vector Int 6)))) :: (.blk b25 (enc x22) 75) :: (.own s11 23 6 (encs r9.1)) :: (.blk b7 (enc rs16) 90) :: (.blk b3 (enc (Vector.replicate 6 ⟨[], Sl.nil⟩ : Vector (LR (Vector Int 6)) 6)) 90) :: (.rows (α := Vector Int 6) 23 ((Vector.replicate 6 ⟨[], Sl.nil⟩ : Vector (LR (Vector Int 6)) 6).toList)) :: L) rfl ?_
        refine Lst.append (i := 0) (α := Vector Int 6) (xs := x27) (ys := ([x31] : List (Vector Int 6))) rfl rfl (by decide) rfl rfl Try.runUnderlying28 Try.typeInfo23 rfl rfl rfl rfl rfl rfl (Rd.own (i := 2) rfl rfl rfl) rfl (room_some h38) rfl (fun s49 => ?_)
        refine Lst.its (L' := (.own s49 23 6 (encs (x27 ++ ([x31] : List (Vector Int 6))))) :: (.rows (α := Vector Int 6) 23 (rs16.toList.set x22.Proc.toNat ⟨[], Sl.nil⟩)) :: (.own s48 23 6 (encs ([x31] : List (Vector Int 6)))) :: (.blk b25 (enc x22) 75) :: (.own s11 23 6 (encs r9.1)) :: (.blk b7 (enc rs16) 90) :: (.blk b3 (enc (Vector.replicate 6 ⟨[], Sl.nil⟩ : Vector (LR (Vector Int 6)) 6)) 90) :: (.rows (α := Vector Int 6) 23 ((Vector.replicate 6 ⟨[], Sl.nil⟩ : Vector (LR (Vector Int 6)) 6).toList)) :: L) rfl ?_
        refine Lst.nil ?_
        refine At.hd inv (fun w h => (h.weaken (FLe.refl _)).sublist (List.Sublist.cons _ (List.Sublist.cons _ (List.Sublist.cons _ (List.Sublist.cons_cons _ (List.Sublist.cons_cons _ (List.Sublist.cons_cons _ (List.Sublist.cons_cons _ (List.Sublist.cons_cons _ (List.Sublist.refl _)))))))))) ?_
        refine HdJ.done (by kernel_rfl) ?_
        refine At.less (L' := (.own s49 23 6 (encs (x27 ++ ([x31] : List (Vector Int 6))))) :: (.rows (α := Vector Int 6) 23 (rs16.toList.set x22.Proc.toNat ⟨[], Sl.nil⟩)) :: (.blk b25 (enc x22) 75) :: (.own s11 23 6 (encs r9.1)) :: (.blk b7 (enc rs16) 90) :: (.blk b3 (enc (Vector.replicate 6 ⟨[], Sl.nil⟩ : Vector (LR (Vector Int 6)) 6)) 90) :: (.rows (α := Vector Int 6) 23 ((Vector.replicate 6 ⟨[], Sl.nil⟩ : Vector (LR (Vector Int 6)) 6).toList)) :: L) (List.Sublist.cons_cons _ (List.Sublist.cons_cons _ (List.Sublist.cons _ (List.Sublist.cons_cons _ (List.Sublist.cons_cons _ (List.Sublist.cons_cons _ (List.Sublist.cons_cons _ (List.Sublist.cons_cons _ (List.Sublist.refl _))))))))) ?_
        exact At.meetN (s49, x27 ++ ([x31] : List (Vector Int 6))) (FLe.refl _) ⟨rfl, rfl, rfl, rfl, rfl, rfl, rfl, rfl, trivial⟩ rfl h44
      exact trivial
    exact trivial
  rintro F50 ⟨s41, l42⟩ hF51 hy
  subst hy
  refine Lst.as (e' := [(2, .pointer (some ⟨b3, 0, none⟩)), (3, .pointer (some ⟨b7, 0, none⟩)), (4, Sl.v s11), (13, Sl.v s_a0), (14, .int .i64 (a0.length : Int)), (15, .int .i64 (i15 : Int)), (21, .int .i64 x22.Proc), (31, Sl.v s41)]) (L' := (.own s41 23 6 (encs l42)) :: (.rows (α := Vector Int 6) 23 (rs16.toList.set x22.Proc.toNat ⟨[], Sl.nil⟩)) :: (.blk b25 (enc x22) 75) :: (.own s11 23 6 (encs r9.1)) :: (.blk b7 (enc rs16) 90) :: (.blk b3 (enc (Vector.replicate 6 ⟨[], Sl.nil⟩ : Vector (LR (Vector Int 6)) 6)) 90) :: (.rows (α := Vector Int 6) 23 ((Vector.replicate 6 ⟨[], Sl.nil⟩ : Vector (LR (Vector Int 6)) 6).toList)) :: L) ⟨rfl, rfl, rfl, rfl, rfl, rfl, rfl, rfl, trivial⟩ rfl ?_
  obtain ⟨x52, h53, H⟩ := bind_some H
  have g54 := vat_some h53
  obtain ⟨⟨r55v, r55h⟩, r55g, r55e, r55m, r55l⟩ := vmap_get fm18 g54.2.2
  obtain rfl : x52 = r55v := r55e.symm
  refine Lst.run rfl rfl (by decide) (Ev.indexAddr (off' := 0 + x22.Proc.toNat * 1) rfl rfl Try.runUnderlying90 Try.sizeOf28 g54.1 g54.2.1 rfl) ?_
  obtain ⟨p56, h57, H⟩ := Let_some H
  have hm58 : (rs16.setIfInBounds x22.Proc.toNat (LR.mk l42 s41)).toList.map LR.v = p56.toList := (vmap_set fm18 _ _).trans (congrArg Vector.toList h57)
  refine Lst.store (i := 4) rfl rfl rfl rfl rfl Try.sizeOf28 (vs := [Sl.v s41]) rfl rfl rfl (cs' := enc (rs16.setIfInBounds x22.Proc.toNat (LR.mk l42 s41))) ((Put.vecN (s := 1) (y := (LR.mk l42 s41)) rfl r55g (Put.here (vs := [Sl.v s41]) rfl)).off (by omega)) (L' := (.own s41 23 6 (encs l42)) :: (.rows (α := Vector Int 6) 23 (rs16.toList.set x22.Proc.toNat ⟨[], Sl.nil⟩)) :: (.blk b25 (enc x22) 75) :: (.own s11 23 6 (encs r9.1)) :: (.blk b7 (enc (rs16.setIfInBounds x22.Proc.toNat (LR.mk l42 s41))) 90) :: (.blk b3 (enc (Vector.replicate 6 ⟨[], Sl.nil⟩ : Vector (LR (Vector Int 6)) 6)) 90) :: (.rows (α := Vector Int 6) 23 ((Vector.replicate 6 ⟨[], Sl.nil⟩ : Vector (LR (Vector Int 6)) 6).toList)) :: L) rfl ?_
  refine Lst.rowIn (k := x22.Proc.toNat) (by rw [List.getElem?_set_self (List.getElem?_eq_some_iff.1 r55l).1]) rfl ?_
  refine Lst.its (L' := (.rows (α := Vector Int 6) 23 ((rs16.setIfInBounds x22.Proc.toNat (LR.mk l42 s41)).toList)) :: (.blk b25 (enc x22) 75) :: (.own s11 23 6 (encs r9.1)) :: (.blk b7 (enc (rs16.setIfInBounds x22.Proc.toNat (LR.mk l42 s41))) 90) :: (.blk b3 (enc (Vector.replicate 6 ⟨[], Sl.nil⟩ : Vector (LR (Vector Int 6)) 6)) 90) :: (.rows (α := Vector Int 6) 23 ((Vector.replicate 6 ⟨[], Sl.nil⟩ : Vector (LR (Vector Int 6)) 6).toList)) :: L) (by rw [List.set_set, Vector.toList_setIfInBounds]) ?_
  refine Lst.nil ?_
  refine At.in_normal ?_
  refine At.then ?_
  refine Cd.region ?_
  refine Lst.run rfl rfl (by decide) (Ev.incr (by omega) rfl rfl) ?_
  refine Lst.run rfl rfl (by decide) (Ev.move rfl) ?_
  refine Lst.nil ?_
  refine At.less (L' := (.rows (α := Vector Int 6) 23 ((rs16.setIfInBounds x22.Proc.toNat (LR.mk l42 s41)).toList)) :: (.own s11 23 6 (encs r9.1)) :: (.blk b7 (enc (rs16.setIfInBounds x22.Proc.toNat (LR.mk l42 s41))) 90) :: (.blk b3 (enc (Vector.replicate 6 ⟨[], Sl.nil⟩ : Vector (LR (Vector Int 6)) 6)) 90) :: (.rows (α := Vector Int 6) 23 ((Vector.replicate 6 ⟨[], Sl.nil⟩ : Vector (LR (Vector Int 6)) 6).toList)) :: L) (List.Sublist.cons_cons _ (List.Sublist.cons _ (List.Sublist.cons_cons _ (List.Sublist.cons_cons _ (List.Sublist.cons_cons _ (List.Sublist.cons_cons _ (List.Sublist.refl _))))))) ?_
  exact At.meet (i15 + 1, k15, (rs16.setIfInBounds x22.Proc.toNat (LR.mk l42 s41)), p56) (FLe.trans hF21 hF51) ⟨rfl, rfl, rfl, rfl, rfl, rfl, trivial⟩ rfl ⟨⟨hgo15 _ (some_inj H).symm, by omega, hm58⟩, Nat.lt_succ_self _⟩
set_option maxRecDepth 20000 in
theorem cut_grown_sim {a0 : Vector (List (Vector Int 6)) 6} {a1 : Vector Int 6} {rs_a0 : Vector (LR (Vector Int 6)) 6} {r : (Vector Int 6)} (H : cut_grown a0 a1 = some r) (w0 : World) (F : Frz) (M L : List Item) (hM : M.Sublist L) (hm_a0 : rs_a0.toList.map LR.v = a0.toList) (ha_a0 : All LR.rel w0 F M rs_a0.toList) : Ok Try.prog w0 55 [.agg (enc rs_a0).toArray, .agg (enc a1).toArray] F (L) (Is (.agg (enc r).toArray) (L)) := by
  unfold cut_grown at H
  refine Ok.enter (m := 2) (n := 27) Try.func55 rfl rfl rfl (by decide) ?_
  refine Cd.env (e' := [(0, .agg (enc rs_a0).toArray), (1, .agg (enc a1).toArray)]) rfl ?_
  refine Cd.seq ?_
  refine Cd.region ?_
  refine Lst.box rfl rfl (by decide) rfl (cs := enc rs_a0) rfl (fun b1 => ?_)
  refine Lst.box rfl rfl (by decide) rfl (cs := enc a1) rfl (fun b3 => ?_)
  refine Lst.alloc (cs := enc (Vector.replicate 6 (0 : Int))) rfl rfl (by decide) Try.zeroValue23 rfl (fun b5 => ?_)
  refine Lst.nil ?_
  refine At.then ?_
  refine Cd.seq ?_
  refine Cd.region ?_
  refine Lst.run rfl rfl (by decide) (Ev.loadA (i := 1) rfl rfl Try.isAgg23 Try.sizeOf23 (ch := enc a1) (Enc.len _) (Get.here _)) ?_
  refine Lst.alloc (cs := enc (Vector.replicate 6 (0 : Int))) rfl rfl (by decide) Try.zeroValue23 rfl (fun b7 => ?_)
  refine Lst.store (i := 0) rfl rfl rfl rfl rfl Try.sizeOf23 (vs := enc a1) rfl (Enc.len _) (Enc.one _) (cs' := enc a1) (Put.here ((Enc.len _).trans (Enc.len _).symm)) (L' := (.blk b7 (enc a1) 23) :: (.blk b5 (enc (Vector.replicate 6 (0 : Int))) 23) :: (.blk b3 (enc a1) 23) :: (.blk b1 (enc rs_a0) 90) :: L) rfl ?_
  refine Lst.nil ?_
  refine At.then ?_
  refine Cd.seq ?_
  refine Cd.seq ?_
  refine Cd.region ?_
  refine Lst.run rfl rfl (by decide) (Ev.loadA (i := 2) rfl rfl Try.isAgg23 Try.sizeOf23 (ch := enc a1) (Enc.len _) (Get.here _)) ?_
  refine Lst.run rfl rfl (by decide) (Ev.move rfl) ?_
  refine Lst.nil ?_
  refine At.then ?_
  refine Cd.block ?_
  obtain ⟨ol9, H, HKl9⟩ := bind_some H
  refine Cd.loop (σ := Nat × Nat × (Vector Int 6)) (fun (i9, k9, y10) => [(2, .pointer (some ⟨b1, 0, none⟩)), (4, .pointer (some ⟨b5, 0, none⟩)), (5, .pointer (some ⟨b7, 0, none⟩)), (9, .agg (enc a1).toArray), (10, .int .i64 (i9 : Int))]) (fun (i9, k9, y10) => (.blk b7 (enc y10) 23) :: (.blk b5 (enc (Vector.replicate 6 (0 : Int))) 23) :: (.blk b3 (enc a1) 23) :: (.blk b1 (enc rs_a0) 90) :: L) (fun _ => (fun (i9, k9, y10) => rangeF (cut_grown_B0 a0 a1) k9 i9 y10 = some ol9 ∧ i9 + k9 = 6)) (fun (i9, k9, y10) => k9) (0, 6, a1) ⟨rfl, rfl, rfl, rfl, rfl, trivial⟩ rfl ⟨H, by omega⟩ ?_
  rintro F11 ⟨i9, k9, y10⟩ hF12 ⟨H, hik9⟩
  refine Cd.as (e' := [(2, .pointer (some ⟨b1, 0, none⟩)), (4, .pointer (some ⟨b5, 0, none⟩)), (5, .pointer (some ⟨b7, 0, none⟩)), (9, .agg (enc a1).toArray), (10, .int .i64 (i9 : Int))]) (L' := (.blk b7 (enc y10) 23) :: (.blk b5 (enc (Vector.replicate 6 (0 : Int))) 23) :: (.blk b3 (enc a1) 23) :: (.blk b1 (enc rs_a0) 90) :: L) ⟨rfl, rfl, rfl, rfl, rfl, trivial⟩ rfl ?_
  rcases k9 with _ | k9
  · have hc9 : decide ((i9 : Int) < (6 : Int)) = false := decide_eq_false (by omega)
    replace H := rangeF_end H
    refine Cd.seq ?_
    refine Cd.region ?_
    refine Lst.run rfl rfl (by decide) (Ev.lss rfl rfl) ?_
    refine Lst.nil ?_
    refine At.then ?_
    refine Cd.seq ?_
    refine Cd.condF rfl hc9 ?_
    refine Cd.exit ?_
    refine At.then_exit ?_
    refine At.then_exit ?_
    refine At.in_exit ?_
    subst H
    replace H := HKl9
    refine At.then ?_
    refine Cd.seq ?_
    refine Cd.region ?_
    refine Lst.run rfl rfl (by decide) (Ev.loadA (i := 0) rfl rfl Try.isAgg23 Try.sizeOf23 (ch := enc y10) (Enc.len _) (Get.here _)) ?_
    refine Lst.store (i := 1) rfl rfl rfl rfl rfl Try.sizeOf23 (vs := enc y10) rfl (Enc.len _) (Enc.one _) (cs' := enc y10) (Put.here ((Enc.len _).trans (Enc.len _).symm)) (L' := (.blk b7 (enc y10) 23) :: (.blk b5 (enc y10) 23) :: (.blk b3 (enc a1) 23) :: (.blk b1 (enc rs_a0) 90) :: L) rfl ?_
    refine Lst.nil ?_
    refine At.then ?_
    obtain rfl := some_inj H
    refine Cd.ret ?_
    exact At.ret1 rfl (Res.cellA (i := 1) rfl rfl Try.isAgg23 Try.sizeOf23 (Enc.len _)) hF12 (List.Sublist.cons _ (List.Sublist.cons _ (List.Sublist.cons _ (List.Sublist.cons _ (List.Sublist.refl _))))) ⟨rfl, rfl⟩
  have hc9 : decide ((i9 : Int) < (6 : Int)) = true := decide_eq_true (by omega)
  obtain ⟨c9, H, hgo9⟩ := rangeF_go H
  unfold cut_grown_B0 at H
  try dsimp only at H
  refine Cd.seq ?_
  refine Cd.region ?_
  refine Lst.run rfl rfl (by decide) (Ev.lss rfl rfl) ?_
  refine Lst.nil ?_
  refine At.then ?_
  refine Cd.seq ?_
  refine Cd.condT rfl hc9 ?_
  refine Cd.skip ?_
  refine At.then ?_
  refine Cd.seq ?_
  refine Cd.block ?_
  refine Cd.seq ?_
  refine Cd.region ?_
  refine Lst.run rfl rfl (by decide) (Ev.move rfl) ?_
  obtain ⟨x13, h14, H⟩ := bind_some H
  have g15 := vat_some h14
  refine Lst.run rfl rfl (by decide) (Ev.index1 rfl rfl Try.runUnderlying23 Try.isAgg3 Try.sizeOf3 g15.1 g15.2.1 rfl ((Get.vecN (s := 1) rfl g15.2.2 (Get.here _)).off (by omega))) ?_
  refine Lst.run rfl rfl (by decide) (Ev.assign rfl) ?_
  refine Lst.run rfl rfl (by decide) (Ev.assign rfl) ?_
  refine Lst.nil ?_
  refine At.then ?_
  refine Cd.seq ?_
  refine Cd.region ?_
  refine Lst.run rfl rfl (by decide) (Ev.move rfl) ?_
  refine Lst.run rfl rfl (by decide) (Ev.gtr rfl rfl) ?_
  refine Lst.nil ?_
  refine At.then ?_
  rcases (Bool.eq_false_or_eq_true (decide (x13 > (0 : Int)))).symm with hb16 | hb16
  · replace H := ite_f hb16 H
    refine Cd.condF rfl hb16 ?_
    refine Cd.skip ?_
    refine At.in_normal ?_
    refine At.then ?_
    refine Cd.region ?_
    refine Lst.run rfl rfl (by decide) (Ev.incr (by omega) rfl rfl) ?_
    refine Lst.run rfl rfl (by decide) (Ev.move rfl) ?_
    refine Lst.nil ?_
    exact At.meet (i9 + 1, k9, y10) hF12 ⟨rfl, rfl, rfl, rfl, rfl, trivial⟩ rfl ⟨⟨hgo9 _ (some_inj H).symm, by omega⟩, Nat.lt_succ_self _⟩
  replace H := ite_t hb16 H
  refine Cd.condT rfl hb16 ?_
  refine Cd.tail 9 (by kernel_rfl) (by kernel_rfl) ?_
  refine Qt.run rfl rfl (by decide) (Ev.loadA (i := 0) rfl rfl Try.isAgg23 Try.sizeOf23 (ch := enc y10) (Enc.len _) (Get.here _)) ?_
  refine Qt.run rfl rfl (by decide) (Ev.move rfl) ?_
  obtain ⟨x17, h18, H⟩ := bind_some H
  have g19 := vat_some h18
  obtain ⟨⟨r20v, r20h⟩, r20g, r20e, r20m, r20l⟩ := vmap_get hm_a0 g19.2.2
  obtain rfl : x17 = r20v := r20e.symm
  have r20q : Rd w0 _ _ r20h x17 := ha_a0 _ r20m
  refine Qt.run rfl rfl (by decide) (Ev.indexAddr (off' := 0 + (i9 : Int).toNat * 1) rfl rfl Try.runUnderlying90 Try.sizeOf28 g19.1 g19.2.1 rfl) ?_
  refine Qt.run rfl rfl (by decide) (Ev.load (i := 3) rfl rfl Try.isAgg28 (v := Sl.v r20h) ((Get.vecN (s := 1) rfl r20g (Get.here _)).off (by omega))) ?_
  refine Qt.run rfl rfl (by decide) (Ev.move rfl) ?_
  refine Qt.run rfl rfl (by decide) (Ev.sub rfl rfl) ?_
  obtain ⟨x21, h22, H⟩ := bind_some H
  have g23 := lat_some h22
  refine Qt.run rfl rfl (by decide) (Ev.indexS (α := Vector Int 6) (xs := x17) rfl rfl Try.runUnderlying28 Try.sizeOf23 rfl (by decide) (r20q.mono hF12 (List.Sublist.cons _ (List.Sublist.cons _ (List.Sublist.cons _ (List.Sublist.cons _ hM))))) g23.1 g23.2.1) ?_
  refine Qt.run rfl rfl (by decide) (Ev.loadSA (α := Vector Int 6) rfl (r20q.mono hF12 (List.Sublist.cons _ (List.Sublist.cons _ (List.Sublist.cons _ (List.Sublist.cons _ hM))))) Try.isAgg23 Try.sizeOf23 (ch := enc x21) (Enc.len _) (by decide) ((Get.elemN (s := 6) (x := x21) rfl g23.2.2 (Get.here _)).off (by omega))) ?_
  obtain ⟨r24, h25, H⟩ := bind_some H
  refine Qt.call rfl rfl (by decide) (vs := [.agg (enc y10).toArray, .agg (enc x21).toArray]) ⟨rfl, rfl, trivial⟩ Try.call10 (vect_Max_sim h25 w0 _ M _ (List.Sublist.cons _ (List.Sublist.cons _ (List.Sublist.cons _ (List.Sublist.cons _ hM))))) ?_
  refine Qt.tail ?_
  refine Lst.store (i := 0) rfl rfl rfl rfl rfl Try.sizeOf23 (vs := enc r24) rfl (Enc.len _) (Enc.one _) (cs' := enc r24) (Put.here ((Enc.len _).trans (Enc.len _).symm)) (L' := (.blk b7 (enc r24) 23) :: (.blk b5 (enc (Vector.replicate 6 (0 : Int))) 23) :: (.blk b3 (enc a1) 23) :: (.blk b1 (enc rs_a0) 90) :: L) rfl ?_
  refine Lst.nil ?_
  refine At.in_normal ?_
  refine At.then ?_
  refine Cd.as (e' := [(2, .pointer (some ⟨b1, 0, none⟩)), (4, .pointer (some ⟨b5, 0, none⟩)), (5, .pointer (some ⟨b7, 0, none⟩)), (9, .agg (enc a1).toArray), (10, .int .i64 (i9 : Int))]) (L' := (.blk b7 (enc r24) 23) :: (.blk b5 (enc (Vector.replicate 6 (0 : Int))) 23) :: (.blk b3 (enc a1) 23) :: (.blk b1 (enc rs_a0) 90) :: L) ⟨rfl, rfl, rfl, rfl, rfl, trivial⟩ rfl ?_
  refine Cd.region ?_
  refine Lst.run rfl rfl (by decide) (Ev.incr (by omega) rfl rfl) ?_
  refine Lst.run rfl rfl (by decide) (Ev.move rfl) ?_
  refine Lst.nil ?_
  exact At.meet (i9 + 1, k9, r24) hF12 ⟨rfl, rfl, rfl, rfl, rfl, trivial⟩ rfl ⟨⟨hgo9 _ (some_inj H).symm, by omega⟩, Nat.lt_succ_self _⟩
set_option maxRecDepth 20000 in
theorem cut_Grow_sim {a0 : List Event} {a1 : Vector Int 6} {s_a0 : Sl} {r : (Vector Int 6) × Int} (H : cut_Grow a0 a1 = some r) (w0 : World) (F : Frz) (M L : List Item) (hM : M.Sublist L) (hs_a0 : Rd w0 F M s_a0 a0) : Ok Try.prog w0 30 [Sl.v s_a0, .agg (enc a1).toArray] F (L) (Is (.tuple #[.agg (enc r.1).toArray, .int .i64 r.2]) (L)) := by
  unfold cut_Grow at H
  refine Ok.enter (m := 2) (n := 18) Try.func30 rfl rfl rfl (by decide) ?_
  refine Cd.env (e' := [(0, Sl.v s_a0), (1, .agg (enc a1).toArray)]) rfl ?_
  refine Cd.seq ?_
  refine Cd.region ?_
  refine Lst.box rfl rfl (by decide) rfl (cs := enc a1) rfl (fun b1 => ?_)
  refine Lst.alloc (cs := enc (Vector.replicate 6 (0 : Int))) rfl rfl (by decide) Try.zeroValue23 rfl (fun b3 => ?_)
  refine Lst.run rfl rfl (by decide) (Ev.assign rfl) ?_
  refine Lst.nil ?_
  refine At.then ?_
  refine Cd.seq ?_
  refine Cd.seq ?_
  refine Cd.region ?_
  refine Lst.run rfl rfl (by decide) (Ev.move rfl) ?_
  refine Lst.run rfl rfl (by decide) (Ev.loadA (i := 1) rfl rfl Try.isAgg23 Try.sizeOf23 (ch := enc a1) (Enc.len _) (Get.here _)) ?_
  obtain ⟨r5, h6, H⟩ := bind_some H
  refine Lst.call1 rfl rfl (by decide) (vs := [Sl.v s_a0, .agg (enc a1).toArray]) ⟨rfl, rfl, trivial⟩ Try.call32 (cut_Check_sim h6 w0 _ M _ (List.Sublist.cons _ (List.Sublist.cons _ hM)) (hs_a0.mono (FLe.refl _) (List.Sublist.refl _))) ?_
  refine Lst.run rfl rfl (by decide) (Ev.assign rfl) ?_
  refine Lst.nil ?_
  refine At.then ?_
  refine Cd.seq ?_
  refine Cd.region ?_
  refine Lst.run rfl rfl (by decide) (Ev.move rfl) ?_
  refine Lst.run rfl rfl (by decide) (Ev.neq rfl rfl) ?_
  refine Lst.nil ?_
  refine At.then ?_
  rcases Bool.eq_false_or_eq_true (r5 != (0 : Int)) with hb9 | hb9
  · replace H := ite_t hb9 H
    refine Cd.condT rfl hb9 ?_
    refine Cd.seq ?_
    refine Cd.region ?_
    refine Lst.run rfl rfl (by decide) (Ev.build (v := .agg (enc ((Vector.replicate 6 (0 : Int)) : Vector Int 6)).toArray) (pv := []) trivial (fun w => by kernel_rfl)) ?_
    refine Lst.run rfl rfl (by decide) (Ev.move rfl) ?_
    refine Lst.store (i := 0) rfl rfl rfl rfl rfl Try.sizeOf23 (vs := enc ((Vector.replicate 6 (0 : Int)) : Vector Int 6)) rfl (Enc.len _) (Enc.one _) (cs' := enc ((Vector.replicate 6 (0 : Int)) : Vector Int 6)) (Put.here ((Enc.len _).trans (Enc.len _).symm)) (L' := (.blk b3 (enc ((Vector.replicate 6 (0 : Int)) : Vector Int 6)) 23) :: (.blk b1 (enc a1) 23) :: L) rfl ?_
    refine Lst.run rfl rfl (by decide) (Ev.assign rfl) ?_
    refine Lst.nil ?_
    refine At.then ?_
    obtain rfl := some_inj H
    refine Cd.ret ?_
    refine At.then_ret ?_
    exact At.ret2 rfl (Res.cellA (i := 0) rfl rfl Try.isAgg23 Try.sizeOf23 (Enc.len _)) (Res.tmp rfl) (FLe.refl _) (List.Sublist.cons _ (List.Sublist.cons _ (List.Sublist.refl _))) ⟨rfl, rfl⟩
  replace H := ite_f hb9 H
  refine Cd.condF rfl hb9 ?_
  refine Cd.skip ?_
  refine At.then ?_
  refine Cd.seq ?_
  obtain ⟨r10, h11, H⟩ := bind_some H
  obtain ⟨o22, h23, H⟩ := Let_some H
  refine Cd.headMeet (σ := (Vector (LR (Vector Int 6)) 6) × (Vector (List (Vector Int 6)) 6)) 3 (fun (rs18, l19) => [(4, .pointer (some ⟨b3, 0, none⟩)), (15, .agg (enc rs18).toArray), (16, .agg (enc a1).toArray)]) (fun (rs18, l19) => (.rows (α := Vector Int 6) 23 rs18.toList) :: (.blk b3 (enc (Vector.replicate 6 (0 : Int))) 23) :: (.blk b1 (enc a1) 23) :: L) (fun Fx (rs18, l19) => l19 = o22 ∧ rs18.toList.map LR.v = l19.toList) (by kernel_rfl) (by kernel_rfl) (behind_sink (by kernel_rfl) (by kernel_rfl) (by kernel_rfl)) (by kernel_rfl) (fun hsel hlt => ?_) ?_
  · refine HdJ.keep (fun w => St w0 F ((.blk b3 (enc (Vector.replicate 6 (0 : Int))) 23) :: (.blk b1 (enc a1) 23) :: L) w) (fun w h => trivial) ?_
    refine HdJ.takeK hsel hlt 0 (fun w h => h.sublist (List.Sublist.cons_cons _ (List.Sublist.cons_cons _ (List.Sublist.refl _)))) rfl rfl (by decide) (by decide) (by kernel_rfl) (by kernel_rfl) rfl (Ev.move rfl) ?_
    refine HdJ.takeK hsel hlt 2 (fun w h => h.sublist (List.Sublist.cons_cons _ (List.Sublist.cons_cons _ (List.Sublist.refl _)))) rfl rfl (by decide) (by decide) (by kernel_rfl) (by kernel_rfl) rfl (Ev.loadA (i := 1) rfl rfl Try.isAgg23 Try.sizeOf23 (ch := enc a1) (Enc.len _) (Get.here _)) ?_
    refine HdJ.step [1] (by kernel_rfl) rfl ?_
    refine HdStep.cons (by decide) rfl (fun inv => ?_) ?_
    · refine Lst.call rfl rfl (by decide) (vs := [Sl.v s_a0]) ⟨rfl, trivial⟩ Try.call56 (cut_vectors_sim h11 w0 _ M _ (List.Sublist.cons _ (List.Sublist.cons _ hM)) (hs_a0.mono (FLe.refl _) (List.Sublist.refl _))) (fun F26 L' v hF27 hv => ?_)
      obtain ⟨rs24, rfl, rfl, fm25⟩ := hv
      refine Lst.nil ?_
      refine At.hd inv (fun w h => (h.weaken hF27).sublist (List.Sublist.cons _ (List.Sublist.cons_cons _ (List.Sublist.cons_cons _ (List.Sublist.refl _))))) ?_
      refine HdJ.done (by kernel_rfl) ?_
      exact At.meetN (rs24, r10) hF27 ⟨rfl, rfl, rfl, trivial⟩ rfl ⟨h23, fm25⟩
    exact trivial
  rintro F28 ⟨rs18, l19⟩ hF29 ⟨hy, fm20⟩
  subst hy
  refine Lst.as (e' := [(4, .pointer (some ⟨b3, 0, none⟩)), (15, .agg (enc rs18).toArray), (16, .agg (enc a1).toArray)]) (L' := (.rows (α := Vector Int 6) 23 rs18.toList) :: (.blk b3 (enc (Vector.replicate 6 (0 : Int))) 23) :: (.blk b1 (enc a1) 23) :: L) ⟨rfl, rfl, rfl, trivial⟩ rfl ?_
  obtain ⟨r30, h31, H⟩ := bind_some H
  refine Lst.call1 rfl rfl (by decide) (vs := [.agg (enc rs18).toArray, .agg (enc a1).toArray]) ⟨rfl, rfl, trivial⟩ Try.call55 (cut_grown_sim h31 w0 _ _ _ (List.Sublist.refl _) fm20 (All.rowsHead (j := 0) rfl)) ?_
  refine Lst.store (i := 1) rfl rfl rfl rfl rfl Try.sizeOf23 (vs := enc r30) rfl (Enc.len _) (Enc.one _) (cs' := enc r30) (Put.here ((Enc.len _).trans (Enc.len _).symm)) (L' := (.rows (α := Vector Int 6) 23 rs18.toList) :: (.blk b3 (enc r30) 23) :: (.blk b1 (enc a1) 23) :: L) rfl ?_
  refine Lst.run rfl rfl (by decide) (Ev.assign rfl) ?_
  refine Lst.nil ?_
  refine At.then ?_
  obtain rfl := some_inj H
  refine Cd.ret ?_
  exact At.ret2 rfl (Res.cellA (i := 1) rfl rfl Try.isAgg23 Try.sizeOf23 (Enc.len _)) (Res.tmp rfl) hF29 (List.Sublist.cons _ (List.Sublist.cons _ (List.Sublist.cons _ (List.Sublist.refl _)))) ⟨rfl, rfl⟩
set_option maxRecDepth 20000 in
theorem cut_Right_sim {a0 : List Event} {a1 : Vector Int 6} {s_a0 : Sl} {r : Bool × Int} (H : cut_Right a0 a1 = some r) (w0 : World) (F : Frz) (M L : List Item) (hM : M.Sublist L) (hs_a0 : Rd w0 F M s_a0 a0) : Ok Try.prog w0 29 [Sl.v s_a0, .agg (enc a1).toArray] F (L) (Is (.tuple #[.bool r.1, .int .i64 r.2]) (L)) := by
  unfold cut_Right at H
  refine Ok.enter (m := 2) (n := 22) Try.func29 rfl rfl rfl (by decide) ?_
  refine Cd.env (e' := [(0, Sl.v s_a0), (1, .agg (enc a1).toArray)]) rfl ?_
  refine Cd.seq ?_
  refine Cd.region ?_
  refine Lst.box rfl rfl (by decide) rfl (cs := enc a1) rfl (fun b1 => ?_)
  refine Lst.run rfl rfl (by decide) (Ev.assign rfl) ?_
  refine Lst.run rfl rfl (by decide) (Ev.assign rfl) ?_
  refine Lst.nil ?_
  refine At.then ?_
  refine Cd.seq ?_
  refine Cd.region ?_
  refine Lst.run rfl rfl (by decide) (Ev.move rfl) ?_
  refine Lst.run rfl rfl (by decide) (Ev.loadA (i := 0) rfl rfl Try.isAgg23 Try.sizeOf23 (ch := enc a1) (Enc.len _) (Get.here _)) ?_
  obtain ⟨r3, h4, H⟩ := bind_some H
  refine Lst.call1 rfl rfl (by decide) (vs := [Sl.v s_a0, .agg (enc a1).toArray]) ⟨rfl, rfl, trivial⟩ Try.call30 (cut_Grow_sim h4 w0 _ M _ (List.Sublist.cons _ hM) (hs_a0.mono (FLe.refl _) (List.Sublist.refl _))) ?_
  refine Lst.run rfl rfl (by decide) (Ev.move rfl) ?_
  refine Lst.run rfl rfl (by decide) (Ev.extract rfl rfl) ?_
  refine Lst.run rfl rfl (by decide) (Ev.extract rfl rfl) ?_
  refine Lst.alloc (cs := enc (Vector.replicate 6 (0 : Int))) rfl rfl (by decide) Try.zeroValue23 rfl (fun b7 => ?_)
  refine Lst.store (i := 0) rfl rfl rfl rfl rfl Try.sizeOf23 (vs := enc r3.1) rfl (Enc.len _) (Enc.one _) (cs' := enc r3.1) (Put.here ((Enc.len _).trans (Enc.len _).symm)) (L' := (.blk b7 (enc r3.1) 23) :: (.blk b1 (enc a1) 23) :: L) rfl ?_
  refine Lst.run rfl rfl (by decide) (Ev.assign rfl) ?_
  refine Lst.nil ?_
  refine At.then ?_
  refine Cd.seq ?_
  refine Cd.region ?_
  refine Lst.run rfl rfl (by decide) (Ev.move rfl) ?_
  refine Lst.run rfl rfl (by decide) (Ev.eql rfl rfl) ?_
  refine Lst.run rfl rfl (by decide) (Ev.move rfl) ?_
  obtain ⟨o9, H, HKo9⟩ := bind_some H
  refine Lst.join (σ := Bool) 4 (fun y10 => [(7, .int .i64 r3.2), (20, .bool y10)]) (fun y10 => (.blk b7 (enc r3.1) 23) :: (.blk b1 (enc a1) 23) :: L) (fun _ y10 => y10 = o9) ?_ ?_
  · rcases (Bool.eq_false_or_eq_true (r3.2 == (0 : Int))).symm with hb11 | hb11
    · replace H := ite_f hb11 H
      refine Lst.skip rfl rfl rfl hb11 rfl (by decide) ?_
      refine Lst.skip rfl rfl rfl hb11 rfl (by decide) ?_
      refine Lst.skip rfl rfl rfl hb11 rfl (by decide) ?_
      refine Lst.run rfl rfl (by decide) (Ev.pickF rfl hb11 rfl) ?_
      refine Lst.nil ?_
      exact At.meet false (FLe.refl _) ⟨rfl, rfl, trivial⟩ rfl (some_inj H)
    replace H := ite_t hb11 H
    refine Lst.runG rfl rfl rfl hb11 rfl (by decide) (Ev.loadA (i := 0) rfl rfl Try.isAgg23 Try.sizeOf23 (ch := enc r3.1) (Enc.len _) (Get.here _)) ?_
    refine Lst.runG rfl rfl rfl hb11 rfl (by decide) (Ev.loadA (i := 1) rfl rfl Try.isAgg23 Try.sizeOf23 (ch := enc a1) (Enc.len _) (Get.here _)) ?_
    refine Lst.runG rfl rfl rfl hb11 rfl (by decide) (Ev.eqlA rfl rfl (by kernel_rfl) (eq23 _ _)) ?_
    refine Lst.run rfl rfl (by decide) (Ev.pickT rfl hb11 rfl) ?_
    refine Lst.nil ?_
    exact At.meet (decide (r3.1 = a1)) (FLe.refl _) ⟨rfl, rfl, trivial⟩ rfl (some_inj H)
  rintro F12 y10 hF13 hy
  subst hy
  refine Lst.as (e' := [(7, .int .i64 r3.2), (20, .bool y10)]) (L' := (.blk b7 (enc r3.1) 23) :: (.blk b1 (enc a1) 23) :: L) ⟨rfl, rfl, trivial⟩ rfl ?_
  replace H := HKo9
  refine Lst.run rfl rfl (by decide) (Ev.move rfl) ?_
  refine Lst.run rfl rfl (by decide) (Ev.assign rfl) ?_
  refine Lst.run rfl rfl (by decide) (Ev.assign rfl) ?_
  refine Lst.nil ?_
  refine At.then ?_
  obtain rfl := some_inj H
  refine Cd.ret ?_
  exact At.ret2 rfl (Res.tmp rfl) (Res.tmp rfl) hF13 (List.Sublist.cons _ (List.Sublist.cons _ (List.Sublist.refl _))) ⟨rfl, rfl⟩
set_option maxRecDepth 20000 in
theorem vect_Compare_sim {a0 : Vector Int 6} {a1 : Vector Int 6} {r : Int} (H : vect_Compare a0 a1 = some r) (w0 : World) (F : Frz) (M L : List Item) (hM : M.Sublist L) : Ok Try.prog w0 12 [.agg (enc a0).toArray, .agg (enc a1).toArray] F (L) (Is (.int .i64 r) (L)) := by
  unfold vect_Compare at H
  refine Ok.enter (m := 2) (n := 17) Try.func12 rfl rfl rfl (by decide) ?_
  refine Cd.env (e' := [(0, .agg (enc a0).toArray), (1, .agg (enc a1).toArray)]) rfl ?_
  refine Cd.seq ?_
  refine Cd.region ?_
  refine Lst.box rfl rfl (by decide) rfl (cs := enc a0) rfl (fun b1 => ?_)
  refine Lst.box rfl rfl (by decide) rfl (cs := enc a1) rfl (fun b3 => ?_)
  refine Lst.run rfl rfl (by decide) (Ev.assign rfl) ?_
  refine Lst.nil ?_
  refine At.then ?_
  refine Cd.seq ?_
  refine Cd.block ?_
  refine Cd.seq ?_
  refine Cd.region ?_
  refine Lst.run rfl rfl (by decide) (Ev.loadA (i := 1) rfl rfl Try.isAgg23 Try.sizeOf23 (ch := enc a0) (Enc.len _) (Get.here _)) ?_
  refine Lst.run rfl rfl (by decide) (Ev.loadA (i := 0) rfl rfl Try.isAgg23 Try.sizeOf23 (ch := enc a1) (Enc.len _) (Get.here _)) ?_
  refine Lst.run rfl rfl (by decide) (Ev.eqlA rfl rfl (by kernel_rfl) (eq23 _ _)) ?_
  refine Lst.run rfl rfl (by decide) (Ev.assign rfl) ?_
  refine Lst.nil ?_
  refine At.then ?_
  rcases Bool.eq_false_or_eq_true (decide (a0 = a1)) with hb5 | hb5
  · replace H := ite_t hb5 H
    refine Cd.condT rfl hb5 ?_
    refine Cd.seq ?_
    refine Cd.region ?_
    refine Lst.run rfl rfl (by decide) (Ev.assign rfl) ?_
    refine Lst.nil ?_
    refine At.then ?_
    obtain rfl := some_inj H
    refine Cd.ret ?_
    refine At.in_ret ?_
    refine At.then_ret ?_
    exact At.ret1 rfl (Res.tmp rfl) (FLe.refl _) (List.Sublist.cons _ (List.Sublist.cons _ (List.Sublist.refl _))) ⟨rfl, rfl⟩
  replace H := ite_f hb5 H
  refine Cd.condF rfl hb5 ?_
  refine Cd.seq ?_
  refine Cd.region ?_
  refine Lst.run rfl rfl (by decide) (Ev.loadA (i := 1) rfl rfl Try.isAgg23 Try.sizeOf23 (ch := enc a0) (Enc.len _) (Get.here _)) ?_
  refine Lst.run rfl rfl (by decide) (Ev.loadA (i := 0) rfl rfl Try.isAgg23 Try.sizeOf23 (ch := enc a1) (Enc.len _) (Get.here _)) ?_
  obtain ⟨r6, h7, H⟩ := bind_some H
  refine Lst.call1 rfl rfl (by decide) (vs := [.agg (enc a0).toArray, .agg (enc a1).toArray]) ⟨rfl, rfl, trivial⟩ Try.call14 (vect_Within_sim h7 w0 _ M _ (List.Sublist.cons _ (List.Sublist.cons _ hM))) ?_
  refine Lst.run rfl rfl (by decide) (Ev.assign rfl) ?_
  refine Lst.nil ?_
  refine At.then ?_
  rcases Bool.eq_false_or_eq_true r6 with hb10 | hb10
  · replace H := ite_t hb10 H
    refine Cd.condT rfl hb10 ?_
    refine Cd.seq ?_
    refine Cd.region ?_
    refine Lst.run rfl rfl (by decide) (Ev.assign rfl) ?_
    refine Lst.nil ?_
    refine At.then ?_
    obtain rfl := some_inj H
    refine Cd.ret ?_
    refine At.in_ret ?_
    refine At.then_ret ?_
    exact At.ret1 rfl (Res.tmp rfl) (FLe.refl _) (List.Sublist.cons _ (List.Sublist.cons _ (List.Sublist.refl _))) ⟨rfl, rfl⟩
  replace H := ite_f hb10 H
  refine Cd.condF rfl hb10 ?_
  refine Cd.seq ?_
  refine Cd.region ?_
  refine Lst.run rfl rfl (by decide) (Ev.loadA (i := 0) rfl rfl Try.isAgg23 Try.sizeOf23 (ch := enc a1) (Enc.len _) (Get.here _)) ?_
  refine Lst.run rfl rfl (by decide) (Ev.loadA (i := 1) rfl rfl Try.isAgg23 Try.sizeOf23 (ch := enc a0) (Enc.len _) (Get.here _)) ?_
  obtain ⟨r11, h12, H⟩ := bind_some H
  refine Lst.call1 rfl rfl (by decide) (vs := [.agg (enc a1).toArray, .agg (enc a0).toArray]) ⟨rfl, rfl, trivial⟩ Try.call14 (vect_Within_sim h12 w0 _ M _ (List.Sublist.cons _ (List.Sublist.cons _ hM))) ?_
  refine Lst.run rfl rfl (by decide) (Ev.assign rfl) ?_
  refine Lst.nil ?_
  refine At.then ?_
  rcases Bool.eq_false_or_eq_true r11 with hb15 | hb15
  · replace H := ite_t hb15 H
    refine Cd.condT rfl hb15 ?_
    refine Cd.seq ?_
    refine Cd.as (e' := []) (L' := (.blk b3 (enc a1) 23) :: (.blk b1 (enc a0) 23) :: L) trivial rfl ?_
    refine Cd.region ?_
    refine Lst.run rfl rfl (by decide) (Ev.assign rfl) ?_
    refine Lst.nil ?_
    refine At.then ?_
    obtain rfl := some_inj H
    refine Cd.ret ?_
    refine At.in_ret ?_
    refine At.then_ret ?_
    exact At.ret1 rfl (Res.tmp rfl) (FLe.refl _) (List.Sublist.cons _ (List.Sublist.cons _ (List.Sublist.refl _))) ⟨rfl, rfl⟩
  replace H := ite_f hb15 H
  refine Cd.condF rfl hb15 ?_
  refine Cd.skip ?_
  refine At.in_normal ?_
  refine At.then ?_
  refine Cd.seq ?_
  refine Cd.as (e' := []) (L' := (.blk b3 (enc a1) 23) :: (.blk b1 (enc a0) 23) :: L) trivial rfl ?_
  refine Cd.region ?_
  refine Lst.run rfl rfl (by decide) (Ev.assign rfl) ?_
  refine Lst.nil ?_
  refine At.then ?_
  obtain rfl := some_inj H
  refine Cd.ret ?_
  exact At.ret1 rfl (Res.tmp rfl) (FLe.refl _) (List.Sublist.cons _ (List.Sublist.cons _ (List.Sublist.refl _))) ⟨rfl, rfl⟩
set_option maxRecDepth 20000 in
theorem parttop_TopCauses_sim {a0 : List Event} {s_a0 : Sl} {r : Bool} (H : parttop_TopCauses a0 = some r) (w0 : World) (F : Frz) (M L : List Item) (hM : M.Sublist L) (hs_a0 : Rd w0 F M s_a0 a0) : Ok Try.prog w0 8 [Sl.v s_a0] F (L) (Is (.bool r) (L)) := by
  unfold parttop_TopCauses at H
  refine Ok.enter (m := 1) (n := 102) Try.func8 rfl rfl rfl (by decide) ?_
  refine Cd.env (e' := [(0, Sl.v s_a0)]) rfl ?_
  refine Cd.seq ?_
  refine Cd.region ?_
  refine Lst.run rfl rfl (by decide) (Ev.assign rfl) ?_
  refine Lst.nil ?_
  refine At.then ?_
  refine Cd.seq ?_
  refine Cd.seq ?_
  refine Cd.region ?_
  obtain ⟨r1, h2, H⟩ := bind_some H
  refine Lst.call1 rfl rfl (by decide) (vs := []) trivial Try.call44 (parttop_grown_sim h2 w0 _ M _ hM) ?_
  refine Lst.run rfl rfl (by decide) (Ev.not rfl) ?_
  refine Lst.nil ?_
  refine At.then ?_
  rcases Bool.eq_false_or_eq_true (!r1) with hb5 | hb5
  · replace H := ite_t hb5 H
    refine Cd.condT rfl hb5 ?_
    refine Cd.seq ?_
    refine Cd.region ?_
    refine Lst.run rfl rfl (by decide) (Ev.assign rfl) ?_
    refine Lst.nil ?_
    refine At.then ?_
    obtain rfl := some_inj H
    refine Cd.ret ?_
    refine At.then_ret ?_
    exact At.ret1 rfl (Res.tmp rfl) (FLe.refl _) (List.Sublist.refl _) ⟨rfl, rfl⟩
  replace H := ite_f hb5 H
  refine Cd.condF rfl hb5 ?_
  refine Cd.skip ?_
  refine At.then ?_
  refine Cd.seq ?_
  refine Cd.region ?_
  refine Lst.run rfl rfl (by decide) (Ev.move rfl) ?_
  obtain ⟨r6, h7, H⟩ := bind_some H
  refine Lst.call rfl rfl (by decide) (vs := [Sl.v s_a0]) ⟨rfl, trivial⟩ Try.call45 (parttop_historyOf_sim h7 w0 _ M _ hM (hs_a0.mono (FLe.refl _) (List.Sublist.refl _))) (fun F10 L' v hF11 hv => ?_)
  obtain ⟨s8, rfl, rfl⟩ := hv
  refine Lst.run rfl rfl (by decide) (Ev.assign rfl) ?_
  refine Lst.nil ?_
  refine At.then ?_
  refine Cd.seq ?_
  refine Cd.region ?_
  refine Lst.run rfl rfl (by decide) (Ev.move rfl) ?_
  obtain ⟨r12, h13, H⟩ := bind_some H
  refine Lst.call rfl rfl (by decide) (vs := [Sl.v s8]) ⟨rfl, trivial⟩ Try.call19 (stamp_Stamps_sim h13 w0 _ _ _ (List.Sublist.refl _) (Rd.own (i := 0) rfl rfl rfl)) (fun F16 L' v hF17 hv => ?_)
  obtain ⟨s14, rfl, rfl⟩ := hv
  refine Lst.run rfl rfl (by decide) (Ev.move rfl) ?_
  refine Lst.run rfl rfl (by decide) (Ev.extract rfl rfl) ?_
  refine Lst.run rfl rfl (by decide) (Ev.extract rfl rfl) ?_
  refine Lst.run rfl rfl (by decide) (Ev.assign rfl) ?_
  refine Lst.run rfl rfl (by decide) (Ev.assign rfl) ?_
  refine Lst.nil ?_
  refine At.then ?_
  refine Cd.seq ?_
  refine Cd.region ?_
  refine Lst.run rfl rfl (by decide) (Ev.move rfl) ?_
  obtain ⟨r18, h19, H⟩ := bind_some H
  refine Lst.call rfl rfl (by decide) (vs := [Sl.v s8]) ⟨rfl, trivial⟩ Try.call15 (vect_Vectors_sim h19 w0 _ _ _ (List.Sublist.refl _) (Rd.own (i := 1) rfl rfl rfl)) (fun F22 L' v hF23 hv => ?_)
  obtain ⟨s20, rfl, rfl⟩ := hv
  refine Lst.run rfl rfl (by decide) (Ev.move rfl) ?_
  refine Lst.run rfl rfl (by decide) (Ev.extract rfl rfl) ?_
  refine Lst.run rfl rfl (by decide) (Ev.extract rfl rfl) ?_
  refine Lst.run rfl rfl (by decide) (Ev.assign rfl) ?_
  refine Lst.run rfl rfl (by decide) (Ev.assign rfl) ?_
  refine Lst.nil ?_
  refine At.then ?_
  refine Cd.seq ?_
  refine Cd.seq ?_
  refine Cd.as (e' := [(3, Sl.v s8), (4, Sl.v s14), (5, .int .i64 r12.2), (6, Sl.v s20), (7, .int .i64 r18.2)]) (L' := (.own s20 23 6 (encs r18.1)) :: (.own s14 3 1 (encs r12.1)) :: (.own s8 75 3 (encs r6)) :: L) ⟨rfl, rfl, rfl, rfl, rfl, trivial⟩ rfl ?_
  refine Cd.region ?_
  refine Lst.run rfl rfl (by decide) (Ev.move rfl) ?_
  refine Lst.run rfl rfl (by decide) (Ev.neq rfl rfl) ?_
  refine Lst.run rfl rfl (by decide) (Ev.move rfl) ?_
  obtain ⟨o24, H, HKo24⟩ := bind_some H
  refine Lst.join (σ := Bool) 3 (fun y25 => [(3, Sl.v s8), (4, Sl.v s14), (6, Sl.v s20), (33, .bool y25)]) (fun y25 => (.own s20 23 6 (encs r18.1)) :: (.own s14 3 1 (encs r12.1)) :: (.own s8 75 3 (encs r6)) :: L) (fun _ y25 => y25 = o24) ?_ ?_
  · rcases Bool.eq_false_or_eq_true (r12.2 != (0 : Int)) with hb26 | hb26
    · replace H := ite_t hb26 H
      refine Lst.skip rfl rfl rfl hb26 rfl (by decide) ?_
      refine Lst.skip rfl rfl rfl hb26 rfl (by decide) ?_
      refine Lst.run rfl rfl (by decide) (Ev.pickT rfl hb26 rfl) ?_
      refine Lst.nil ?_
      exact At.meet true (FLe.refl _) ⟨rfl, rfl, rfl, rfl, trivial⟩ rfl (some_inj H)
    replace H := ite_f hb26 H
    refine Lst.runG rfl rfl rfl hb26 rfl (by decide) (Ev.move rfl) ?_
    refine Lst.runG rfl rfl rfl hb26 rfl (by decide) (Ev.neq rfl rfl) ?_
    refine Lst.run rfl rfl (by decide) (Ev.pickF rfl hb26 rfl) ?_
    refine Lst.nil ?_
    exact At.meet (r18.2 != (0 : Int)) (FLe.refl _) ⟨rfl, rfl, rfl, rfl, trivial⟩ rfl (some_inj H)
  rintro F27 y25 hF28 hy
  subst hy
  refine Lst.as (e' := [(3, Sl.v s8), (4, Sl.v s14), (6, Sl.v s20), (33, .bool y25)]) (L' := (.own s20 23 6 (encs r18.1)) :: (.own s14 3 1 (encs r12.1)) :: (.own s8 75 3 (encs r6)) :: L) ⟨rfl, rfl, rfl, rfl, trivial⟩ rfl ?_
  replace H := HKo24
  refine Lst.nil ?_
  refine At.then ?_
  rcases Bool.eq_false_or_eq_true y25 with hb29 | hb29
  · replace H := ite_t hb29 H
    refine Cd.condT rfl hb29 ?_
    refine Cd.seq ?_
    refine Cd.region ?_
    refine Lst.run rfl rfl (by decide) (Ev.assign rfl) ?_
    refine Lst.nil ?_
    refine At.then ?_
    obtain rfl := some_inj H
    refine Cd.ret ?_
    refine At.then_ret ?_
    exact At.ret1 rfl (Res.tmp rfl) (FLe.trans (FLe.trans (FLe.trans hF11 hF17) hF23) hF28) (List.Sublist.cons _ (List.Sublist.cons _ (List.Sublist.cons _ (List.Sublist.refl _)))) ⟨rfl, rfl⟩
  replace H := ite_f hb29 H
  refine Cd.condF rfl hb29 ?_
  refine Cd.skip ?_
  refine At.then ?_
  refine Cd.seq ?_
  refine Cd.seq ?_
  refine Cd.region ?_
  refine Lst.run rfl rfl (by decide) (Ev.move rfl) ?_
  refine Lst.run rfl rfl (by decide) (Ev.lenS (α := Event) (xs := r6) (by decide) rfl rfl Try.runUnderlying24 (Rd.own (i := 2) rfl rfl rfl)) ?_
  refine Lst.run rfl rfl (by decide) (Ev.move rfl) ?_
  refine Lst.nil ?_
  refine At.then ?_
  refine Cd.block ?_
  refine Cd.bound (Rd.le (α := Event) (xs := r6) (by decide) (Rd.own (i := 2) rfl rfl rfl)) (fun hN86 => ?_)
  obtain ⟨ol30, H, HKl30⟩ := andThen_some H
  refine Cd.loop (σ := Nat × Nat × Unit) (fun (i30, k30, _u) => [(3, Sl.v s8), (4, Sl.v s14), (6, Sl.v s20), (35, .int .i64 (r6.length : Int)), (36, .int .i64 (i30 : Int))]) (fun (i30, k30, _u) => (.own s20 23 6 (encs r18.1)) :: (.own s14 3 1 (encs r12.1)) :: (.own s8 75 3 (encs r6)) :: L) (fun _ => (fun (i30, k30, _u) => rangeM (parttop_TopCauses_B0 r6 r12 r18) k30 i30 () = some ol30 ∧ i30 + k30 = r6.length)) (fun (i30, k30, _u) => k30) (0, r6.length, ()) ⟨rfl, rfl, rfl, rfl, rfl, trivial⟩ rfl ⟨H, by omega⟩ ?_
  rintro F31 ⟨i30, k30, _u⟩ hF32 ⟨H, hik30⟩
  refine Cd.as (e' := [(3, Sl.v s8), (4, Sl.v s14), (6, Sl.v s20), (35, .int .i64 (r6.length : Int)), (36, .int .i64 (i30 : Int))]) (L' := (.own s20 23 6 (encs r18.1)) :: (.own s14 3 1 (encs r12.1)) :: (.own s8 75 3 (encs r6)) :: L) ⟨rfl, rfl, rfl, rfl, rfl, trivial⟩ rfl ?_
  rcases k30 with _ | k30
  · have hc30 : decide ((i30 : Int) < (r6.length : Int)) = false := decide_eq_false (by omega)
    replace H := rangeM_end H
    refine Cd.seq ?_
    refine Cd.region ?_
    refine Lst.run rfl rfl (by decide) (Ev.lss rfl rfl) ?_
    refine Lst.nil ?_
    refine At.then ?_
    refine Cd.seq ?_
    refine Cd.condF rfl hc30 ?_
    refine Cd.exit ?_
    refine At.then_exit ?_
    refine At.then_exit ?_
    refine At.in_exit ?_
    subst H
    replace H := HKl30
    refine At.then ?_
    refine Cd.seq ?_
    refine Cd.region ?_
    refine Lst.run rfl rfl (by decide) (Ev.assign rfl) ?_
    refine Lst.nil ?_
    refine At.then ?_
    obtain rfl := some_inj H
    refine Cd.ret ?_
    exact At.ret1 rfl (Res.tmp rfl) (FLe.trans (FLe.trans (FLe.trans (FLe.trans hF11 hF17) hF23) hF28) hF32) (List.Sublist.cons _ (List.Sublist.cons _ (List.Sublist.cons _ (List.Sublist.refl _)))) ⟨rfl, rfl⟩
  have hc30 : decide ((i30 : Int) < (r6.length : Int)) = true := decide_eq_true (by omega)
  obtain ⟨c30, H, hgo30, hbrk30, hret30⟩ := rangeM_go H
  unfold parttop_TopCauses_B0 at H
  try dsimp only at H
  refine Cd.seq ?_
  refine Cd.region ?_
  refine Lst.run rfl rfl (by decide) (Ev.lss rfl rfl) ?_
  refine Lst.nil ?_
  refine At.then ?_
  refine Cd.seq ?_
  refine Cd.condT rfl hc30 ?_
  refine Cd.skip ?_
  refine At.then ?_
  refine Cd.seq ?_
  refine Cd.block ?_
  refine Cd.seq ?_
  refine Cd.region ?_
  refine Lst.run rfl rfl (by decide) (Ev.move rfl) ?_
  refine Lst.run rfl rfl (by decide) (Ev.assign rfl) ?_
  refine Lst.nil ?_
  refine At.then ?_
  refine Cd.seq ?_
  refine Cd.region ?_
  refine Lst.run rfl rfl (by decide) (Ev.move rfl) ?_
  refine Lst.run rfl rfl (by decide) (Ev.move rfl) ?_
  refine Lst.run rfl rfl (by decide) (Ev.move rfl) ?_
  obtain ⟨x33, h34, H⟩ := bind_some H
  have g35 := lat_some h34
  refine Lst.run rfl rfl (by decide) (Ev.indexS (α := Vector Int 6) (xs := r18.1) rfl rfl Try.runUnderlying28 Try.sizeOf23 rfl (by decide) (Rd.own (i := 0) rfl rfl rfl) g35.1 g35.2.1) ?_
  refine Lst.run rfl rfl (by decide) (Ev.loadSA (α := Vector Int 6) rfl (Rd.own (i := 0) rfl rfl rfl) Try.isAgg23 Try.sizeOf23 (ch := enc x33) (Enc.len _) (by decide) ((Get.elemN (s := 6) (x := x33) rfl g35.2.2 (Get.here _)).off (by omega))) ?_
  obtain ⟨r36, h37, H⟩ := bind_some H
  refine Lst.call1 rfl rfl (by decide) (vs := [Sl.v s8, .agg (enc x33).toArray]) ⟨rfl, rfl, trivial⟩ Try.call29 (cut_Right_sim h37 w0 _ _ _ (List.Sublist.refl _) (Rd.own (i := 2) rfl rfl rfl)) ?_
  refine Lst.run rfl rfl (by decide) (Ev.move rfl) ?_
  refine Lst.run rfl rfl (by decide) (Ev.extract rfl rfl) ?_
  refine Lst.run rfl rfl (by decide) (Ev.extract rfl rfl) ?_
  refine Lst.run rfl rfl (by decide) (Ev.assign rfl) ?_
  refine Lst.run rfl rfl (by decide) (Ev.assign rfl) ?_
  refine Lst.nil ?_
  refine At.then ?_
  refine Cd.seq ?_
  refine Cd.seq ?_
  refine Cd.region ?_
  refine Lst.run rfl rfl (by decide) (Ev.move rfl) ?_
  refine Lst.run rfl rfl (by decide) (Ev.neq rfl rfl) ?_
  refine Lst.run rfl rfl (by decide) (Ev.move rfl) ?_
  obtain ⟨o40, H, HKo40⟩ := bind_some H
  refine Lst.join (σ := Bool) 3 (fun y41 => [(3, Sl.v s8), (4, Sl.v s14), (6, Sl.v s20), (8, .int .i64 (i30 : Int)), (35, .int .i64 (r6.length : Int)), (36, .int .i64 (i30 : Int)), (53, .bool y41)]) (fun y41 => (.own s20 23 6 (encs r18.1)) :: (.own s14 3 1 (encs r12.1)) :: (.own s8 75 3 (encs r6)) :: L) (fun _ y41 => y41 = o40) ?_ ?_
  · rcases Bool.eq_false_or_eq_true (r36.2 != (0 : Int)) with hb42 | hb42
    · replace H := ite_t hb42 H
      refine Lst.skip rfl rfl rfl hb42 rfl (by decide) ?_
      refine Lst.skip rfl rfl rfl hb42 rfl (by decide) ?_
      refine Lst.run rfl rfl (by decide) (Ev.pickT rfl hb42 rfl) ?_
      refine Lst.nil ?_
      exact At.meet true (FLe.refl _) ⟨rfl, rfl, rfl, rfl, rfl, rfl, rfl, trivial⟩ rfl (some_inj H)
    replace H := ite_f hb42 H
    refine Lst.runG rfl rfl rfl hb42 rfl (by decide) (Ev.move rfl) ?_
    refine Lst.runG rfl rfl rfl hb42 rfl (by decide) (Ev.not rfl) ?_
    refine Lst.run rfl rfl (by decide) (Ev.pickF rfl hb42 rfl) ?_
    refine Lst.nil ?_
    exact At.meet (!r36.1) (FLe.refl _) ⟨rfl, rfl, rfl, rfl, rfl, rfl, rfl, trivial⟩ rfl (some_inj H)
  rintro F43 y41 hF44 hy
  subst hy
  refine Lst.as (e' := [(3, Sl.v s8), (4, Sl.v s14), (6, Sl.v s20), (8, .int .i64 (i30 : Int)), (35, .int .i64 (r6.length : Int)), (36, .int .i64 (i30 : Int)), (53, .bool y41)]) (L' := (.own s20 23 6 (encs r18.1)) :: (.own s14 3 1 (encs r12.1)) :: (.own s8 75 3 (encs r6)) :: L) ⟨rfl, rfl, rfl, rfl, rfl, rfl, rfl, trivial⟩ rfl ?_
  replace H := HKo40
  refine Lst.nil ?_
  refine At.then ?_
  rcases Bool.eq_false_or_eq_true y41 with hb45 | hb45
  · replace H := ite_t hb45 H
    refine Cd.condT rfl hb45 ?_
    refine Cd.seq ?_
    refine Cd.region ?_
    refine Lst.run rfl rfl (by decide) (Ev.assign rfl) ?_
    refine Lst.nil ?_
    refine At.then ?_
    have H := hret30 _ (some_inj H).symm
    subst H
    replace H := HKl30
    obtain rfl := some_inj H
    refine Cd.ret ?_
    refine At.then_ret ?_
    refine At.in_ret ?_
    refine At.then_ret ?_
    refine At.then_ret ?_
    refine At.in_ret ?_
    refine At.then_ret ?_
    exact At.ret1 rfl (Res.tmp rfl) (FLe.trans (FLe.trans (FLe.trans (FLe.trans (FLe.trans hF11 hF17) hF23) hF28) hF32) hF44) (List.Sublist.cons _ (List.Sublist.cons _ (List.Sublist.cons _ (List.Sublist.refl _)))) ⟨rfl, rfl⟩
  replace H := ite_f hb45 H
  refine Cd.condF rfl hb45 ?_
  refine Cd.skip ?_
  refine At.then ?_
  refine Cd.seq ?_
  refine Cd.region ?_
  refine Lst.run rfl rfl (by decide) (Ev.move rfl) ?_
  refine Lst.run rfl rfl (by decide) (Ev.lenS (α := Event) (xs := r6) (by decide) rfl rfl Try.runUnderlying24 (Rd.own (i := 2) rfl rfl rfl)) ?_
  refine Lst.run rfl rfl (by decide) (Ev.move rfl) ?_
  refine Lst.nil ?_
  refine At.then ?_
  refine Cd.block ?_
  refine Cd.bound (Rd.le (α := Event) (xs := r6) (by decide) (Rd.own (i := 2) rfl rfl rfl)) (fun hN85 => ?_)
  obtain ⟨ol46, H, HKl46⟩ := andThen_some H
  refine Cd.loop (σ := Nat × Nat × Unit) (fun (i46, k46, _u) => [(3, Sl.v s8), (4, Sl.v s14), (6, Sl.v s20), (8, .int .i64 (i30 : Int)), (35, .int .i64 (r6.length : Int)), (36, .int .i64 (i30 : Int)), (55, .int .i64 (r6.length : Int)), (56, .int .i64 (i46 : Int))]) (fun (i46, k46, _u) => (.own s20 23 6 (encs r18.1)) :: (.own s14 3 1 (encs r12.1)) :: (.own s8 75 3 (encs r6)) :: L) (fun _ => (fun (i46, k46, _u) => rangeM (parttop_TopCauses_B2 r12 r18 i30) k46 i46 () = some ol46 ∧ i46 + k46 = r6.length)) (fun (i46, k46, _u) => k46) (0, r6.length, ()) ⟨rfl, rfl, rfl, rfl, rfl, rfl, rfl, rfl, trivial⟩ rfl ⟨H, by omega⟩ ?_
  rintro F47 ⟨i46, k46, _u⟩ hF48 ⟨H, hik46⟩
  refine Cd.as (e' := [(3, Sl.v s8), (4, Sl.v s14), (6, Sl.v s20), (8, .int .i64 (i30 : Int)), (35, .int .i64 (r6.length : Int)), (36, .int .i64 (i30 : Int)), (55, .int .i64 (r6.length : Int)), (56, .int .i64 (i46 : Int))]) (L' := (.own s20 23 6 (encs r18.1)) :: (.own s14 3 1 (encs r12.1)) :: (.own s8 75 3 (encs r6)) :: L) ⟨rfl, rfl, rfl, rfl, rfl, rfl, rfl, rfl, trivial⟩ rfl ?_
  rcases k46 with _ | k46
  · have hc46 : decide ((i46 : Int) < (r6.length : Int)) = false := decide_eq_false (by omega)
    replace H := rangeM_end H
    refine Cd.seq ?_
    refine Cd.region ?_
    refine Lst.run rfl rfl (by decide) (Ev.lss rfl rfl) ?_
    refine Lst.nil ?_
    refine At.then ?_
    refine Cd.seq ?_
    refine Cd.condF rfl hc46 ?_
    refine Cd.exit ?_
    refine At.then_exit ?_
    refine At.then_exit ?_
    refine At.in_exit ?_
    subst H
    replace H := HKl46
    refine At.in_normal ?_
    refine At.then ?_
    refine Cd.region ?_
    refine Lst.run rfl rfl (by decide) (Ev.incr (by omega) rfl rfl) ?_
    refine Lst.run rfl rfl (by decide) (Ev.move rfl) ?_
    refine Lst.nil ?_
    exact At.meet (i30 + 1, k30, ()) (FLe.trans (FLe.trans hF32 hF44) hF48) ⟨rfl, rfl, rfl, rfl, rfl, trivial⟩ rfl ⟨⟨hgo30 _ (some_inj H).symm, by omega⟩, Nat.lt_succ_self _⟩
  have hc46 : decide ((i46 : Int) < (r6.length : Int)) = true := decide_eq_true (by omega)
  obtain ⟨c46, H, hgo46, hbrk46, hret46⟩ := rangeM_go H
  unfold parttop_TopCauses_B2 at H
  try dsimp only at H
  refine Cd.seq ?_
  refine Cd.region ?_
  refine Lst.run rfl rfl (by decide) (Ev.lss rfl rfl) ?_
  refine Lst.nil ?_
  refine At.then ?_
  refine Cd.seq ?_
  refine Cd.condT rfl hc46 ?_
  refine Cd.skip ?_
  refine At.then ?_
  refine Cd.seq ?_
  refine Cd.block ?_
  refine Cd.seq ?_
  refine Cd.region ?_
  refine Lst.run rfl rfl (by decide) (Ev.move rfl) ?_
  refine Lst.run rfl rfl (by decide) (Ev.assign rfl) ?_
  refine Lst.nil ?_
  refine At.then ?_
  refine Cd.seq ?_
  refine Cd.quiet (by kernel_rfl) (by kernel_rfl) ?_
  refine Qt.run rfl rfl (by decide) (Ev.move rfl) ?_
  refine Qt.run rfl rfl (by decide) (Ev.move rfl) ?_
  obtain ⟨x49, h50, H⟩ := bind_some H
  have g51 := lat_some h50
  refine Qt.run rfl rfl (by decide) (Ev.indexS (α := Vector Int 6) (xs := r18.1) rfl rfl Try.runUnderlying28 Try.sizeOf23 rfl (by decide) (Rd.own (i := 0) rfl rfl rfl) g51.1 g51.2.1) ?_
  refine Qt.run rfl rfl (by decide) (Ev.loadSA (α := Vector Int 6) rfl (Rd.own (i := 0) rfl rfl rfl) Try.isAgg23 Try.sizeOf23 (ch := enc x49) (Enc.len _) (by decide) ((Get.elemN (s := 6) (x := x49) rfl g51.2.2 (Get.here _)).off (by omega))) ?_
  refine Qt.run rfl rfl (by decide) (Ev.move rfl) ?_
  refine Qt.run rfl rfl (by decide) (Ev.move rfl) ?_
  obtain ⟨x52, h53, H⟩ := bind_some H
  have g54 := lat_some h53
  refine Qt.run rfl rfl (by decide) (Ev.indexS (α := Vector Int 6) (xs := r18.1) rfl rfl Try.runUnderlying28 Try.sizeOf23 rfl (by decide) (Rd.own (i := 0) rfl rfl rfl) g54.1 g54.2.1) ?_
  refine Qt.run rfl rfl (by decide) (Ev.loadSA (α := Vector Int 6) rfl (Rd.own (i := 0) rfl rfl rfl) Try.isAgg23 Try.sizeOf23 (ch := enc x52) (Enc.len _) (by decide) ((Get.elemN (s := 6) (x := x52) rfl g54.2.2 (Get.here _)).off (by omega))) ?_
  obtain ⟨r55, h56, H⟩ := bind_some H
  refine Qt.call rfl rfl (by decide) (vs := [.agg (enc x49).toArray, .agg (enc x52).toArray]) ⟨rfl, rfl, trivial⟩ Try.call12 (vect_Compare_sim h56 w0 _ M _ (List.Sublist.cons _ (List.Sublist.cons _ (List.Sublist.cons _ hM)))) ?_
  refine Qt.run rfl rfl (by decide) (Ev.eql rfl rfl) ?_
  refine Qt.run rfl rfl (by decide) (Ev.assign rfl) ?_
  refine Qt.done ?_
  refine At.then ?_
  refine Cd.seq ?_
  refine Cd.quiet (by kernel_rfl) (by kernel_rfl) ?_
  refine Qt.run rfl rfl (by decide) (Ev.move rfl) ?_
  refine Qt.run rfl rfl (by decide) (Ev.move rfl) ?_
  refine Qt.run rfl rfl (by decide) (Ev.neq rfl rfl) ?_
  refine Qt.run rfl rfl (by decide) (Ev.move rfl) ?_
  obtain ⟨o59, H, HKo59⟩ := bind_some H
  refine Qt.join (σ := Bool) 10 (fun y60 => [(3, Sl.v s8), (4, Sl.v s14), (6, Sl.v s20), (8, .int .i64 (i30 : Int)), (11, .int .i64 (i46 : Int)), (12, .bool (r55 == (1 : Int))), (35, .int .i64 (r6.length : Int)), (36, .int .i64 (i30 : Int)), (55, .int .i64 (r6.length : Int)), (56, .int .i64 (i46 : Int)), (82, .bool y60)]) (fun y60 => y60 = o59) ?_ ?_
  · rcases (Bool.eq_false_or_eq_true ((i30 : Int) != (i46 : Int))).symm with hb61 | hb61
    · replace H := ite_f hb61 H
      refine Qt.skip rfl rfl rfl hb61 rfl (by decide) ?_
      refine Qt.skip rfl rfl rfl hb61 rfl (by decide) ?_
      refine Qt.skip rfl rfl rfl hb61 rfl (by decide) ?_
      refine Qt.skip rfl rfl rfl hb61 rfl (by decide) ?_
      refine Qt.skip rfl rfl rfl hb61 rfl (by decide) ?_
      refine Qt.skip rfl rfl rfl hb61 rfl (by decide) ?_
      refine Qt.skip rfl rfl rfl hb61 rfl (by decide) ?_
      refine Qt.skip rfl rfl rfl hb61 rfl (by decide) ?_
      refine Qt.skip rfl rfl rfl hb61 rfl (by decide) ?_
      refine Qt.run rfl rfl (by decide) (Ev.pickF rfl hb61 rfl) ?_
      exact Qt.meet false ⟨rfl, rfl, rfl, rfl, rfl, rfl, rfl, rfl, rfl, rfl, rfl, trivial⟩ (some_inj H)
    replace H := ite_t hb61 H
    refine Qt.runG rfl rfl rfl hb61 rfl (by decide) (Ev.move rfl) ?_
    refine Qt.runG rfl rfl rfl hb61 rfl (by decide) (Ev.move rfl) ?_
    obtain ⟨x62, h63, H⟩ := bind_some H
    have g64 := lat_some h63
    refine Qt.runG rfl rfl rfl hb61 rfl (by decide) (Ev.indexS (α := Vector Int 6) (xs := r18.1) rfl rfl Try.runUnderlying28 Try.sizeOf23 rfl (by decide) (Rd.own (i := 0) rfl rfl rfl) g64.1 g64.2.1) ?_
    refine Qt.runG rfl rfl rfl hb61 rfl (by decide) (Ev.loadSA (α := Vector Int 6) rfl (Rd.own (i := 0) rfl rfl rfl) Try.isAgg23 Try.sizeOf23 (ch := enc x62) (Enc.len _) (by decide) ((Get.elemN (s := 6) (x := x62) rfl g64.2.2 (Get.here _)).off (by omega))) ?_
    refine Qt.runG rfl rfl rfl hb61 rfl (by decide) (Ev.move rfl) ?_
    refine Qt.runG rfl rfl rfl hb61 rfl (by decide) (Ev.move rfl) ?_
    obtain ⟨x65, h66, H⟩ := bind_some H
    have g67 := lat_some h66
    refine Qt.runG rfl rfl rfl hb61 rfl (by decide) (Ev.indexS (α := Vector Int 6) (xs := r18.1) rfl rfl Try.runUnderlying28 Try.sizeOf23 rfl (by decide) (Rd.own (i := 0) rfl rfl rfl) g67.1 g67.2.1) ?_
    refine Qt.runG rfl rfl rfl hb61 rfl (by decide) (Ev.loadSA (α := Vector Int 6) rfl (Rd.own (i := 0) rfl rfl rfl) Try.isAgg23 Try.sizeOf23 (ch := enc x65) (Enc.len _) (by decide) ((Get.elemN (s := 6) (x := x65) rfl g67.2.2 (Get.here _)).off (by omega))) ?_
    obtain ⟨r68, h69, H⟩ := bind_some H
    refine Qt.callG rfl rfl rfl hb61 rfl (by decide) (vs := [.agg (enc x62).toArray, .agg (enc x65).toArray]) ⟨rfl, rfl, trivial⟩ Try.call14 (vect_Within_sim h69 w0 _ M _ (List.Sublist.cons _ (List.Sublist.cons _ (List.Sublist.cons _ hM)))) ?_
    refine Qt.run rfl rfl (by decide) (Ev.pickT rfl hb61 rfl) ?_
    exact Qt.meet r68 ⟨rfl, rfl, rfl, rfl, rfl, rfl, rfl, rfl, rfl, rfl, rfl, trivial⟩ (some_inj H)
  rintro y60 hy
  subst hy
  refine Qt.as (e' := [(3, Sl.v s8), (4, Sl.v s14), (6, Sl.v s20), (8, .int .i64 (i30 : Int)), (11, .int .i64 (i46 : Int)), (12, .bool (r55 == (1 : Int))), (35, .int .i64 (r6.length : Int)), (36, .int .i64 (i30 : Int)), (55, .int .i64 (r6.length : Int)), (56, .int .i64 (i46 : Int)), (82, .bool y60)]) ⟨rfl, rfl, rfl, rfl, rfl, rfl, rfl, rfl, rfl, rfl, rfl, trivial⟩ ?_
  replace H := HKo59
  refine Qt.run rfl rfl (by decide) (Ev.assign rfl) ?_
  refine Qt.done ?_
  refine At.then ?_
  refine Cd.seq ?_
  refine Cd.quiet (by kernel_rfl) (by kernel_rfl) ?_
  refine Qt.run rfl rfl (by decide) (Ev.move rfl) ?_
  refine Qt.run rfl rfl (by decide) (Ev.move rfl) ?_
  refine Qt.run rfl rfl (by decide) (Ev.neqB rfl rfl Try.runUnderlying4) ?_
  refine Qt.run rfl rfl (by decide) (Ev.move rfl) ?_
  obtain ⟨o72, H, HKo72⟩ := bind_some H
  refine Qt.join (σ := Bool) 13 (fun y73 => [(3, Sl.v s8), (4, Sl.v s14), (6, Sl.v s20), (8, .int .i64 (i30 : Int)), (35, .int .i64 (r6.length : Int)), (36, .int .i64 (i30 : Int)), (55, .int .i64 (r6.length : Int)), (56, .int .i64 (i46 : Int)), (99, .bool y73)]) (fun y73 => y73 = o72) ?_ ?_
  · rcases Bool.eq_false_or_eq_true ((r55 == (1 : Int)) != y60) with hb74 | hb74
    · replace H := ite_t hb74 H
      refine Qt.skip rfl rfl rfl hb74 rfl (by decide) ?_
      refine Qt.skip rfl rfl rfl hb74 rfl (by decide) ?_
      refine Qt.skipU rfl rfl rfl rfl (by decide) ?_
      refine Qt.skipU rfl rfl rfl rfl (by decide) ?_
      refine Qt.skipU rfl rfl rfl rfl (by decide) ?_
      refine Qt.skipU rfl rfl rfl rfl (by decide) ?_
      refine Qt.skipU rfl rfl rfl rfl (by decide) ?_
      refine Qt.skipU rfl rfl rfl rfl (by decide) ?_
      refine Qt.skipU rfl rfl rfl rfl (by decide) ?_
      refine Qt.skipU rfl rfl rfl rfl (by decide) ?_
      refine Qt.skipU rfl rfl rfl rfl (by decide) ?_
      refine Qt.skip rfl rfl rfl hb74 rfl (by decide) ?_
      refine Qt.run rfl rfl (by decide) (Ev.pickT rfl hb74 rfl) ?_
      exact Qt.meet true ⟨rfl, rfl, rfl, rfl, rfl, rfl, rfl, rfl, rfl, trivial⟩ (some_inj H)
    replace H := ite_f hb74 H
    refine Qt.runG rfl rfl rfl hb74 rfl (by decide) (Ev.move rfl) ?_
    refine Qt.runG rfl rfl rfl hb74 rfl (by decide) (Ev.move rfl) ?_
    obtain ⟨o75, H, HKo75⟩ := bind_some H
    refine Qt.join (σ := Bool) 10 (fun y76 => [(3, Sl.v s8), (4, Sl.v s14), (6, Sl.v s20), (8, .int .i64 (i30 : Int)), (35, .int .i64 (r6.length : Int)), (36, .int .i64 (i30 : Int)), (55, .int .i64 (r6.length : Int)), (56, .int .i64 (i46 : Int)), (86, .bool ((r55 == (1 : Int)) != y60)), (98, .bool y76)]) (fun y76 => y76 = o75) ?_ ?_
    · rcases (Bool.eq_false_or_eq_true (r55 == (1 : Int))).symm with hb77 | hb77
      · replace H := ite_f hb77 H
        refine Qt.skip rfl rfl rfl hb77 rfl (by decide) ?_
        refine Qt.skip rfl rfl rfl hb77 rfl (by decide) ?_
        refine Qt.skip rfl rfl rfl hb77 rfl (by decide) ?_
        refine Qt.skip rfl rfl rfl hb77 rfl (by decide) ?_
        refine Qt.skip rfl rfl rfl hb77 rfl (by decide) ?_
        refine Qt.skip rfl rfl rfl hb77 rfl (by decide) ?_
        refine Qt.skip rfl rfl rfl hb77 rfl (by decide) ?_
        refine Qt.skip rfl rfl rfl hb77 rfl (by decide) ?_
        refine Qt.skip rfl rfl rfl hb77 rfl (by decide) ?_
        refine Qt.runG rfl rfl rfl hb74 rfl (by decide) (Ev.pickF rfl hb77 rfl) ?_
        exact Qt.meet false ⟨rfl, rfl, rfl, rfl, rfl, rfl, rfl, rfl, rfl, rfl, trivial⟩ (some_inj H)
      replace H := ite_t hb77 H
      refine Qt.runG rfl rfl rfl hb77 rfl (by decide) (Ev.move rfl) ?_
      refine Qt.runG rfl rfl rfl hb77 rfl (by decide) (Ev.move rfl) ?_
      obtain ⟨x78, h79, H⟩ := bind_some H
      have g80 := lat_some h79
      refine Qt.runG rfl rfl rfl hb77 rfl (by decide) (Ev.indexS (α := Int) (xs := r12.1) rfl rfl Try.runUnderlying36 Try.sizeOf3 rfl (by decide) (Rd.own (i := 1) rfl rfl rfl) g80.1 g80.2.1) ?_
      refine Qt.runG rfl rfl rfl hb77 rfl (by decide) (Ev.loadS (α := Int) rfl (Rd.own (i := 1) rfl rfl rfl) Try.isAgg3 (v := .int .i64 x78) ((Get.elemN (s := 1) (x := x78) rfl g80.2.2 (Get.here _)).off (by omega))) ?_
      refine Qt.runG rfl rfl rfl hb77 rfl (by decide) (Ev.move rfl) ?_
      refine Qt.runG rfl rfl rfl hb77 rfl (by decide) (Ev.move rfl) ?_
      obtain ⟨x81, h82, H⟩ := bind_some H
      have g83 := lat_some h82
      refine Qt.runG rfl rfl rfl hb77 rfl (by decide) (Ev.indexS (α := Int) (xs := r12.1) rfl rfl Try.runUnderlying36 Try.sizeOf3 rfl (by decide) (Rd.own (i := 1) rfl rfl rfl) g83.1 g83.2.1) ?_
      refine Qt.runG rfl rfl rfl hb77 rfl (by decide) (Ev.loadS (α := Int) rfl (Rd.own (i := 1) rfl rfl rfl) Try.isAgg3 (v := .int .i64 x81) ((Get.elemN (s := 1) (x := x81) rfl g83.2.2 (Get.here _)).off (by omega))) ?_
      refine Qt.runG rfl rfl rfl hb77 rfl (by decide) (Ev.geq rfl rfl) ?_
      refine Qt.runG rfl rfl rfl hb74 rfl (by decide) (Ev.pickT rfl hb77 rfl) ?_
      exact Qt.meet (decide (x78 ≥ x81)) ⟨rfl, rfl, rfl, rfl, rfl, rfl, rfl, rfl, rfl, rfl, trivial⟩ (some_inj H)
    rintro y76 hy
    subst hy
    refine Qt.as (e' := [(3, Sl.v s8), (4, Sl.v s14), (6, Sl.v s20), (8, .int .i64 (i30 : Int)), (35, .int .i64 (r6.length : Int)), (36, .int .i64 (i30 : Int)), (55, .int .i64 (r6.length : Int)), (56, .int .i64 (i46 : Int)), (86, .bool ((r55 == (1 : Int)) != y60)), (98, .bool y76)]) ⟨rfl, rfl, rfl, rfl, rfl, rfl, rfl, rfl, rfl, rfl, trivial⟩ ?_
    replace H := HKo75
    refine Qt.run rfl rfl (by decide) (Ev.pickF rfl hb74 rfl) ?_
    exact Qt.meet y76 ⟨rfl, rfl, rfl, rfl, rfl, rfl, rfl, rfl, rfl, trivial⟩ (some_inj H)
  rintro y73 hy
  subst hy
  refine Qt.as (e' := [(3, Sl.v s8), (4, Sl.v s14), (6, Sl.v s20), (8, .int .i64 (i30 : Int)), (35, .int .i64 (r6.length : Int)), (36, .int .i64 (i30 : Int)), (55, .int .i64 (r6.length : Int)), (56, .int .i64 (i46 : Int)), (99, .bool y73)]) ⟨rfl, rfl, rfl, rfl, rfl, rfl, rfl, rfl, rfl, trivial⟩ ?_
  replace H := HKo72
  refine Qt.done ?_
  refine At.then ?_
  rcases Bool.eq_false_or_eq_true y73 with hb84 | hb84
  · replace H := ite_t hb84 H
    refine Cd.condT rfl hb84 ?_
    refine Cd.seq ?_
    refine Cd.region ?_
    refine Lst.run rfl rfl (by decide) (Ev.assign rfl) ?_
    refine Lst.nil ?_
    refine At.then ?_
    have H := hret46 _ (some_inj H).symm
    subst H
    replace H := HKl46
    have H := hret30 _ (some_inj H).symm
    subst H
    replace H := HKl30
    obtain rfl := some_inj H
    refine Cd.ret ?_
    refine At.in_ret ?_
    refine At.then_ret ?_
    refine At.then_ret ?_
    refine At.in_ret ?_
    refine At.in_ret ?_
    refine At.then_ret ?_
    refine At.then_ret ?_
    refine At.in_ret ?_
    refine At.then_ret ?_
    exact At.ret1 rfl (Res.tmp rfl) (FLe.trans (FLe.trans (FLe.trans (FLe.trans (FLe.trans (FLe.trans hF11 hF17) hF23) hF28) hF32) hF44) hF48) (List.Sublist.cons _ (List.Sublist.cons _ (List.Sublist.cons _ (List.Sublist.refl _)))) ⟨rfl, rfl⟩
  replace H := ite_f hb84 H
  refine Cd.condF rfl hb84 ?_
  refine Cd.skip ?_
  refine At.in_normal ?_
  refine At.then ?_
  refine Cd.region ?_
  refine Lst.run rfl rfl (by decide) (Ev.incr (by omega) rfl rfl) ?_
  refine Lst.run rfl rfl (by decide) (Ev.move rfl) ?_
  refine Lst.nil ?_
  exact At.meet (i46 + 1, k46, ()) hF48 ⟨rfl, rfl, rfl, rfl, rfl, rfl, rfl, rfl, trivial⟩ rfl ⟨⟨hgo46 _ (some_inj H).symm, by omega⟩, Nat.lt_succ_self _⟩
end Go.Proofs.Ytclmlddmgccfjaa
