/-
  The functions compute their specs; printed by a program.
-/
import Derived.Test.YtclmlddmgccfjaaTlSp
import Derived.Test.YtclmlddmgccfjaaGoL
import Derived.Test.YtclmlddmgccfjaaGoK
import Derived.Test.YtclmlddmgccfjaaGoI
import Derived.Test.YtclmlddmgccfjaaGoU
import Derived.Test.YtclmlddmgccfjaaGoM
import Derived.Test.YtclmlddmgccfjaaGoS
import Derived.Test.YtclmlddmgccfjaaGoR
import Derived.Test.YtclmlddmgccfjaaProg
namespace Go.Proofs.Ytclmlddmgccfjaa
open Go.RowKit Enc
set_option linter.unusedVariables false
set_option linter.unusedSimpArgs false
structure PosetR where
  v : Poset
  h1 : Sl
instance : Enc PosetR := ⟨fun p => enc p.v.N ++ (enc p.h1), 2, fun p => by simp only [List.length_append, Enc.len]; rfl, fun p => by simp only [List.all_append, Enc.one, Bool.and_self]⟩
theorem PosetR.get_N {p : PosetR} {k : Nat} {ch : List Value} (h : Get (enc p.v.N) k ch) : Get (enc p) (0 + k) ch := Get.off (Get.left h) (by omega)
theorem PosetR.put_N {p : PosetR} {k : Nat} {vs : List Value} {y : Int} (h : Put (enc p.v.N) k vs (enc y)) : Put (enc p) (0 + k) vs (enc ({ p with v := { p.v with N := y } } : PosetR)) := Put.off (cs' := enc ({ p with v := { p.v with N := y } } : PosetR)) (Put.left h) (by omega)
theorem PosetR.get_Pairs {p : PosetR} {k : Nat} {ch : List Value} (h : Get (enc p.h1) k ch) : Get (enc p) (1 + k) ch := Get.off (Get.right (m := 1) (Enc.len _) h) (by omega)
theorem PosetR.put_Pairs {p : PosetR} {k : Nat} {vs : List Value} {y : Sl} {l : List Pair} (h : Put (enc p.h1) k vs (enc y)) : Put (enc p) (1 + k) vs (enc ({ p with v := { p.v with Pairs := l }, h1 := y } : PosetR)) := Put.off (cs' := enc ({ p with v := { p.v with Pairs := l }, h1 := y } : PosetR)) (Put.right (m := 1) (Enc.len _) h) (by omega)
def PosetR.rel (w0 : World) (F : Frz) (L : List Item) (x : PosetR) : Prop := Rd w0 F L x.h1 x.v.Pairs
theorem PosetR.mono {w0 : World} {F F' : Frz} {L L' : List Item} {x : PosetR} (h : PosetR.rel w0 F L x) (hF : FLe F F') (hL : L.Sublist L') : PosetR.rel w0 F' L' x :=
  let h1 := h
  h1.mono hF hL
theorem All.monoPoset {w0 : World} {F F' : Frz} {L L' : List Item} {rs : List PosetR} (h : All PosetR.rel w0 F L rs) (hF : FLe F F') (hL : L.Sublist L') : All PosetR.rel w0 F' L' rs := fun x hx => PosetR.mono (h x hx) hF hL
set_option maxRecDepth 20000 in
theorem eq23 (x y : Vector Int 6) : ∀ w, (Op.equal 23 (.agg (enc x).toArray) (.agg (enc y).toArray)).run Try.prog w = .ok (decide (x = y)) w :=
  EqT.top (d := 10000) Try.isAgg23 Try.sizeOf23 rfl rfl (EqT.array (inf := Try.t3) Try.isAgg23 Try.sizeOf23 rfl Try.runUnderlying23 rfl (by kernel_rfl) (EqT.int Try.isAgg3 Try.runUnderlying3)) x y
set_option maxRecDepth 20000 in
theorem slices_Clone_api_Event_api_Event_sim {a0 : List Event} {s_a0 : Sl} {r : (List Event)} (H : slices_Clone_api_Event_api_Event a0 = some r) (w0 : World) (F : Frz) (M L : List Item) (hM : M.Sublist L) (hs_a0 : Rd w0 F M s_a0 a0) : Ok Try.prog w0 65 [Sl.v s_a0] F (L) (fun _ L' v => ∃ (s1 : Sl), v = Sl.v s1 ∧ L' = (.own s1 75 3 (encs r)) :: L) := by
  unfold slices_Clone_api_Event_api_Event at H
  refine Ok.enter (m := 1) (n := 8) Try.func65 rfl rfl rfl (by decide) ?_
  refine Cd.env (e' := [(0, Sl.v s_a0)]) rfl ?_
  refine Cd.seq ?_
  refine Cd.region ?_
  refine Lst.addNil 75 3 ?_
  refine Lst.run rfl rfl (by decide) (Ev.assign rfl) ?_
  refine Lst.nil ?_
  refine At.then ?_
  refine Cd.seq ?_
  refine Cd.seq ?_
  refine Cd.region ?_
  refine Lst.run rfl rfl (by decide) (Ev.move rfl) ?_
  refine Lst.run rfl rfl (by decide) (Ev.eqlNil rfl Try.runUnderlying24) ?_
  refine Lst.nil ?_
  refine At.then ?_
  rcases Bool.eq_false_or_eq_true ((Sl.a s_a0).isNone) with hb2 | hb2
  · refine Cd.bound (Rd.isNil (α := Event) (by decide) (hs_a0.mono (FLe.refl _) (List.Sublist.cons _ hM)) hb2) (fun hx9 => ?_)
    rw [clone_nil hx9] at H
    refine Cd.condT rfl hb2 ?_
    refine Cd.seq ?_
    refine Cd.region ?_
    refine Lst.addNil 75 3 ?_
    refine Lst.run rfl rfl (by decide) (Ev.assign rfl) ?_
    refine Lst.nil ?_
    refine At.then ?_
    obtain rfl := some_inj H
    refine Cd.ret ?_
    refine At.then_ret ?_
    exact At.ret1 rfl (Res.tmp rfl) (FLe.refl _) (List.Sublist.cons_cons _ (List.Sublist.cons _ (List.Sublist.refl _))) ⟨Sl.nil, rfl, rfl⟩
  refine Cd.condF rfl hb2 ?_
  refine Cd.skip ?_
  refine At.then ?_
  refine Cd.seq ?_
  refine Cd.region ?_
  refine Lst.buildSlice0 rfl rfl (by decide) Try.runUnderlying24 Try.sizeOf75 (fun s3 => ?_)
  refine Lst.its (L' := (.own s3 75 3 (encs ([] : List Event))) :: (.own Sl.nil 75 3 (encs ([] : List Event))) :: L) rfl ?_
  refine Lst.run rfl rfl (by decide) (Ev.move rfl) ?_
  obtain ⟨u5, h6, H⟩ := bind_some H
  refine Lst.append (i := 0) (α := Event) (xs := ([] : List Event)) (ys := a0) rfl rfl (by decide) rfl rfl Try.runUnderlying24 Try.typeInfo75 rfl rfl rfl rfl rfl rfl (hs_a0.mono (FLe.refl _) (List.Sublist.cons _ (List.Sublist.cons _ hM))) rfl (room_some h6) rfl (fun s7 => ?_)
  refine Lst.its (L' := (.own s7 75 3 (encs (([] : List Event) ++ a0))) :: (.own Sl.nil 75 3 (encs ([] : List Event))) :: L) rfl ?_
  refine Lst.run rfl rfl (by decide) (Ev.assign rfl) ?_
  refine Lst.nil ?_
  refine At.then ?_
  obtain rfl := some_inj H
  refine Cd.ret ?_
  exact At.ret1 rfl (Res.tmp rfl) (FLe.refl _) (List.Sublist.cons_cons _ (List.Sublist.cons _ (List.Sublist.refl _))) ⟨s7, rfl, rfl⟩
set_option maxRecDepth 20000 in
theorem stamp_in_sim {a0 : Int} {a1 : Int} {a2 : Int} {r : Bool} (H : stamp_in a0 a1 a2 = some r) (w0 : World) (F : Frz) (M L : List Item) (hM : M.Sublist L) : Ok Try.prog w0 69 [.int .i64 a0, .int .i64 a1, .int .i64 a2] F (L) (Is (.bool r) (L)) := by
  unfold stamp_in at H
  refine Ok.enter (m := 3) (n := 15) Try.func69 rfl rfl rfl (by decide) ?_
  refine Cd.env (e' := [(0, .int .i64 a0), (1, .int .i64 a1), (2, .int .i64 a2)]) rfl ?_
  refine Cd.seq ?_
  refine Cd.region ?_
  refine Lst.run rfl rfl (by decide) (Ev.assign rfl) ?_
  refine Lst.nil ?_
  refine At.then ?_
  refine Cd.seq ?_
  refine Cd.region ?_
  refine Lst.run rfl rfl (by decide) (Ev.move rfl) ?_
  refine Lst.run rfl rfl (by decide) (Ev.move rfl) ?_
  refine Lst.run rfl rfl (by decide) (Ev.geq rfl rfl) ?_
  refine Lst.run rfl rfl (by decide) (Ev.move rfl) ?_
  obtain ⟨o1, H, HKo1⟩ := bind_some H
  refine Lst.join (σ := Bool) 4 (fun y2 => [(14, .bool y2)]) (fun y2 => L) (fun _ y2 => y2 = o1) ?_ ?_
  · rcases (Bool.eq_false_or_eq_true (decide (a0 ≥ a1))).symm with hb3 | hb3
    · replace H := ite_f hb3 H
      refine Lst.skip rfl rfl rfl hb3 rfl (by decide) ?_
      refine Lst.skip rfl rfl rfl hb3 rfl (by decide) ?_
      refine Lst.skip rfl rfl rfl hb3 rfl (by decide) ?_
      refine Lst.run rfl rfl (by decide) (Ev.pickF rfl hb3 rfl) ?_
      refine Lst.nil ?_
      exact At.meet false (FLe.refl _) ⟨rfl, trivial⟩ rfl (some_inj H)
    replace H := ite_t hb3 H
    refine Lst.runG rfl rfl rfl hb3 rfl (by decide) (Ev.move rfl) ?_
    refine Lst.runG rfl rfl rfl hb3 rfl (by decide) (Ev.move rfl) ?_
    refine Lst.runG rfl rfl rfl hb3 rfl (by decide) (Ev.leq rfl rfl) ?_
    refine Lst.run rfl rfl (by decide) (Ev.pickT rfl hb3 rfl) ?_
    refine Lst.nil ?_
    exact At.meet (decide (a0 ≤ a2)) (FLe.refl _) ⟨rfl, trivial⟩ rfl (some_inj H)
  rintro F4 y2 hF5 hy
  subst hy
  refine Lst.as (e' := [(14, .bool y2)]) (L' := L) ⟨rfl, trivial⟩ rfl ?_
  replace H := HKo1
  refine Lst.run rfl rfl (by decide) (Ev.assign rfl) ?_
  refine Lst.nil ?_
  refine At.then ?_
  obtain rfl := some_inj H
  refine Cd.ret ?_
  exact At.ret1 rfl (Res.tmp rfl) hF5 (List.Sublist.refl _) ⟨rfl, rfl⟩
set_option maxRecDepth 20000 in
theorem stamp_checker_event_sim {a0 : Checker} {a1 : Event} {b_a0 : Nat} {r : Checker × Int} (H : stamp_checker_event a0 a1 = some r) (w0 : World) (F : Frz) (M L : List Item) (hM : M.Sublist L) : Ok Try.prog w0 51 [.pointer (some ⟨b_a0, 0, none⟩), .agg (enc a1).toArray] F ((.blk b_a0 (enc a0) 84) :: L) (fun _ L' v => v = .int .i64 r.2 ∧ L' = (.blk b_a0 (enc r.1) 84) :: L) := by
  unfold stamp_checker_event at H
  refine Ok.enter (m := 2) (n := 85) Try.func51 rfl rfl rfl (by decide) ?_
  refine Cd.env (e' := [(0, .pointer (some ⟨b_a0, 0, none⟩)), (1, .agg (enc a1).toArray)]) rfl ?_
  refine Cd.seq ?_
  refine Cd.region ?_
  refine Lst.box rfl rfl (by decide) rfl (cs := enc a1) rfl (fun b2 => ?_)
  refine Lst.run rfl rfl (by decide) (Ev.assign rfl) ?_
  refine Lst.nil ?_
  refine At.then ?_
  refine Cd.seq ?_
  refine Cd.seq ?_
  refine Cd.region ?_
  refine Lst.run rfl rfl (by decide) (Ev.fieldAddr (off' := 0) rfl Try.runUnderlying75 rfl Try.sizeOf3 rfl rfl) ?_
  refine Lst.run rfl rfl (by decide) (Ev.load (i := 0) rfl rfl Try.isAgg3 (v := .int .i64 a1.Proc) ((Event.get_Proc (Get.here _)).off (by rfl))) ?_
  obtain ⟨r4, h5, H⟩ := bind_some H
  refine Lst.call1 rfl rfl (by decide) (vs := [.int .i64 a1.Proc, .int .i64 (0 : Int), .int .i64 (5 : Int)]) ⟨rfl, rfl, rfl, trivial⟩ Try.call69 (stamp_in_sim h5 w0 _ M _ (List.Sublist.cons _ (List.Sublist.cons _ hM))) ?_
  refine Lst.run rfl rfl (by decide) (Ev.not rfl) ?_
  refine Lst.run rfl rfl (by decide) (Ev.move rfl) ?_
  obtain ⟨o8, H, HKo8⟩ := bind_some H
  refine Lst.join (σ := Bool) 5 (fun y9 => [(0, .pointer (some ⟨b_a0, 0, none⟩)), (3, .pointer (some ⟨b2, 0, none⟩)), (14, .bool y9)]) (fun y9 => (.blk b2 (enc a1) 75) :: (.blk b_a0 (enc a0) 84) :: L) (fun _ y9 => y9 = o8) ?_ ?_
  · rcases Bool.eq_false_or_eq_true (!r4) with hb10 | hb10
    · replace H := ite_t hb10 H
      refine Lst.skip rfl rfl rfl hb10 rfl (by decide) ?_
      refine Lst.skip rfl rfl rfl hb10 rfl (by decide) ?_
      refine Lst.skip rfl rfl rfl hb10 rfl (by decide) ?_
      refine Lst.skip rfl rfl rfl hb10 rfl (by decide) ?_
      refine Lst.run rfl rfl (by decide) (Ev.pickT rfl hb10 rfl) ?_
      refine Lst.nil ?_
      exact At.meet true (FLe.refl _) ⟨rfl, rfl, rfl, trivial⟩ rfl (some_inj H)
    replace H := ite_f hb10 H
    refine Lst.runG rfl rfl rfl hb10 rfl (by decide) (Ev.fieldAddr (off' := 2) rfl Try.runUnderlying75 rfl Try.sizeOf3 rfl rfl) ?_
    refine Lst.runG rfl rfl rfl hb10 rfl (by decide) (Ev.load (i := 0) rfl rfl Try.isAgg3 (v := .int .i64 a1.Msg) ((Event.get_Msg (Get.here _)).off (by rfl))) ?_
    obtain ⟨r11, h12, H⟩ := bind_some H
    refine Lst.call1G rfl rfl rfl hb10 rfl (by decide) (vs := [.int .i64 a1.Msg, .int .i64 (0 : Int), .int .i64 (29 : Int)]) ⟨rfl, rfl, rfl, trivial⟩ Try.call69 (stamp_in_sim h12 w0 _ M _ (List.Sublist.cons _ (List.Sublist.cons _ hM))) ?_
    refine Lst.runG rfl rfl rfl hb10 rfl (by decide) (Ev.not rfl) ?_
    refine Lst.run rfl rfl (by decide) (Ev.pickF rfl hb10 rfl) ?_
    refine Lst.nil ?_
    exact At.meet (!r11) (FLe.refl _) ⟨rfl, rfl, rfl, trivial⟩ rfl (some_inj H)
  rintro F15 y9 hF16 hy
  subst hy
  refine Lst.as (e' := [(0, .pointer (some ⟨b_a0, 0, none⟩)), (3, .pointer (some ⟨b2, 0, none⟩)), (14, .bool y9)]) (L' := (.blk b2 (enc a1) 75) :: (.blk b_a0 (enc a0) 84) :: L) ⟨rfl, rfl, rfl, trivial⟩ rfl ?_
  replace H := HKo8
  refine Lst.nil ?_
  refine At.then ?_
  rcases Bool.eq_false_or_eq_true y9 with hb17 | hb17
  · replace H := ite_t hb17 H
    refine Cd.condT rfl hb17 ?_
    refine Cd.seq ?_
    refine Cd.region ?_
    refine Lst.run rfl rfl (by decide) (Ev.assign rfl) ?_
    refine Lst.nil ?_
    refine At.then ?_
    obtain rfl := some_inj H
    refine Cd.ret ?_
    refine At.then_ret ?_
    exact At.ret1 rfl (Res.tmp rfl) hF16 (List.Sublist.cons _ (List.Sublist.cons_cons _ (List.Sublist.refl _))) ⟨rfl, rfl⟩
  replace H := ite_f hb17 H
  refine Cd.condF rfl hb17 ?_
  refine Cd.skip ?_
  refine At.then ?_
  obtain ⟨o19, H, HKo19⟩ := andThen_some H
  refine Cd.join (σ := Checker) (fun y18 => []) (fun y18 => (.blk b2 (enc a1) 75) :: (.blk b_a0 (enc y18) 84) :: L) (fun _ y18 => .inl y18 = o19) ?_ ?_
  · refine Cd.seq ?_
    refine Cd.region ?_
    refine Lst.run rfl rfl (by decide) (Ev.fieldAddr (off' := 1) rfl Try.runUnderlying75 rfl Try.sizeOf3 rfl rfl) ?_
    refine Lst.run rfl rfl (by decide) (Ev.load (i := 0) rfl rfl Try.isAgg3 (v := .int .i64 a1.Kind) ((Event.get_Kind (Get.here _)).off (by rfl))) ?_
    refine Lst.nil ?_
    refine At.then ?_
    refine Cd.block ?_
    refine Cd.seq ?_
    refine Cd.region ?_
    refine Lst.run rfl rfl (by decide) (Ev.eql rfl rfl) ?_
    refine Lst.run rfl rfl (by decide) (Ev.assign rfl) ?_
    refine Lst.nil ?_
    refine At.then ?_
    rcases Bool.eq_false_or_eq_true (a1.Kind == (1 : Int)) with hb20 | hb20
    · replace H := ite_t hb20 H
      refine Cd.condT rfl hb20 ?_
      refine Cd.seq ?_
      refine Cd.region ?_
      refine Lst.run rfl rfl (by decide) (Ev.fieldAddr (off' := 2) rfl Try.runUnderlying75 rfl Try.sizeOf3 rfl rfl) ?_
      refine Lst.run rfl rfl (by decide) (Ev.load (i := 0) rfl rfl Try.isAgg3 (v := .int .i64 a1.Msg) ((Event.get_Msg (Get.here _)).off (by rfl))) ?_
      refine Lst.run rfl rfl (by decide) (Ev.neq rfl rfl) ?_
      refine Lst.nil ?_
      refine At.then ?_
      rcases Bool.eq_false_or_eq_true (a1.Msg != (0 : Int)) with hb21 | hb21
      · replace H := ite_t hb21 H
        refine Cd.condT rfl hb21 ?_
        refine Cd.seq ?_
        refine Cd.region ?_
        refine Lst.run rfl rfl (by decide) (Ev.assign rfl) ?_
        refine Lst.nil ?_
        refine At.then ?_
        obtain rfl := some_inj H
        replace H := HKo19
        obtain rfl := some_inj H
        refine Cd.ret ?_
        refine At.in_ret ?_
        refine At.then_ret ?_
        exact At.ret1 rfl (Res.tmp rfl) hF16 (List.Sublist.cons _ (List.Sublist.cons_cons _ (List.Sublist.refl _))) ⟨rfl, rfl⟩
      replace H := ite_f hb21 H
      refine Cd.condF rfl hb21 ?_
      refine Cd.skip ?_
      refine At.in_normal ?_
      exact At.meet a0 (FLe.refl _) trivial rfl (some_inj H)
    replace H := ite_f hb20 H
    refine Cd.condF rfl hb20 ?_
    refine Cd.seq ?_
    refine Cd.region ?_
    refine Lst.run rfl rfl (by decide) (Ev.eql rfl rfl) ?_
    refine Lst.run rfl rfl (by decide) (Ev.assign rfl) ?_
    refine Lst.nil ?_
    refine At.then ?_
    rcases Bool.eq_false_or_eq_true (a1.Kind == (2 : Int)) with hb22 | hb22
    · replace H := ite_t hb22 H
      refine Cd.condT rfl hb22 ?_
      refine Cd.seq ?_
      refine Cd.seq ?_
      refine Cd.quiet (by kernel_rfl) (by kernel_rfl) ?_
      refine Qt.run rfl rfl (by decide) (Ev.move rfl) ?_
      refine Qt.run rfl rfl (by decide) (Ev.fieldAddr (off' := 2) rfl Try.runUnderlying75 rfl Try.sizeOf3 rfl rfl) ?_
      refine Qt.run rfl rfl (by decide) (Ev.load (i := 0) rfl rfl Try.isAgg3 (v := .int .i64 a1.Msg) ((Event.get_Msg (Get.here _)).off (by rfl))) ?_
      refine Qt.run rfl rfl (by decide) (Ev.nilCheck rfl) ?_
      refine Qt.run rfl rfl (by decide) (Ev.fieldAddr (off' := 0) rfl Try.runUnderlying84 rfl Try.sizeOf76 rfl rfl) ?_
      obtain ⟨x23, h24, H⟩ := bind_some H
      have g25 := vat_some h24
      refine Qt.run rfl rfl (by decide) (Ev.indexAddr (off' := 0 + a1.Msg.toNat * 1) rfl rfl Try.runUnderlying76 Try.sizeOf3 g25.1 g25.2.1 rfl) ?_
      refine Qt.run rfl rfl (by decide) (Ev.load (i := 1) rfl rfl Try.isAgg3 (v := .int .i64 x23) ((Checker.get_sender (Get.vecN (s := 1) (x := x23) rfl g25.2.2 (Get.here _))).off (by omega))) ?_
      refine Qt.run rfl rfl (by decide) (Ev.gtr rfl rfl) ?_
      refine Qt.done ?_
      refine At.then ?_
      rcases Bool.eq_false_or_eq_true (decide (x23 > (0 : Int))) with hb26 | hb26
      · replace H := ite_t hb26 H
        refine Cd.condT rfl hb26 ?_
        refine Cd.seq ?_
        refine Cd.as (e' := []) (L' := (.blk b2 (enc a1) 75) :: (.blk b_a0 (enc a0) 84) :: L) trivial rfl ?_
        refine Cd.region ?_
        refine Lst.run rfl rfl (by decide) (Ev.assign rfl) ?_
        refine Lst.nil ?_
        refine At.then ?_
        obtain rfl := some_inj H
        replace H := HKo19
        obtain rfl := some_inj H
        refine Cd.ret ?_
        refine At.then_ret ?_
        refine At.in_ret ?_
        refine At.then_ret ?_
        exact At.ret1 rfl (Res.tmp rfl) hF16 (List.Sublist.cons _ (List.Sublist.cons_cons _ (List.Sublist.refl _))) ⟨rfl, rfl⟩
      replace H := ite_f hb26 H
      refine Cd.condF rfl hb26 ?_
      refine Cd.skip ?_
      refine At.then ?_
      refine Cd.as (e' := [(0, .pointer (some ⟨b_a0, 0, none⟩)), (3, .pointer (some ⟨b2, 0, none⟩))]) (L' := (.blk b2 (enc a1) 75) :: (.blk b_a0 (enc a0) 84) :: L) ⟨rfl, rfl, trivial⟩ rfl ?_
      refine Cd.tail 9 (by kernel_rfl) (by kernel_rfl) ?_
      refine Qt.run rfl rfl (by decide) (Ev.move rfl) ?_
      refine Qt.run rfl rfl (by decide) (Ev.fieldAddr (off' := 2) rfl Try.runUnderlying75 rfl Try.sizeOf3 rfl rfl) ?_
      refine Qt.run rfl rfl (by decide) (Ev.load (i := 0) rfl rfl Try.isAgg3 (v := .int .i64 a1.Msg) ((Event.get_Msg (Get.here _)).off (by rfl))) ?_
      refine Qt.run rfl rfl (by decide) (Ev.fieldAddr (off' := 0) rfl Try.runUnderlying75 rfl Try.sizeOf3 rfl rfl) ?_
      refine Qt.run rfl rfl (by decide) (Ev.load (i := 0) rfl rfl Try.isAgg3 (v := .int .i64 a1.Proc) ((Event.get_Proc (Get.here _)).off (by rfl))) ?_
      refine Qt.run rfl rfl (by decide) (Ev.add rfl rfl) ?_
      refine Qt.run rfl rfl (by decide) (Ev.nilCheck rfl) ?_
      refine Qt.run rfl rfl (by decide) (Ev.fieldAddr (off' := 0) rfl Try.runUnderlying84 rfl Try.sizeOf76 rfl rfl) ?_
      obtain ⟨x27, h28, H⟩ := bind_some H
      have g29 := vat_some h28
      refine Qt.run rfl rfl (by decide) (Ev.indexAddr (off' := 0 + a1.Msg.toNat * 1) rfl rfl Try.runUnderlying76 Try.sizeOf3 g29.1 g29.2.1 rfl) ?_
      refine Qt.tail ?_
      obtain ⟨p30, h31, H⟩ := Let_some H
      refine Lst.store (i := 1) rfl rfl rfl rfl rfl Try.sizeOf3 (vs := [.int .i64 (w64 (a1.Proc + (1 : Int)))]) rfl rfl rfl (cs' := enc p30) (by rw [← h31]; exact (Checker.put_sender (Put.vecN (s := 1) (x := x27) rfl g29.2.2 (Put.here (vs := [.int .i64 (w64 (a1.Proc + (1 : Int)))]) rfl))).off (by omega)) (L' := (.blk b2 (enc a1) 75) :: (.blk b_a0 (enc p30) 84) :: L) rfl ?_
      refine Lst.nil ?_
      refine At.in_normal ?_
      exact At.meet p30 (FLe.refl _) trivial rfl (some_inj H)
    replace H := ite_f hb22 H
    refine Cd.condF rfl hb22 ?_
    refine Cd.seq ?_
    refine Cd.region ?_
    refine Lst.run rfl rfl (by decide) (Ev.eql rfl rfl) ?_
    refine Lst.run rfl rfl (by decide) (Ev.assign rfl) ?_
    refine Lst.nil ?_
    refine At.then ?_
    rcases (Bool.eq_false_or_eq_true (a1.Kind == (3 : Int))).symm with hb32 | hb32
    · replace H := ite_f hb32 H
      refine Cd.condF rfl hb32 ?_
      refine Cd.seq ?_
      refine Cd.region ?_
      refine Lst.run rfl rfl (by decide) (Ev.assign rfl) ?_
      refine Lst.nil ?_
      refine At.then ?_
      obtain rfl := some_inj H
      replace H := HKo19
      obtain rfl := some_inj H
      refine Cd.ret ?_
      refine At.in_ret ?_
      refine At.then_ret ?_
      exact At.ret1 rfl (Res.tmp rfl) hF16 (List.Sublist.cons _ (List.Sublist.cons_cons _ (List.Sublist.refl _))) ⟨rfl, rfl⟩
    replace H := ite_t hb32 H
    refine Cd.condT rfl hb32 ?_
    refine Cd.seq ?_
    refine Cd.seq ?_
    refine Cd.quiet (by kernel_rfl) (by kernel_rfl) ?_
    refine Qt.run rfl rfl (by decide) (Ev.move rfl) ?_
    refine Qt.run rfl rfl (by decide) (Ev.fieldAddr (off' := 2) rfl Try.runUnderlying75 rfl Try.sizeOf3 rfl rfl) ?_
    refine Qt.run rfl rfl (by decide) (Ev.load (i := 0) rfl rfl Try.isAgg3 (v := .int .i64 a1.Msg) ((Event.get_Msg (Get.here _)).off (by rfl))) ?_
    refine Qt.run rfl rfl (by decide) (Ev.nilCheck rfl) ?_
    refine Qt.run rfl rfl (by decide) (Ev.fieldAddr (off' := 0) rfl Try.runUnderlying84 rfl Try.sizeOf76 rfl rfl) ?_
    obtain ⟨x33, h34, H⟩ := bind_some H
    have g35 := vat_some h34
    refine Qt.run rfl rfl (by decide) (Ev.indexAddr (off' := 0 + a1.Msg.toNat * 1) rfl rfl Try.runUnderlying76 Try.sizeOf3 g35.1 g35.2.1 rfl) ?_
    refine Qt.run rfl rfl (by decide) (Ev.load (i := 1) rfl rfl Try.isAgg3 (v := .int .i64 x33) ((Checker.get_sender (Get.vecN (s := 1) (x := x33) rfl g35.2.2 (Get.here _))).off (by omega))) ?_
    refine Qt.run rfl rfl (by decide) (Ev.eql rfl rfl) ?_
    refine Qt.run rfl rfl (by decide) (Ev.move rfl) ?_
    obtain ⟨o36, H, HKo36⟩ := bind_some H
    refine Qt.join (σ := Bool) 12 (fun y37 => [(0, .pointer (some ⟨b_a0, 0, none⟩)), (3, .pointer (some ⟨b2, 0, none⟩)), (63, .bool y37)]) (fun y37 => y37 = o36) ?_ ?_
    · rcases Bool.eq_false_or_eq_true (x33 == (0 : Int)) with hb38 | hb38
      · replace H := ite_t hb38 H
        refine Qt.skip rfl rfl rfl hb38 rfl (by decide) ?_
        refine Qt.skip rfl rfl rfl hb38 rfl (by decide) ?_
        refine Qt.skip rfl rfl rfl hb38 rfl (by decide) ?_
        refine Qt.skip rfl rfl rfl hb38 rfl (by decide) ?_
        refine Qt.skip rfl rfl rfl hb38 rfl (by decide) ?_
        refine Qt.skip rfl rfl rfl hb38 rfl (by decide) ?_
        refine Qt.skip rfl rfl rfl hb38 rfl (by decide) ?_
        refine Qt.skip rfl rfl rfl hb38 rfl (by decide) ?_
        refine Qt.skip rfl rfl rfl hb38 rfl (by decide) ?_
        refine Qt.skip rfl rfl rfl hb38 rfl (by decide) ?_
        refine Qt.skip rfl rfl rfl hb38 rfl (by decide) ?_
        refine Qt.run rfl rfl (by decide) (Ev.pickT rfl hb38 rfl) ?_
        exact Qt.meet true ⟨rfl, rfl, rfl, trivial⟩ (some_inj H)
      replace H := ite_f hb38 H
      refine Qt.runG rfl rfl rfl hb38 rfl (by decide) (Ev.move rfl) ?_
      refine Qt.runG rfl rfl rfl hb38 rfl (by decide) (Ev.fieldAddr (off' := 2) rfl Try.runUnderlying75 rfl Try.sizeOf3 rfl rfl) ?_
      refine Qt.runG rfl rfl rfl hb38 rfl (by decide) (Ev.load (i := 0) rfl rfl Try.isAgg3 (v := .int .i64 a1.Msg) ((Event.get_Msg (Get.here _)).off (by rfl))) ?_
      refine Qt.runG rfl rfl rfl hb38 rfl (by decide) (Ev.nilCheck rfl) ?_
      refine Qt.runG rfl rfl rfl hb38 rfl (by decide) (Ev.fieldAddr (off' := 0) rfl Try.runUnderlying84 rfl Try.sizeOf76 rfl rfl) ?_
      obtain ⟨x39, h40, H⟩ := bind_some H
      have g41 := vat_some h40
      refine Qt.runG rfl rfl rfl hb38 rfl (by decide) (Ev.indexAddr (off' := 0 + a1.Msg.toNat * 1) rfl rfl Try.runUnderlying76 Try.sizeOf3 g41.1 g41.2.1 rfl) ?_
      refine Qt.runG rfl rfl rfl hb38 rfl (by decide) (Ev.load (i := 1) rfl rfl Try.isAgg3 (v := .int .i64 x39) ((Checker.get_sender (Get.vecN (s := 1) (x := x39) rfl g41.2.2 (Get.here _))).off (by omega))) ?_
      refine Qt.runG rfl rfl rfl hb38 rfl (by decide) (Ev.fieldAddr (off' := 0) rfl Try.runUnderlying75 rfl Try.sizeOf3 rfl rfl) ?_
      refine Qt.runG rfl rfl rfl hb38 rfl (by decide) (Ev.load (i := 0) rfl rfl Try.isAgg3 (v := .int .i64 a1.Proc) ((Event.get_Proc (Get.here _)).off (by rfl))) ?_
      refine Qt.runG rfl rfl rfl hb38 rfl (by decide) (Ev.add rfl rfl) ?_
      refine Qt.runG rfl rfl rfl hb38 rfl (by decide) (Ev.eql rfl rfl) ?_
      refine Qt.run rfl rfl (by decide) (Ev.pickF rfl hb38 rfl) ?_
      exact Qt.meet (x39 == (w64 (a1.Proc + (1 : Int)))) ⟨rfl, rfl, rfl, trivial⟩ (some_inj H)
    rintro y37 hy
    subst hy
    refine Qt.as (e' := [(0, .pointer (some ⟨b_a0, 0, none⟩)), (3, .pointer (some ⟨b2, 0, none⟩)), (63, .bool y37)]) ⟨rfl, rfl, rfl, trivial⟩ ?_
    replace H := HKo36
    refine Qt.run rfl rfl (by decide) (Ev.move rfl) ?_
    obtain ⟨o42, H, HKo42⟩ := bind_some H
    refine Qt.join (σ := Bool) 11 (fun y43 => [(0, .pointer (some ⟨b_a0, 0, none⟩)), (3, .pointer (some ⟨b2, 0, none⟩)), (75, .bool y43)]) (fun y43 => y43 = o42) ?_ ?_
    · rcases Bool.eq_false_or_eq_true y37 with hb44 | hb44
      · replace H := ite_t hb44 H
        refine Qt.skip rfl rfl rfl hb44 rfl (by decide) ?_
        refine Qt.skip rfl rfl rfl hb44 rfl (by decide) ?_
        refine Qt.skip rfl rfl rfl hb44 rfl (by decide) ?_
        refine Qt.skip rfl rfl rfl hb44 rfl (by decide) ?_
        refine Qt.skip rfl rfl rfl hb44 rfl (by decide) ?_
        refine Qt.skip rfl rfl rfl hb44 rfl (by decide) ?_
        refine Qt.skip rfl rfl rfl hb44 rfl (by decide) ?_
        refine Qt.skip rfl rfl rfl hb44 rfl (by decide) ?_
        refine Qt.skip rfl rfl rfl hb44 rfl (by decide) ?_
        refine Qt.skip rfl rfl rfl hb44 rfl (by decide) ?_
        refine Qt.run rfl rfl (by decide) (Ev.pickT rfl hb44 rfl) ?_
        exact Qt.meet true ⟨rfl, rfl, rfl, trivial⟩ (some_inj H)
      replace H := ite_f hb44 H
      refine Qt.runG rfl rfl rfl hb44 rfl (by decide) (Ev.move rfl) ?_
      refine Qt.runG rfl rfl rfl hb44 rfl (by decide) (Ev.fieldAddr (off' := 2) rfl Try.runUnderlying75 rfl Try.sizeOf3 rfl rfl) ?_
      refine Qt.runG rfl rfl rfl hb44 rfl (by decide) (Ev.load (i := 0) rfl rfl Try.isAgg3 (v := .int .i64 a1.Msg) ((Event.get_Msg (Get.here _)).off (by rfl))) ?_
      refine Qt.runG rfl rfl rfl hb44 rfl (by decide) (Ev.fieldAddr (off' := 0) rfl Try.runUnderlying75 rfl Try.sizeOf3 rfl rfl) ?_
      refine Qt.runG rfl rfl rfl hb44 rfl (by decide) (Ev.load (i := 0) rfl rfl Try.isAgg3 (v := .int .i64 a1.Proc) ((Event.get_Proc (Get.here _)).off (by rfl))) ?_
      refine Qt.runG rfl rfl rfl hb44 rfl (by decide) (Ev.nilCheck rfl) ?_
      refine Qt.runG rfl rfl rfl hb44 rfl (by decide) (Ev.fieldAddr (off' := 30) rfl Try.runUnderlying84 rfl Try.sizeOf82 rfl rfl) ?_
      obtain ⟨x45, h46, H⟩ := bind_some H
      have g47 := vat_some h46
      refine Qt.runG rfl rfl rfl hb44 rfl (by decide) (Ev.indexAddr (off' := 30 + a1.Msg.toNat * 6) rfl rfl Try.runUnderlying82 Try.sizeOf81 g47.1 g47.2.1 rfl) ?_
      obtain ⟨x48, h49, H⟩ := bind_some H
      have g50 := vat_some h49
      refine Qt.runG rfl rfl rfl hb44 rfl (by decide) (Ev.indexAddr (off' := 30 + a1.Msg.toNat * 6 + a1.Proc.toNat * 1) rfl rfl Try.runUnderlying81 Try.sizeOf4 g50.1 g50.2.1 rfl) ?_
      refine Qt.runG rfl rfl rfl hb44 rfl (by decide) (Ev.load (i := 1) rfl rfl Try.isAgg4 (v := .bool x48) ((Checker.get_taken (Get.vecN (s := 6) (x := x45) rfl g47.2.2 (Get.vecN (s := 1) (x := x48) rfl g50.2.2 (Get.here _)))).off (by omega))) ?_
      refine Qt.run rfl rfl (by decide) (Ev.pickF rfl hb44 rfl) ?_
      exact Qt.meet x48 ⟨rfl, rfl, rfl, trivial⟩ (some_inj H)
    rintro y43 hy
    subst hy
    refine Qt.as (e' := [(0, .pointer (some ⟨b_a0, 0, none⟩)), (3, .pointer (some ⟨b2, 0, none⟩)), (75, .bool y43)]) ⟨rfl, rfl, rfl, trivial⟩ ?_
    replace H := HKo42
    refine Qt.done ?_
    refine At.then ?_
    rcases Bool.eq_false_or_eq_true y43 with hb51 | hb51
    · replace H := ite_t hb51 H
      refine Cd.condT rfl hb51 ?_
      refine Cd.seq ?_
      refine Cd.region ?_
      refine Lst.run rfl rfl (by decide) (Ev.assign rfl) ?_
      refine Lst.nil ?_
      refine At.then ?_
      obtain rfl := some_inj H
      replace H := HKo19
      obtain rfl := some_inj H
      refine Cd.ret ?_
      refine At.then_ret ?_
      refine At.in_ret ?_
      refine At.then_ret ?_
      exact At.ret1 rfl (Res.tmp rfl) hF16 (List.Sublist.cons _ (List.Sublist.cons_cons _ (List.Sublist.refl _))) ⟨rfl, rfl⟩
    replace H := ite_f hb51 H
    refine Cd.condF rfl hb51 ?_
    refine Cd.skip ?_
    refine At.then ?_
    refine Cd.tail 9 (by kernel_rfl) (by kernel_rfl) ?_
    refine Qt.run rfl rfl (by decide) (Ev.move rfl) ?_
    refine Qt.run rfl rfl (by decide) (Ev.fieldAddr (off' := 2) rfl Try.runUnderlying75 rfl Try.sizeOf3 rfl rfl) ?_
    refine Qt.run rfl rfl (by decide) (Ev.load (i := 0) rfl rfl Try.isAgg3 (v := .int .i64 a1.Msg) ((Event.get_Msg (Get.here _)).off (by rfl))) ?_
    refine Qt.run rfl rfl (by decide) (Ev.fieldAddr (off' := 0) rfl Try.runUnderlying75 rfl Try.sizeOf3 rfl rfl) ?_
    refine Qt.run rfl rfl (by decide) (Ev.load (i := 0) rfl rfl Try.isAgg3 (v := .int .i64 a1.Proc) ((Event.get_Proc (Get.here _)).off (by rfl))) ?_
    refine Qt.run rfl rfl (by decide) (Ev.nilCheck rfl) ?_
    refine Qt.run rfl rfl (by decide) (Ev.fieldAddr (off' := 30) rfl Try.runUnderlying84 rfl Try.sizeOf82 rfl rfl) ?_
    obtain ⟨x52, h53, H⟩ := bind_some H
    have g54 := vat_some h53
    refine Qt.run rfl rfl (by decide) (Ev.indexAddr (off' := 30 + a1.Msg.toNat * 6) rfl rfl Try.runUnderlying82 Try.sizeOf81 g54.1 g54.2.1 rfl) ?_
    obtain ⟨x55, h56, H⟩ := bind_some H
    have g57 := vat_some h56
    refine Qt.run rfl rfl (by decide) (Ev.indexAddr (off' := 30 + a1.Msg.toNat * 6 + a1.Proc.toNat * 1) rfl rfl Try.runUnderlying81 Try.sizeOf4 g57.1 g57.2.1 rfl) ?_
    refine Qt.tail ?_
    obtain ⟨p58, h59, H⟩ := Let_some H
    refine Lst.store (i := 1) rfl rfl rfl rfl rfl Try.sizeOf4 (vs := [.bool true]) rfl rfl rfl (cs' := enc p58) (by rw [← h59]; exact (Checker.put_taken (Put.vecN (s := 6) (x := x52) rfl g54.2.2 (Put.vecN (s := 1) (x := x55) rfl g57.2.2 (Put.here (vs := [.bool true]) rfl)))).off (by omega)) (L' := (.blk b2 (enc a1) 75) :: (.blk b_a0 (enc p58) 84) :: L) rfl ?_
    refine Lst.nil ?_
    refine At.in_normal ?_
    exact At.meet p58 (FLe.refl _) trivial rfl (some_inj H)
  rintro F60 y18 hF61 hy
  subst hy
  refine Cd.as (e' := []) (L' := (.blk b2 (enc a1) 75) :: (.blk b_a0 (enc y18) 84) :: L) trivial rfl ?_
  replace H := HKo19
  refine Cd.seq ?_
  refine Cd.region ?_
  refine Lst.run rfl rfl (by decide) (Ev.assign rfl) ?_
  refine Lst.nil ?_
  refine At.then ?_
  obtain rfl := some_inj H
  refine Cd.ret ?_
  exact At.ret1 rfl (Res.tmp rfl) (FLe.trans hF16 hF61) (List.Sublist.cons _ (List.Sublist.cons_cons _ (List.Sublist.refl _))) ⟨rfl, rfl⟩
set_option maxRecDepth 20000 in
theorem stamp_Check_sim {a0 : List Event} {s_a0 : Sl} {r : Int} (H : stamp_Check a0 = some r) (w0 : World) (F : Frz) (M L : List Item) (hM : M.Sublist L) (hs_a0 : Rd w0 F M s_a0 a0) : Ok Try.prog w0 22 [Sl.v s_a0] F (L) (Is (.int .i64 r) (L)) := by
  unfold stamp_Check at H
  refine Ok.enter (m := 1) (n := 25) Try.func22 rfl rfl rfl (by decide) ?_
  refine Cd.env (e' := [(0, Sl.v s_a0)]) rfl ?_
  refine Cd.seq ?_
  refine Cd.region ?_
  refine Lst.run rfl rfl (by decide) (Ev.assign rfl) ?_
  refine Lst.nil ?_
  refine At.then ?_
  refine Cd.seq ?_
  refine Cd.seq ?_
  refine Cd.region ?_
  refine Lst.run rfl rfl (by decide) (Ev.move rfl) ?_
  refine Lst.run rfl rfl (by decide) (Ev.lenS (α := Event) (xs := a0) (by decide) rfl rfl Try.runUnderlying24 (hs_a0.mono (FLe.refl _) hM)) ?_
  refine Lst.run rfl rfl (by decide) (Ev.gtr rfl rfl) ?_
  refine Lst.nil ?_
  refine At.then ?_
  rcases Bool.eq_false_or_eq_true (decide ((a0.length : Int) > (60 : Int))) with hb1 | hb1
  · replace H := ite_t hb1 H
    refine Cd.condT rfl hb1 ?_
    refine Cd.seq ?_
    refine Cd.region ?_
    refine Lst.run rfl rfl (by decide) (Ev.assign rfl) ?_
    refine Lst.nil ?_
    refine At.then ?_
    obtain rfl := some_inj H
    refine Cd.ret ?_
    refine At.then_ret ?_
    exact At.ret1 rfl (Res.tmp rfl) (FLe.refl _) (List.Sublist.refl _) ⟨rfl, rfl⟩
  replace H := ite_f hb1 H
  refine Cd.condF rfl hb1 ?_
  refine Cd.skip ?_
  refine At.then ?_
  refine Cd.seq ?_
  refine Cd.region ?_
  refine Lst.run rfl rfl (by decide) (Ev.build (v := .agg (enc Checker.zero).toArray) (pv := []) trivial (fun w => by kernel_rfl)) ?_
  refine Lst.box rfl rfl (by decide) rfl (cs := enc Checker.zero) rfl (fun b2 => ?_)
  refine Lst.run rfl rfl (by decide) (Ev.assign rfl) ?_
  refine Lst.nil ?_
  refine At.then ?_
  refine Cd.seq ?_
  refine Cd.seq ?_
  refine Cd.region ?_
  refine Lst.run rfl rfl (by decide) (Ev.move rfl) ?_
  refine Lst.run rfl rfl (by decide) (Ev.lenS (α := Event) (xs := a0) (by decide) rfl rfl Try.runUnderlying24 (hs_a0.mono (FLe.refl _) (List.Sublist.cons _ hM))) ?_
  refine Lst.run rfl rfl (by decide) (Ev.move rfl) ?_
  refine Lst.nil ?_
  refine At.then ?_
  refine Cd.block ?_
  refine Cd.bound (Rd.le (α := Event) (xs := a0) (by decide) (hs_a0.mono (FLe.refl _) (List.Sublist.cons _ hM))) (fun hN18 => ?_)
  obtain ⟨ol4, H, HKl4⟩ := andThen_some H
  refine Cd.loop (σ := Nat × Nat × Checker) (fun (i4, k4, y5) => [(3, .pointer (some ⟨b2, 0, none⟩)), (12, Sl.v s_a0), (13, .int .i64 (a0.length : Int)), (14, .int .i64 (i4 : Int))]) (fun (i4, k4, y5) => (.blk b2 (enc y5) 84) :: L) (fun _ => (fun (i4, k4, y5) => rangeM (stamp_Check_B0 a0) k4 i4 y5 = some ol4 ∧ i4 + k4 = a0.length)) (fun (i4, k4, y5) => k4) (0, a0.length, Checker.zero) ⟨rfl, rfl, rfl, rfl, trivial⟩ rfl ⟨H, by omega⟩ ?_
  rintro F6 ⟨i4, k4, y5⟩ hF7 ⟨H, hik4⟩
  refine Cd.as (e' := [(3, .pointer (some ⟨b2, 0, none⟩)), (12, Sl.v s_a0), (13, .int .i64 (a0.length : Int)), (14, .int .i64 (i4 : Int))]) (L' := (.blk b2 (enc y5) 84) :: L) ⟨rfl, rfl, rfl, rfl, trivial⟩ rfl ?_
  rcases k4 with _ | k4
  · have hc4 : decide ((i4 : Int) < (a0.length : Int)) = false := decide_eq_false (by omega)
    replace H := rangeM_end H
    refine Cd.seq ?_
    refine Cd.region ?_
    refine Lst.run rfl rfl (by decide) (Ev.lss rfl rfl) ?_
    refine Lst.nil ?_
    refine At.then ?_
    refine Cd.seq ?_
    refine Cd.condF rfl hc4 ?_
    refine Cd.exit ?_
    refine At.then_exit ?_
    refine At.then_exit ?_
    refine At.in_exit ?_
    subst H
    replace H := HKl4
    refine At.then ?_
    refine Cd.seq ?_
    refine Cd.region ?_
    refine Lst.run rfl rfl (by decide) (Ev.assign rfl) ?_
    refine Lst.nil ?_
    refine At.then ?_
    obtain rfl := some_inj H
    refine Cd.ret ?_
    exact At.ret1 rfl (Res.tmp rfl) hF7 (List.Sublist.cons _ (List.Sublist.refl _)) ⟨rfl, rfl⟩
  have hc4 : decide ((i4 : Int) < (a0.length : Int)) = true := decide_eq_true (by omega)
  obtain ⟨c4, H, hgo4, hbrk4, hret4⟩ := rangeM_go H
  unfold stamp_Check_B0 at H
  try dsimp only at H
  refine Cd.seq ?_
  refine Cd.region ?_
  refine Lst.run rfl rfl (by decide) (Ev.lss rfl rfl) ?_
  refine Lst.nil ?_
  refine At.then ?_
  refine Cd.seq ?_
  refine Cd.condT rfl hc4 ?_
  refine Cd.skip ?_
  refine At.then ?_
  refine Cd.seq ?_
  refine Cd.block ?_
  refine Cd.seq ?_
  refine Cd.region ?_
  obtain ⟨x8, h9, H⟩ := bind_some H
  have g10 := lat_some h9
  refine Lst.run rfl rfl (by decide) (Ev.indexS (α := Event) (xs := a0) rfl rfl Try.runUnderlying24 Try.sizeOf75 rfl (by decide) (hs_a0.mono hF7 (List.Sublist.cons _ hM)) g10.1 g10.2.1) ?_
  refine Lst.run rfl rfl (by decide) (Ev.loadSA (α := Event) rfl (hs_a0.mono hF7 (List.Sublist.cons _ hM)) Try.isAgg75 Try.sizeOf75 (ch := enc x8) (Enc.len _) (by decide) ((Get.elemN (s := 3) (x := x8) rfl g10.2.2 (Get.here _)).off (by omega))) ?_
  refine Lst.alloc (cs := enc Event.zero) rfl rfl (by decide) Try.zeroValue75 rfl (fun b11 => ?_)
  refine Lst.store (i := 0) rfl rfl rfl rfl rfl Try.sizeOf75 (vs := enc x8) rfl (Enc.len _) (Enc.one _) (cs' := enc x8) (Put.here ((Enc.len _).trans (Enc.len _).symm)) (L' := (.blk b11 (enc x8) 75) :: (.blk b2 (enc y5) 84) :: L) rfl ?_
  refine Lst.nil ?_
  refine At.then ?_
  refine Cd.seq ?_
  refine Cd.region ?_
  refine Lst.run rfl rfl (by decide) (Ev.move rfl) ?_
  refine Lst.run rfl rfl (by decide) (Ev.loadA (i := 0) rfl rfl Try.isAgg75 Try.sizeOf75 (ch := enc x8) (Enc.len _) (Get.here _)) ?_
  obtain ⟨r13, h14, H⟩ := bind_some H
  refine Lst.front (i := 1) rfl (L' := (.blk b2 (enc y5) 84) :: (.blk b11 (enc x8) 75) :: L) rfl ?_
  refine Lst.call rfl rfl (by decide) (vs := [.pointer (some ⟨b2, 0, none⟩), .agg (enc x8).toArray]) ⟨rfl, rfl, trivial⟩ Try.call51 (stamp_checker_event_sim h14 w0 _ M _ (List.Sublist.cons _ hM)) (fun F15 L' v hF16 hv => ?_)
  obtain ⟨rfl, rfl⟩ := hv
  refine Lst.run rfl rfl (by decide) (Ev.assign rfl) ?_
  refine Lst.nil ?_
  refine At.then ?_
  refine Cd.seq ?_
  refine Cd.region ?_
  refine Lst.run rfl rfl (by decide) (Ev.move rfl) ?_
  refine Lst.run rfl rfl (by decide) (Ev.neq rfl rfl) ?_
  refine Lst.nil ?_
  refine At.then ?_
  rcases Bool.eq_false_or_eq_true (r13.2 != (0 : Int)) with hb17 | hb17
  · replace H := ite_t hb17 H
    refine Cd.condT rfl hb17 ?_
    refine Cd.seq ?_
    refine Cd.region ?_
    refine Lst.run rfl rfl (by decide) (Ev.move rfl) ?_
    refine Lst.run rfl rfl (by decide) (Ev.assign rfl) ?_
    refine Lst.nil ?_
    refine At.then ?_
    have H := hret4 _ (some_inj H).symm
    subst H
    replace H := HKl4
    obtain rfl := some_inj H
    refine Cd.ret ?_
    refine At.in_ret ?_
    refine At.then_ret ?_
    refine At.then_ret ?_
    refine At.in_ret ?_
    refine At.then_ret ?_
    exact At.ret1 rfl (Res.tmp rfl) (FLe.trans hF7 hF16) (List.Sublist.cons _ (List.Sublist.cons _ (List.Sublist.refl _))) ⟨rfl, rfl⟩
  replace H := ite_f hb17 H
  refine Cd.condF rfl hb17 ?_
  refine Cd.skip ?_
  refine At.in_normal ?_
  refine At.then ?_
  refine Cd.region ?_
  refine Lst.run rfl rfl (by decide) (Ev.incr (by omega) rfl rfl) ?_
  refine Lst.run rfl rfl (by decide) (Ev.move rfl) ?_
  refine Lst.nil ?_
  refine At.less (L' := (.blk b2 (enc r13.1) 84) :: L) (List.Sublist.cons_cons _ (List.Sublist.cons _ (List.Sublist.refl _))) ?_
  exact At.meet (i4 + 1, k4, r13.1) (FLe.trans hF7 hF16) ⟨rfl, rfl, rfl, rfl, trivial⟩ rfl ⟨⟨hgo4 _ (some_inj H).symm, by omega⟩, Nat.lt_succ_self _⟩
set_option maxRecDepth 20000 in
theorem parttop_historyOf_sim {a0 : List Event} {s_a0 : Sl} {r : (List Event)} (H : parttop_historyOf a0 = some r) (w0 : World) (F : Frz) (M L : List Item) (hM : M.Sublist L) (hs_a0 : Rd w0 F M s_a0 a0) : Ok Try.prog w0 45 [Sl.v s_a0] F (L) (fun _ L' v => ∃ (s1 : Sl), v = Sl.v s1 ∧ L' = (.own s1 75 3 (encs r)) :: L) := by
  unfold parttop_historyOf at H
  refine Ok.enter (m := 1) (n := 25) Try.func45 rfl rfl rfl (by decide) ?_
  refine Cd.env (e' := [(0, Sl.v s_a0)]) rfl ?_
  refine Cd.seq ?_
  refine Cd.region ?_
  refine Lst.addNil 75 3 ?_
  refine Lst.run rfl rfl (by decide) (Ev.assign rfl) ?_
  refine Lst.nil ?_
  refine At.then ?_
  refine Cd.seq ?_
  refine Cd.region ?_
  refine Lst.addNil 75 3 ?_
  refine Lst.run rfl rfl (by decide) (Ev.assign rfl) ?_
  refine Lst.nil ?_
  refine At.then ?_
  refine Cd.seq ?_
  refine Cd.seq ?_
  refine Cd.region ?_
  refine Lst.run rfl rfl (by decide) (Ev.move rfl) ?_
  refine Lst.run rfl rfl (by decide) (Ev.lenS (α := Event) (xs := a0) (by decide) rfl rfl Try.runUnderlying24 (hs_a0.mono (FLe.refl _) (List.Sublist.cons _ (List.Sublist.cons _ hM)))) ?_
  refine Lst.run rfl rfl (by decide) (Ev.move rfl) ?_
  refine Lst.nil ?_
  refine At.then ?_
  refine Cd.block ?_
  refine Cd.bound (Rd.le (α := Event) (xs := a0) (by decide) (hs_a0.mono (FLe.refl _) (List.Sublist.cons _ (List.Sublist.cons _ hM)))) (fun hN51 => ?_)
  obtain ⟨ol3, H, HKl3⟩ := bind_some H
  refine Cd.loop (σ := Nat × Nat × Sl × (List Event)) (fun (i3, k3, s4, l5) => [(3, Sl.v s4), (6, Sl.v s_a0), (7, .int .i64 (a0.length : Int)), (8, .int .i64 (i3 : Int))]) (fun (i3, k3, s4, l5) => (.own s4 75 3 (encs l5)) :: (.own Sl.nil 75 3 (encs ([] : List Event))) :: L) (fun _ => (fun (i3, k3, s4, l5) => rangeF (parttop_historyOf_B0 a0) k3 i3 l5 = some ol3 ∧ i3 + k3 = a0.length)) (fun (i3, k3, s4, l5) => k3) (0, a0.length, Sl.nil, ([] : List Event)) ⟨rfl, rfl, rfl, rfl, trivial⟩ rfl ⟨H, by omega⟩ ?_
  rintro F6 ⟨i3, k3, s4, l5⟩ hF7 ⟨H, hik3⟩
  refine Cd.as (e' := [(3, Sl.v s4), (6, Sl.v s_a0), (7, .int .i64 (a0.length : Int)), (8, .int .i64 (i3 : Int))]) (L' := (.own s4 75 3 (encs l5)) :: (.own Sl.nil 75 3 (encs ([] : List Event))) :: L) ⟨rfl, rfl, rfl, rfl, trivial⟩ rfl ?_
  rcases k3 with _ | k3
  · have hc3 : decide ((i3 : Int) < (a0.length : Int)) = false := decide_eq_false (by omega)
    replace H := rangeF_end H
    refine Cd.seq ?_
    refine Cd.region ?_
    refine Lst.run rfl rfl (by decide) (Ev.lss rfl rfl) ?_
    refine Lst.nil ?_
    refine At.then ?_
    refine Cd.seq ?_
    refine Cd.condF rfl hc3 ?_
    refine Cd.exit ?_
    refine At.then_exit ?_
    refine At.then_exit ?_
    refine At.in_exit ?_
    subst H
    replace H := HKl3
    refine At.then ?_
    refine Cd.seq ?_
    refine Cd.region ?_
    refine Lst.run rfl rfl (by decide) (Ev.move rfl) ?_
    refine Lst.run rfl rfl (by decide) (Ev.assign rfl) ?_
    refine Lst.nil ?_
    refine At.then ?_
    obtain rfl := some_inj H
    refine Cd.ret ?_
    exact At.ret1 rfl (Res.tmp rfl) hF7 (List.Sublist.cons_cons _ (List.Sublist.cons _ (List.Sublist.refl _))) ⟨s4, rfl, rfl⟩
  have hc3 : decide ((i3 : Int) < (a0.length : Int)) = true := decide_eq_true (by omega)
  obtain ⟨c3, H, hgo3⟩ := rangeF_go H
  unfold parttop_historyOf_B0 at H
  try dsimp only at H
  refine Cd.seq ?_
  refine Cd.region ?_
  refine Lst.run rfl rfl (by decide) (Ev.lss rfl rfl) ?_
  refine Lst.nil ?_
  refine At.then ?_
  refine Cd.seq ?_
  refine Cd.condT rfl hc3 ?_
  refine Cd.skip ?_
  refine At.then ?_
  refine Cd.seq ?_
  refine Cd.block ?_
  refine Cd.seq ?_
  refine Cd.region ?_
  obtain ⟨x8, h9, H⟩ := bind_some H
  have g10 := lat_some h9
  refine Lst.run rfl rfl (by decide) (Ev.indexS (α := Event) (xs := a0) rfl rfl Try.runUnderlying24 Try.sizeOf75 rfl (by decide) (hs_a0.mono hF7 (List.Sublist.cons _ (List.Sublist.cons _ hM))) g10.1 g10.2.1) ?_
  refine Lst.run rfl rfl (by decide) (Ev.loadSA (α := Event) rfl (hs_a0.mono hF7 (List.Sublist.cons _ (List.Sublist.cons _ hM))) Try.isAgg75 Try.sizeOf75 (ch := enc x8) (Enc.len _) (by decide) ((Get.elemN (s := 3) (x := x8) rfl g10.2.2 (Get.here _)).off (by omega))) ?_
  refine Lst.alloc (cs := enc Event.zero) rfl rfl (by decide) Try.zeroValue75 rfl (fun b11 => ?_)
  refine Lst.store (i := 0) rfl rfl rfl rfl rfl Try.sizeOf75 (vs := enc x8) rfl (Enc.len _) (Enc.one _) (cs' := enc x8) (Put.here ((Enc.len _).trans (Enc.len _).symm)) (L' := (.blk b11 (enc x8) 75) :: (.own s4 75 3 (encs l5)) :: (.own Sl.nil 75 3 (encs ([] : List Event))) :: L) rfl ?_
  refine Lst.nil ?_
  refine At.then ?_
  refine Cd.seq ?_
  obtain ⟨r13, h14, H⟩ := bind_some H
  obtain ⟨o26, h27, H⟩ := Let_some H
  refine Cd.headMeet (σ := Sl × (List Event) × Sl × (List Event)) 4 (fun (s22, l23, s24, l25) => [(3, Sl.v s4), (5, .pointer (some ⟨b11, 0, none⟩)), (6, Sl.v s_a0), (7, .int .i64 (a0.length : Int)), (8, .int .i64 (i3 : Int)), (13, Sl.v s24), (15, Sl.v s22)]) (fun (s22, l23, s24, l25) => (.own s22 75 3 (encs l23)) :: (.own s24 75 3 (encs l25)) :: (.blk b11 (enc x8) 75) :: (.own s4 75 3 (encs l5)) :: (.own Sl.nil 75 3 (encs ([] : List Event))) :: L) (fun _ (s22, l23, s24, l25) => (l23, l25) = o26) (by kernel_rfl) (by kernel_rfl) (behind_sink (by kernel_rfl) (by kernel_rfl) (by kernel_rfl)) (by kernel_rfl) (fun hsel hlt => ?_) ?_
  · refine HdJ.keep (fun w => St w0 F6 ((.blk b11 (enc x8) 75) :: (.own s4 75 3 (encs l5)) :: (.own Sl.nil 75 3 (encs ([] : List Event))) :: L) w) (fun w h => trivial) ?_
    refine HdJ.takeK hsel hlt 0 (fun w h => h.sublist (List.Sublist.cons_cons _ (List.Sublist.cons_cons _ (List.Sublist.cons_cons _ (List.Sublist.refl _))))) rfl rfl (by decide) (by decide) (by kernel_rfl) (by kernel_rfl) rfl (Ev.move rfl) ?_
    refine HdJ.takeK hsel hlt 2 (fun w h => h.sublist (List.Sublist.cons_cons _ (List.Sublist.cons_cons _ (List.Sublist.cons_cons _ (List.Sublist.refl _))))) rfl rfl (by decide) (by decide) (by kernel_rfl) (by kernel_rfl) rfl (Ev.loadA (i := 0) rfl rfl Try.isAgg75 Try.sizeOf75 (ch := enc x8) (Enc.len _) (Get.here _)) ?_
    refine HdJ.step [1, 3] (by kernel_rfl) rfl ?_
    refine HdStep.cons (by decide) rfl (fun inv => ?_) ?_
    · refine Lst.call rfl rfl (by decide) (vs := [Sl.v s4]) ⟨rfl, trivial⟩ Try.call65 (slices_Clone_api_Event_api_Event_sim h14 w0 _ _ _ (List.Sublist.refl _) (Rd.own (i := 1) rfl rfl rfl)) (fun F29 L' v hF30 hv => ?_)
      obtain ⟨s28, rfl, rfl⟩ := hv
      refine Lst.nil ?_
      refine At.hd inv (fun w h => (h.weaken hF30).sublist (List.Sublist.cons _ (List.Sublist.cons_cons _ (List.Sublist.cons_cons _ (List.Sublist.cons_cons _ (List.Sublist.refl _)))))) ?_
      refine HdJ.step [3] (by kernel_rfl) rfl ?_
      refine HdStep.cons (by decide) rfl (fun inv => ?_) ?_
      · refine Lst.buildSlice (α := Event) (xs := ([x8] : List Event)) (pv := [(0, .agg (enc x8).toArray)]) rfl rfl (by decide) ⟨rfl, rfl, trivial⟩ (run_buildSlice (α := Event) (z0 := Event.zero) (xs := ([x8] : List Event)) Try.runUnderlying24 Try.sizeOf75 Try.zeroValue75 rfl rfl rfl (by decide) rfl (fill_cons (cs := encs (List.replicate 1 Event.zero)) (cs' := encs ((List.replicate 1 Event.zero).set 0 x8)) (vs := enc x8) rfl rfl (Enc.len _) ((Put.elemN (s := 3) (i := 0) (x := Event.zero) (y := x8) rfl rfl (Put.here ((Enc.len _).trans (Enc.len _).symm))).off rfl) fill_nil)) rfl rfl (by decide) (fun s31 _ => ?_)
        refine Lst.nil ?_
        refine At.hd inv (fun w h => (h.weaken hF30).sublist (List.Sublist.cons _ (List.Sublist.cons _ (List.Sublist.cons_cons _ (List.Sublist.cons_cons _ (List.Sublist.cons_cons _ (List.Sublist.refl _))))))) ?_
        refine HdJ.done (by kernel_rfl) ?_
        exact At.meetN (s31, ([x8] : List Event), s28, r13) hF30 ⟨rfl, rfl, rfl, rfl, rfl, rfl, rfl, trivial⟩ rfl h27
      exact trivial
    refine HdStep.cons (by decide) rfl (fun inv => ?_) ?_
    · refine Lst.buildSlice (α := Event) (xs := ([x8] : List Event)) (pv := [(0, .agg (enc x8).toArray)]) rfl rfl (by decide) ⟨rfl, rfl, trivial⟩ (run_buildSlice (α := Event) (z0 := Event.zero) (xs := ([x8] : List Event)) Try.runUnderlying24 Try.sizeOf75 Try.zeroValue75 rfl rfl rfl (by decide) rfl (fill_cons (cs := encs (List.replicate 1 Event.zero)) (cs' := encs ((List.replicate 1 Event.zero).set 0 x8)) (vs := enc x8) rfl rfl (Enc.len _) ((Put.elemN (s := 3) (i := 0) (x := Event.zero) (y := x8) rfl rfl (Put.here ((Enc.len _).trans (Enc.len _).symm))).off rfl) fill_nil)) rfl rfl (by decide) (fun s32 _ => ?_)
      refine Lst.nil ?_
      refine At.hd inv (fun w h => (h.weaken (FLe.refl _)).sublist (List.Sublist.cons _ (List.Sublist.cons_cons _ (List.Sublist.cons_cons _ (List.Sublist.cons_cons _ (List.Sublist.refl _)))))) ?_
      refine HdJ.step [1] (by kernel_rfl) rfl ?_
      refine HdStep.cons (by decide) rfl (fun inv => ?_) ?_
      · refine Lst.call rfl rfl (by decide) (vs := [Sl.v s4]) ⟨rfl, trivial⟩ Try.call65 (slices_Clone_api_Event_api_Event_sim h14 w0 _ _ _ (List.Sublist.refl _) (Rd.own (i := 2) rfl rfl rfl)) (fun F34 L' v hF35 hv => ?_)
        obtain ⟨s33, rfl, rfl⟩ := hv
        refine Lst.nil ?_
        refine At.hd inv (fun w h => (h.weaken hF35).sublist (List.Sublist.cons _ (List.Sublist.cons _ (List.Sublist.cons_cons _ (List.Sublist.cons_cons _ (List.Sublist.cons_cons _ (List.Sublist.refl _))))))) ?_
        refine HdJ.done (by kernel_rfl) ?_
        refine At.front (i := 4) rfl rfl ?_
        refine At.front (i := 4) rfl rfl ?_
        refine At.front (i := 4) rfl rfl ?_
        refine At.front (i := 3) rfl rfl ?_
        refine At.front (i := 4) rfl rfl ?_
        exact At.meetN (s32, ([x8] : List Event), s33, r13) hF35 ⟨rfl, rfl, rfl, rfl, rfl, rfl, rfl, trivial⟩ rfl h27
      exact trivial
    exact trivial
  rintro F36 ⟨s22, l23, s24, l25⟩ hF37 hy
  subst hy
  refine Lst.as (e' := [(3, Sl.v s4), (5, .pointer (some ⟨b11, 0, none⟩)), (6, Sl.v s_a0), (7, .int .i64 (a0.length : Int)), (8, .int .i64 (i3 : Int)), (13, Sl.v s24), (15, Sl.v s22)]) (L' := (.own s22 75 3 (encs l23)) :: (.own s24 75 3 (encs l25)) :: (.blk b11 (enc x8) 75) :: (.own s4 75 3 (encs l5)) :: (.own Sl.nil 75 3 (encs ([] : List Event))) :: L) ⟨rfl, rfl, rfl, rfl, rfl, rfl, rfl, trivial⟩ rfl ?_
  obtain ⟨u38, h39, H⟩ := bind_some H
  refine Lst.append (i := 1) (α := Event) (xs := l25) (ys := l23) rfl rfl (by decide) rfl rfl Try.runUnderlying24 Try.typeInfo75 rfl rfl rfl rfl rfl rfl (Rd.own (i := 0) rfl rfl rfl) rfl (room_some h39) rfl (fun s40 => ?_)
  refine Lst.its (L' := (.own s22 75 3 (encs l23)) :: (.own s40 75 3 (encs (l25 ++ l23))) :: (.blk b11 (enc x8) 75) :: (.own s4 75 3 (encs l5)) :: (.own Sl.nil 75 3 (encs ([] : List Event))) :: L) rfl ?_
  obtain ⟨r41, h42, H⟩ := bind_some H
  refine Lst.call1 rfl rfl (by decide) (vs := [Sl.v s40]) ⟨rfl, trivial⟩ Try.call22 (stamp_Check_sim h42 w0 _ _ _ (List.Sublist.refl _) (Rd.own (i := 1) rfl rfl rfl)) ?_
  refine Lst.run rfl rfl (by decide) (Ev.eql rfl rfl) ?_
  refine Lst.nil ?_
  refine At.then ?_
  rcases (Bool.eq_false_or_eq_true (r41 == (0 : Int))).symm with hb45 | hb45
  · replace H := ite_f hb45 H
    refine Cd.condF rfl hb45 ?_
    refine Cd.skip ?_
    refine At.in_normal ?_
    refine At.then ?_
    refine Cd.region ?_
    refine Lst.run rfl rfl (by decide) (Ev.incr (by omega) rfl rfl) ?_
    refine Lst.run rfl rfl (by decide) (Ev.move rfl) ?_
    refine Lst.nil ?_
    refine At.less (L' := (.own s4 75 3 (encs l5)) :: (.own Sl.nil 75 3 (encs ([] : List Event))) :: L) (List.Sublist.cons _ (List.Sublist.cons _ (List.Sublist.cons _ (List.Sublist.cons_cons _ (List.Sublist.cons_cons _ (List.Sublist.refl _)))))) ?_
    exact At.meet (i3 + 1, k3, s4, l5) (FLe.trans hF7 hF37) ⟨rfl, rfl, rfl, rfl, trivial⟩ rfl ⟨⟨hgo3 _ (some_inj H).symm, by omega⟩, Nat.lt_succ_self _⟩
  replace H := ite_t hb45 H
  refine Cd.condT rfl hb45 ?_
  refine Cd.region ?_
  refine Lst.run rfl rfl (by decide) (Ev.move rfl) ?_
  refine Lst.run rfl rfl (by decide) (Ev.loadA (i := 2) rfl rfl Try.isAgg75 Try.sizeOf75 (ch := enc x8) (Enc.len _) (Get.here _)) ?_
  refine Lst.buildSlice (α := Event) (xs := ([x8] : List Event)) (pv := [(0, .agg (enc x8).toArray)]) rfl rfl (by decide) ⟨rfl, rfl, trivial⟩ (run_buildSlice (α := Event) (z0 := Event.zero) (xs := ([x8] : List Event)) Try.runUnderlying24 Try.sizeOf75 Try.zeroValue75 rfl rfl rfl (by decide) rfl (fill_cons (cs := encs (List.replicate 1 Event.zero)) (cs' := encs ((List.replicate 1 Event.zero).set 0 x8)) (vs := enc x8) rfl rfl (Enc.len _) ((Put.elemN (s := 3) (i := 0) (x := Event.zero) (y := x8) rfl rfl (Put.here ((Enc.len _).trans (Enc.len _).symm))).off rfl) fill_nil)) rfl rfl (by decide) (fun s46 _ => ?_)
  obtain ⟨u48, h49, H⟩ := bind_some H
  refine Lst.append (i := 4) (α := Event) (xs := l5) (ys := ([x8] : List Event)) rfl rfl (by decide) rfl rfl Try.runUnderlying24 Try.typeInfo75 rfl rfl rfl rfl rfl rfl (Rd.own (i := 0) rfl rfl rfl) rfl (room_some h49) rfl (fun s50 => ?_)
  refine Lst.its (L' := (.own s46 75 3 (encs ([x8] : List Event))) :: (.own s22 75 3 (encs l23)) :: (.own s40 75 3 (encs (l25 ++ l23))) :: (.blk b11 (enc x8) 75) :: (.own s50 75 3 (encs (l5 ++ ([x8] : List Event)))) :: (.own Sl.nil 75 3 (encs ([] : List Event))) :: L) rfl ?_
  refine Lst.run rfl rfl (by decide) (Ev.assign rfl) ?_
  refine Lst.nil ?_
  refine At.in_normal ?_
  refine At.then ?_
  refine Cd.region ?_
  refine Lst.run rfl rfl (by decide) (Ev.incr (by omega) rfl rfl) ?_
  refine Lst.run rfl rfl (by decide) (Ev.move rfl) ?_
  refine Lst.nil ?_
  refine At.less (L' := (.own s50 75 3 (encs (l5 ++ ([x8] : List Event)))) :: (.own Sl.nil 75 3 (encs ([] : List Event))) :: L) (List.Sublist.cons _ (List.Sublist.cons _ (List.Sublist.cons _ (List.Sublist.cons _ (List.Sublist.cons_cons _ (List.Sublist.cons_cons _ (List.Sublist.refl _))))))) ?_
  exact At.meet (i3 + 1, k3, s50, l5 ++ ([x8] : List Event)) (FLe.trans hF7 hF37) ⟨rfl, rfl, rfl, rfl, trivial⟩ rfl ⟨⟨hgo3 _ (some_inj H).symm, by omega⟩, Nat.lt_succ_self _⟩
set_option maxRecDepth 20000 in
theorem vect_Max_sim {a0 : Vector Int 6} {a1 : Vector Int 6} {r : (Vector Int 6)} (H : vect_Max a0 a1 = some r) (w0 : World) (F : Frz) (M L : List Item) (hM : M.Sublist L) : Ok Try.prog w0 10 [.agg (enc a0).toArray, .agg (enc a1).toArray] F (L) (Is (.agg (enc r).toArray) (L)) := by
  unfold vect_Max at H
  refine Ok.enter (m := 2) (n := 20) Try.func10 rfl rfl rfl (by decide) ?_
  refine Cd.env (e' := [(0, .agg (enc a0).toArray), (1, .agg (enc a1).toArray)]) rfl ?_
  refine Cd.seq ?_
  refine Cd.region ?_
  refine Lst.box rfl rfl (by decide) rfl (cs := enc a0) rfl (fun b1 => ?_)
  refine Lst.box rfl rfl (by decide) rfl (cs := enc a1) rfl (fun b3 => ?_)
  refine Lst.alloc (cs := enc (Vector.replicate 6 (0 : Int))) rfl rfl (by decide) Try.zeroValue23 rfl (fun b5 => ?_)
  refine Lst.nil ?_
  refine At.then ?_
  refine Cd.seq ?_
  refine Cd.seq ?_
  refine Cd.region ?_
  refine Lst.run rfl rfl (by decide) (Ev.move rfl) ?_
  refine Lst.nil ?_
  refine At.then ?_
  refine Cd.block ?_
  obtain ⟨ol7, H, HKl7⟩ := bind_some H
  refine Cd.loop (σ := Nat × Nat × (Vector Int 6)) (fun (i7, k7, y8) => [(2, .pointer (some ⟨b1, 0, none⟩)), (3, .pointer (some ⟨b3, 0, none⟩)), (4, .pointer (some ⟨b5, 0, none⟩)), (6, .int .i64 (i7 : Int))]) (fun (i7, k7, y8) => (.blk b5 (enc (Vector.replicate 6 (0 : Int))) 23) :: (.blk b3 (enc a1) 23) :: (.blk b1 (enc y8) 23) :: L) (fun _ => (fun (i7, k7, y8) => rangeF (vect_Max_B0 a1) k7 i7 y8 = some ol7 ∧ i7 + k7 = 6)) (fun (i7, k7, y8) => k7) (0, 6, a0) ⟨rfl, rfl, rfl, rfl, trivial⟩ rfl ⟨H, by omega⟩ ?_
  rintro F9 ⟨i7, k7, y8⟩ hF10 ⟨H, hik7⟩
  refine Cd.as (e' := [(2, .pointer (some ⟨b1, 0, none⟩)), (3, .pointer (some ⟨b3, 0, none⟩)), (4, .pointer (some ⟨b5, 0, none⟩)), (6, .int .i64 (i7 : Int))]) (L' := (.blk b5 (enc (Vector.replicate 6 (0 : Int))) 23) :: (.blk b3 (enc a1) 23) :: (.blk b1 (enc y8) 23) :: L) ⟨rfl, rfl, rfl, rfl, trivial⟩ rfl ?_
  rcases k7 with _ | k7
  · have hc7 : decide ((i7 : Int) < (6 : Int)) = false := decide_eq_false (by omega)
    replace H := rangeF_end H
    refine Cd.seq ?_
    refine Cd.region ?_
    refine Lst.run rfl rfl (by decide) (Ev.lss rfl rfl) ?_
    refine Lst.nil ?_
    refine At.then ?_
    refine Cd.seq ?_
    refine Cd.condF rfl hc7 ?_
    refine Cd.exit ?_
    refine At.then_exit ?_
    refine At.then_exit ?_
    refine At.in_exit ?_
    subst H
    replace H := HKl7
    refine At.then ?_
    refine Cd.seq ?_
    refine Cd.region ?_
    refine Lst.run rfl rfl (by decide) (Ev.loadA (i := 2) rfl rfl Try.isAgg23 Try.sizeOf23 (ch := enc y8) (Enc.len _) (Get.here _)) ?_
    refine Lst.store (i := 0) rfl rfl rfl rfl rfl Try.sizeOf23 (vs := enc y8) rfl (Enc.len _) (Enc.one _) (cs' := enc y8) (Put.here ((Enc.len _).trans (Enc.len _).symm)) (L' := (.blk b5 (enc y8) 23) :: (.blk b3 (enc a1) 23) :: (.blk b1 (enc y8) 23) :: L) rfl ?_
    refine Lst.nil ?_
    refine At.then ?_
    obtain rfl := some_inj H
    refine Cd.ret ?_
    exact At.ret1 rfl (Res.cellA (i := 0) rfl rfl Try.isAgg23 Try.sizeOf23 (Enc.len _)) hF10 (List.Sublist.cons _ (List.Sublist.cons _ (List.Sublist.cons _ (List.Sublist.refl _)))) ⟨rfl, rfl⟩
  have hc7 : decide ((i7 : Int) < (6 : Int)) = true := decide_eq_true (by omega)
  obtain ⟨c7, H, hgo7⟩ := rangeF_go H
  unfold vect_Max_B0 at H
  try dsimp only at H
  refine Cd.seq ?_
  refine Cd.region ?_
  refine Lst.run rfl rfl (by decide) (Ev.lss rfl rfl) ?_
  refine Lst.nil ?_
  refine At.then ?_
  refine Cd.seq ?_
  refine Cd.condT rfl hc7 ?_
  refine Cd.skip ?_
  refine At.then ?_
  refine Cd.seq ?_
  refine Cd.block ?_
  refine Cd.seq ?_
  refine Cd.region ?_
  refine Lst.run rfl rfl (by decide) (Ev.move rfl) ?_
  refine Lst.run rfl rfl (by decide) (Ev.assign rfl) ?_
  refine Lst.nil ?_
  refine At.then ?_
  refine Cd.tail 9 (by kernel_rfl) (by kernel_rfl) ?_
  refine Qt.run rfl rfl (by decide) (Ev.move rfl) ?_
  refine Qt.run rfl rfl (by decide) (Ev.move rfl) ?_
  obtain ⟨x11, h12, H⟩ := bind_some H
  have g13 := vat_some h12
  refine Qt.run rfl rfl (by decide) (Ev.indexAddr (off' := 0 + (i7 : Int).toNat * 1) rfl rfl Try.runUnderlying23 Try.sizeOf3 g13.1 g13.2.1 rfl) ?_
  refine Qt.run rfl rfl (by decide) (Ev.load (i := 2) rfl rfl Try.isAgg3 (v := .int .i64 x11) ((Get.vecN (s := 1) (x := x11) rfl g13.2.2 (Get.here _)).off (by omega))) ?_
  refine Qt.run rfl rfl (by decide) (Ev.move rfl) ?_
  obtain ⟨x14, h15, H⟩ := bind_some H
  have g16 := vat_some h15
  refine Qt.run rfl rfl (by decide) (Ev.indexAddr (off' := 0 + (i7 : Int).toNat * 1) rfl rfl Try.runUnderlying23 Try.sizeOf3 g16.1 g16.2.1 rfl) ?_
  refine Qt.run rfl rfl (by decide) (Ev.load (i := 1) rfl rfl Try.isAgg3 (v := .int .i64 x14) ((Get.vecN (s := 1) (x := x14) rfl g16.2.2 (Get.here _)).off (by omega))) ?_
  refine Qt.run rfl rfl (by decide) (Ev.max2 rfl rfl) ?_
  obtain ⟨x17, h18, H⟩ := bind_some H
  have g19 := vat_some h18
  refine Qt.run rfl rfl (by decide) (Ev.indexAddr (off' := 0 + (i7 : Int).toNat * 1) rfl rfl Try.runUnderlying23 Try.sizeOf3 g19.1 g19.2.1 rfl) ?_
  refine Qt.tail ?_
  obtain ⟨p20, h21, H⟩ := Let_some H
  refine Lst.store (i := 2) rfl rfl rfl rfl rfl Try.sizeOf3 (vs := [.int .i64 (max x11 x14)]) rfl rfl rfl (cs' := enc p20) (by rw [← h21]; exact (Put.vecN (s := 1) (x := x17) rfl g19.2.2 (Put.here (vs := [.int .i64 (max x11 x14)]) rfl)).off (by omega)) (L' := (.blk b5 (enc (Vector.replicate 6 (0 : Int))) 23) :: (.blk b3 (enc a1) 23) :: (.blk b1 (enc p20) 23) :: L) rfl ?_
  refine Lst.nil ?_
  refine At.in_normal ?_
  refine At.then ?_
  refine Cd.region ?_
  refine Lst.run rfl rfl (by decide) (Ev.incr (by omega) rfl rfl) ?_
  refine Lst.run rfl rfl (by decide) (Ev.move rfl) ?_
  refine Lst.nil ?_
  exact At.meet (i7 + 1, k7, p20) hF10 ⟨rfl, rfl, rfl, rfl, trivial⟩ rfl ⟨⟨hgo7 _ (some_inj H).symm, by omega⟩, Nat.lt_succ_self _⟩
set_option maxRecDepth 20000 in
theorem vect_Vectors_sim {a0 : List Event} {s_a0 : Sl} {r : (List (Vector Int 6)) × Int} (H : vect_Vectors a0 = some r) (w0 : World) (F : Frz) (M L : List Item) (hM : M.Sublist L) (hs_a0 : Rd w0 F M s_a0 a0) : Ok Try.prog w0 15 [Sl.v s_a0] F (L) (fun _ L' v => ∃ (s1 : Sl), v = .tuple #[Sl.v s1, .int .i64 r.2] ∧ L' = (.own s1 23 6 (encs r.1)) :: L) := by
  unfold vect_Vectors at H
  refine Ok.enter (m := 1) (n := 66) Try.func15 rfl rfl rfl (by decide) ?_
  refine Cd.env (e' := [(0, Sl.v s_a0)]) rfl ?_
  refine Cd.seq ?_
  refine Cd.region ?_
  refine Lst.addNil 23 6 ?_
  refine Lst.run rfl rfl (by decide) (Ev.assign rfl) ?_
  refine Lst.run rfl rfl (by decide) (Ev.assign rfl) ?_
  refine Lst.nil ?_
  refine At.then ?_
  refine Cd.seq ?_
  refine Cd.seq ?_
  refine Cd.region ?_
  refine Lst.run rfl rfl (by decide) (Ev.move rfl) ?_
  obtain ⟨r2, h3, H⟩ := bind_some H
  refine Lst.call1 rfl rfl (by decide) (vs := [Sl.v s_a0]) ⟨rfl, trivial⟩ Try.call22 (stamp_Check_sim h3 w0 _ M _ (List.Sublist.cons _ hM) (hs_a0.mono (FLe.refl _) (List.Sublist.refl _))) ?_
  refine Lst.run rfl rfl (by decide) (Ev.assign rfl) ?_
  refine Lst.nil ?_
  refine At.then ?_
  refine Cd.seq ?_
  refine Cd.region ?_
  refine Lst.run rfl rfl (by decide) (Ev.move rfl) ?_
  refine Lst.run rfl rfl (by decide) (Ev.neq rfl rfl) ?_
  refine Lst.nil ?_
  refine At.then ?_
  rcases Bool.eq_false_or_eq_true (r2 != (0 : Int)) with hb6 | hb6
  · replace H := ite_t hb6 H
    refine Cd.condT rfl hb6 ?_
    refine Cd.seq ?_
    refine Cd.region ?_
    refine Lst.run rfl rfl (by decide) (Ev.move rfl) ?_
    refine Lst.addNil 23 6 ?_
    refine Lst.run rfl rfl (by decide) (Ev.assign rfl) ?_
    refine Lst.run rfl rfl (by decide) (Ev.assign rfl) ?_
    refine Lst.nil ?_
    refine At.then ?_
    obtain rfl := some_inj H
    refine Cd.ret ?_
    refine At.then_ret ?_
    exact At.ret2 rfl (Res.tmp rfl) (Res.tmp rfl) (FLe.refl _) (List.Sublist.cons_cons _ (List.Sublist.cons _ (List.Sublist.refl _))) ⟨Sl.nil, rfl, rfl⟩
  replace H := ite_f hb6 H
  refine Cd.condF rfl hb6 ?_
  refine Cd.skip ?_
  refine At.then ?_
  refine Cd.seq ?_
  refine Cd.region ?_
  refine Lst.addNil 23 6 ?_
  refine Lst.run rfl rfl (by decide) (Ev.assign rfl) ?_
  refine Lst.nil ?_
  refine At.then ?_
  refine Cd.seq ?_
  refine Cd.region ?_
  refine Lst.alloc (cs := enc (Vector.replicate 6 (0 : Int))) rfl rfl (by decide) Try.zeroValue23 rfl (fun b9 => ?_)
  refine Lst.nil ?_
  refine At.then ?_
  refine Cd.seq ?_
  refine Cd.region ?_
  refine Lst.alloc (cs := enc (Vector.replicate 6 (Vector.replicate 6 (0 : Int)))) rfl rfl (by decide) Try.zeroValue72 rfl (fun b11 => ?_)
  refine Lst.nil ?_
  refine At.then ?_
  refine Cd.seq ?_
  refine Cd.region ?_
  refine Lst.alloc (z := .agg (enc (Vector.replicate 30 (Vector.replicate 6 (0 : Int)))).toArray) (cs := enc (Vector.replicate 30 (Vector.replicate 6 (0 : Int)))) rfl rfl (by decide) (fun _ => by kernel_rfl) rfl (fun b13 => ?_)
  refine Lst.nil ?_
  refine At.then ?_
  refine Cd.seq ?_
  refine Cd.seq ?_
  refine Cd.region ?_
  refine Lst.run rfl rfl (by decide) (Ev.move rfl) ?_
  refine Lst.run rfl rfl (by decide) (Ev.lenS (α := Event) (xs := a0) (by decide) rfl rfl Try.runUnderlying24 (hs_a0.mono (FLe.refl _) (List.Sublist.cons _ (List.Sublist.cons _ (List.Sublist.cons _ (List.Sublist.cons _ (List.Sublist.cons _ hM))))))) ?_
  refine Lst.run rfl rfl (by decide) (Ev.move rfl) ?_
  refine Lst.nil ?_
  refine At.then ?_
  refine Cd.block ?_
  refine Cd.bound (Rd.le (α := Event) (xs := a0) (by decide) (hs_a0.mono (FLe.refl _) (List.Sublist.cons _ (List.Sublist.cons _ (List.Sublist.cons _ (List.Sublist.cons _ (List.Sublist.cons _ hM))))))) (fun hN81 => ?_)
  obtain ⟨ol15, H, HKl15⟩ := bind_some H
  refine Cd.loop (σ := Nat × Nat × (Vector (Vector Int 6) 30) × (Vector (Vector Int 6) 6) × (Vector Int 6) × Sl × (List (Vector Int 6))) (fun (i15, k15, y16, y17, y18, s19, l20) => [(5, Sl.v s19), (6, .pointer (some ⟨b9, 0, none⟩)), (7, .pointer (some ⟨b11, 0, none⟩)), (8, .pointer (some ⟨b13, 0, none⟩)), (17, Sl.v s_a0), (18, .int .i64 (a0.length : Int)), (19, .int .i64 (i15 : Int))]) (fun (i15, k15, y16, y17, y18, s19, l20) => (.blk b13 (enc y16) 73) :: (.blk b11 (enc y17) 72) :: (.blk b9 (enc y18) 23) :: (.own s19 23 6 (encs l20)) :: (.own Sl.nil 23 6 (encs ([] : List (Vector Int 6)))) :: L) (fun _ => (fun (i15, k15, y16, y17, y18, s19, l20) => rangeF (vect_Vectors_B0 a0) k15 i15 (y16, y17, y18, l20) = some ol15 ∧ i15 + k15 = a0.length)) (fun (i15, k15, y16, y17, y18, s19, l20) => k15) (0, a0.length, (Vector.replicate 30 (Vector.replicate 6 (0 : Int))), (Vector.replicate 6 (Vector.replicate 6 (0 : Int))), (Vector.replicate 6 (0 : Int)), Sl.nil, ([] : List (Vector Int 6))) ⟨rfl, rfl, rfl, rfl, rfl, rfl, rfl, trivial⟩ rfl ⟨H, by omega⟩ ?_
  rintro F21 ⟨i15, k15, y16, y17, y18, s19, l20⟩ hF22 ⟨H, hik15⟩
  refine Cd.as (e' := [(5, Sl.v s19), (6, .pointer (some ⟨b9, 0, none⟩)), (7, .pointer (some ⟨b11, 0, none⟩)), (8, .pointer (some ⟨b13, 0, none⟩)), (17, Sl.v s_a0), (18, .int .i64 (a0.length : Int)), (19, .int .i64 (i15 : Int))]) (L' := (.blk b13 (enc y16) 73) :: (.blk b11 (enc y17) 72) :: (.blk b9 (enc y18) 23) :: (.own s19 23 6 (encs l20)) :: (.own Sl.nil 23 6 (encs ([] : List (Vector Int 6)))) :: L) ⟨rfl, rfl, rfl, rfl, rfl, rfl, rfl, trivial⟩ rfl ?_
  rcases k15 with _ | k15
  · have hc15 : decide ((i15 : Int) < (a0.length : Int)) = false := decide_eq_false (by omega)
    replace H := rangeF_end H
    refine Cd.seq ?_
    refine Cd.region ?_
    refine Lst.run rfl rfl (by decide) (Ev.lss rfl rfl) ?_
    refine Lst.nil ?_
    refine At.then ?_
    refine Cd.seq ?_
    refine Cd.condF rfl hc15 ?_
    refine Cd.exit ?_
    refine At.then_exit ?_
    refine At.then_exit ?_
    refine At.in_exit ?_
    subst H
    replace H := HKl15
    refine At.then ?_
    refine Cd.seq ?_
    refine Cd.region ?_
    refine Lst.run rfl rfl (by decide) (Ev.move rfl) ?_
    refine Lst.run rfl rfl (by decide) (Ev.assign rfl) ?_
    refine Lst.run rfl rfl (by decide) (Ev.assign rfl) ?_
    refine Lst.nil ?_
    refine At.then ?_
    obtain rfl := some_inj H
    refine Cd.ret ?_
    exact At.ret2 rfl (Res.tmp rfl) (Res.tmp rfl) hF22 (List.Sublist.cons _ (List.Sublist.cons _ (List.Sublist.cons _ (List.Sublist.cons_cons _ (List.Sublist.cons _ (List.Sublist.refl _)))))) ⟨s19, rfl, rfl⟩
  have hc15 : decide ((i15 : Int) < (a0.length : Int)) = true := decide_eq_true (by omega)
  obtain ⟨c15, H, hgo15⟩ := rangeF_go H
  unfold vect_Vectors_B0 at H
  try dsimp only at H
  refine Cd.seq ?_
  refine Cd.region ?_
  refine Lst.run rfl rfl (by decide) (Ev.lss rfl rfl) ?_
  refine Lst.nil ?_
  refine At.then ?_
  refine Cd.seq ?_
  refine Cd.condT rfl hc15 ?_
  refine Cd.skip ?_
  refine At.then ?_
  refine Cd.seq ?_
  refine Cd.block ?_
  refine Cd.seq ?_
  refine Cd.region ?_
  obtain ⟨x23, h24, H⟩ := bind_some H
  have g25 := lat_some h24
  refine Lst.run rfl rfl (by decide) (Ev.indexS (α := Event) (xs := a0) rfl rfl Try.runUnderlying24 Try.sizeOf75 rfl (by decide) (hs_a0.mono hF22 (List.Sublist.cons _ (List.Sublist.cons _ (List.Sublist.cons _ (List.Sublist.cons _ (List.Sublist.cons _ hM)))))) g25.1 g25.2.1) ?_
  refine Lst.run rfl rfl (by decide) (Ev.loadSA (α := Event) rfl (hs_a0.mono hF22 (List.Sublist.cons _ (List.Sublist.cons _ (List.Sublist.cons _ (List.Sublist.cons _ (List.Sublist.cons _ hM)))))) Try.isAgg75 Try.sizeOf75 (ch := enc x23) (Enc.len _) (by decide) ((Get.elemN (s := 3) (x := x23) rfl g25.2.2 (Get.here _)).off (by omega))) ?_
  refine Lst.alloc (cs := enc Event.zero) rfl rfl (by decide) Try.zeroValue75 rfl (fun b26 => ?_)
  refine Lst.store (i := 0) rfl rfl rfl rfl rfl Try.sizeOf75 (vs := enc x23) rfl (Enc.len _) (Enc.one _) (cs' := enc x23) (Put.here ((Enc.len _).trans (Enc.len _).symm)) (L' := (.blk b26 (enc x23) 75) :: (.blk b13 (enc y16) 73) :: (.blk b11 (enc y17) 72) :: (.blk b9 (enc y18) 23) :: (.own s19 23 6 (encs l20)) :: (.own Sl.nil 23 6 (encs ([] : List (Vector Int 6)))) :: L) rfl ?_
  refine Lst.nil ?_
  refine At.then ?_
  refine Cd.seq ?_
  refine Cd.region ?_
  refine Lst.run rfl rfl (by decide) (Ev.fieldAddr (off' := 0) rfl Try.runUnderlying75 rfl Try.sizeOf3 rfl rfl) ?_
  refine Lst.run rfl rfl (by decide) (Ev.load (i := 0) rfl rfl Try.isAgg3 (v := .int .i64 x23.Proc) ((Event.get_Proc (Get.here _)).off (by rfl))) ?_
  obtain ⟨x28, h29, H⟩ := bind_some H
  have g30 := vat_some h29
  refine Lst.run rfl rfl (by decide) (Ev.indexAddr (off' := 0 + x23.Proc.toNat * 6) rfl rfl Try.runUnderlying72 Try.sizeOf23 g30.1 g30.2.1 rfl) ?_
  refine Lst.run rfl rfl (by decide) (Ev.loadA (i := 2) rfl rfl Try.isAgg23 Try.sizeOf23 (ch := enc x28) (Enc.len _) ((Get.vecN (s := 6) (x := x28) rfl g30.2.2 (Get.here _)).off (by omega))) ?_
  refine Lst.alloc (cs := enc (Vector.replicate 6 (0 : Int))) rfl rfl (by decide) Try.zeroValue23 rfl (fun b31 => ?_)
  refine Lst.store (i := 0) rfl rfl rfl rfl rfl Try.sizeOf23 (vs := enc x28) rfl (Enc.len _) (Enc.one _) (cs' := enc x28) (Put.here ((Enc.len _).trans (Enc.len _).symm)) (L' := (.blk b31 (enc x28) 23) :: (.blk b26 (enc x23) 75) :: (.blk b13 (enc y16) 73) :: (.blk b11 (enc y17) 72) :: (.blk b9 (enc y18) 23) :: (.own s19 23 6 (encs l20)) :: (.own Sl.nil 23 6 (encs ([] : List (Vector Int 6)))) :: L) rfl ?_
  refine Lst.nil ?_
  refine At.then ?_
  obtain ⟨o34, H, HKo34⟩ := bind_some H
  refine Cd.join (σ := (Vector Int 6)) (fun y33 => [(5, Sl.v s19), (6, .pointer (some ⟨b9, 0, none⟩)), (7, .pointer (some ⟨b11, 0, none⟩)), (8, .pointer (some ⟨b13, 0, none⟩)), (10, .pointer (some ⟨b26, 0, none⟩)), (11, .pointer (some ⟨b31, 0, none⟩)), (17, Sl.v s_a0), (18, .int .i64 (a0.length : Int)), (19, .int .i64 (i15 : Int))]) (fun y33 => (.blk b31 (enc y33) 23) :: (.blk b26 (enc x23) 75) :: (.blk b13 (enc y16) 73) :: (.blk b11 (enc y17) 72) :: (.blk b9 (enc y18) 23) :: (.own s19 23 6 (encs l20)) :: (.own Sl.nil 23 6 (encs ([] : List (Vector Int 6)))) :: L) (fun _ y33 => y33 = o34) ?_ ?_
  · refine Cd.seq ?_
    refine Cd.region ?_
    refine Lst.run rfl rfl (by decide) (Ev.fieldAddr (off' := 1) rfl Try.runUnderlying75 rfl Try.sizeOf3 rfl rfl) ?_
    refine Lst.run rfl rfl (by decide) (Ev.load (i := 1) rfl rfl Try.isAgg3 (v := .int .i64 x23.Kind) ((Event.get_Kind (Get.here _)).off (by rfl))) ?_
    refine Lst.run rfl rfl (by decide) (Ev.eql rfl rfl) ?_
    refine Lst.nil ?_
    refine At.then ?_
    rcases (Bool.eq_false_or_eq_true (x23.Kind == (3 : Int))).symm with hb35 | hb35
    · replace H := ite_f hb35 H
      refine Cd.condF rfl hb35 ?_
      refine Cd.skip ?_
      exact At.meet x28 (FLe.refl _) ⟨rfl, rfl, rfl, rfl, rfl, rfl, rfl, rfl, rfl, trivial⟩ rfl (some_inj H)
    replace H := ite_t hb35 H
    refine Cd.condT rfl hb35 ?_
    refine Cd.tail 6 (by kernel_rfl) (by kernel_rfl) ?_
    refine Qt.run rfl rfl (by decide) (Ev.loadA (i := 0) rfl rfl Try.isAgg23 Try.sizeOf23 (ch := enc x28) (Enc.len _) (Get.here _)) ?_
    refine Qt.run rfl rfl (by decide) (Ev.fieldAddr (off' := 2) rfl Try.runUnderlying75 rfl Try.sizeOf3 rfl rfl) ?_
    refine Qt.run rfl rfl (by decide) (Ev.load (i := 1) rfl rfl Try.isAgg3 (v := .int .i64 x23.Msg) ((Event.get_Msg (Get.here _)).off (by rfl))) ?_
    obtain ⟨x36, h37, H⟩ := bind_some H
    have g38 := vat_some h37
    refine Qt.run rfl rfl (by decide) (Ev.indexAddr (off' := 0 + x23.Msg.toNat * 6) rfl rfl Try.runUnderlying73 Try.sizeOf23 g38.1 g38.2.1 rfl) ?_
    refine Qt.run rfl rfl (by decide) (Ev.loadA (i := 2) rfl rfl Try.isAgg23 Try.sizeOf23 (ch := enc x36) (Enc.len _) ((Get.vecN (s := 6) (x := x36) rfl g38.2.2 (Get.here _)).off (by omega))) ?_
    obtain ⟨r39, h40, H⟩ := bind_some H
    refine Qt.call rfl rfl (by decide) (vs := [.agg (enc x28).toArray, .agg (enc x36).toArray]) ⟨rfl, rfl, trivial⟩ Try.call10 (vect_Max_sim h40 w0 _ M _ (List.Sublist.cons _ (List.Sublist.cons _ (List.Sublist.cons _ (List.Sublist.cons _ (List.Sublist.cons _ (List.Sublist.cons _ (List.Sublist.cons _ hM)))))))) ?_
    refine Qt.tail ?_
    refine Lst.store (i := 0) rfl rfl rfl rfl rfl Try.sizeOf23 (vs := enc r39) rfl (Enc.len _) (Enc.one _) (cs' := enc r39) (Put.here ((Enc.len _).trans (Enc.len _).symm)) (L' := (.blk b31 (enc r39) 23) :: (.blk b26 (enc x23) 75) :: (.blk b13 (enc y16) 73) :: (.blk b11 (enc y17) 72) :: (.blk b9 (enc y18) 23) :: (.own s19 23 6 (encs l20)) :: (.own Sl.nil 23 6 (encs ([] : List (Vector Int 6)))) :: L) rfl ?_
    refine Lst.nil ?_
    exact At.meet r39 (FLe.refl _) ⟨rfl, rfl, rfl, rfl, rfl, rfl, rfl, rfl, rfl, trivial⟩ rfl (some_inj H)
  rintro F43 y33 hF44 hy
  subst hy
  refine Cd.as (e' := [(5, Sl.v s19), (6, .pointer (some ⟨b9, 0, none⟩)), (7, .pointer (some ⟨b11, 0, none⟩)), (8, .pointer (some ⟨b13, 0, none⟩)), (10, .pointer (some ⟨b26, 0, none⟩)), (11, .pointer (some ⟨b31, 0, none⟩)), (17, Sl.v s_a0), (18, .int .i64 (a0.length : Int)), (19, .int .i64 (i15 : Int))]) (L' := (.blk b31 (enc y33) 23) :: (.blk b26 (enc x23) 75) :: (.blk b13 (enc y16) 73) :: (.blk b11 (enc y17) 72) :: (.blk b9 (enc y18) 23) :: (.own s19 23 6 (encs l20)) :: (.own Sl.nil 23 6 (encs ([] : List (Vector Int 6)))) :: L) ⟨rfl, rfl, rfl, rfl, rfl, rfl, rfl, rfl, rfl, trivial⟩ rfl ?_
  replace H := HKo34
  refine Cd.seq ?_
  refine Cd.region ?_
  refine Lst.run rfl rfl (by decide) (Ev.fieldAddr (off' := 0) rfl Try.runUnderlying75 rfl Try.sizeOf3 rfl rfl) ?_
  refine Lst.run rfl rfl (by decide) (Ev.load (i := 1) rfl rfl Try.isAgg3 (v := .int .i64 x23.Proc) ((Event.get_Proc (Get.here _)).off (by rfl))) ?_
  obtain ⟨x45, h46, H⟩ := bind_some H
  have g47 := vat_some h46
  refine Lst.run rfl rfl (by decide) (Ev.indexAddr (off' := 0 + x23.Proc.toNat * 1) rfl rfl Try.runUnderlying23 Try.sizeOf3 g47.1 g47.2.1 rfl) ?_
  refine Lst.run rfl rfl (by decide) (Ev.load (i := 4) rfl rfl Try.isAgg3 (v := .int .i64 x45) ((Get.vecN (s := 1) (x := x45) rfl g47.2.2 (Get.here _)).off (by omega))) ?_
  refine Lst.run rfl rfl (by decide) (Ev.add rfl rfl) ?_
  obtain ⟨x48, h49, H⟩ := bind_some H
  have g50 := vat_some h49
  refine Lst.run rfl rfl (by decide) (Ev.indexAddr (off' := 0 + x23.Proc.toNat * 1) rfl rfl Try.runUnderlying23 Try.sizeOf3 g50.1 g50.2.1 rfl) ?_
  obtain ⟨p51, h52, H⟩ := Let_some H
  refine Lst.store (i := 4) rfl rfl rfl rfl rfl Try.sizeOf3 (vs := [.int .i64 (w64 (x45 + (1 : Int)))]) rfl rfl rfl (cs' := enc p51) (by rw [← h52]; exact (Put.vecN (s := 1) (x := x48) rfl g50.2.2 (Put.here (vs := [.int .i64 (w64 (x45 + (1 : Int)))]) rfl)).off (by omega)) (L' := (.blk b31 (enc y33) 23) :: (.blk b26 (enc x23) 75) :: (.blk b13 (enc y16) 73) :: (.blk b11 (enc y17) 72) :: (.blk b9 (enc p51) 23) :: (.own s19 23 6 (encs l20)) :: (.own Sl.nil 23 6 (encs ([] : List (Vector Int 6)))) :: L) rfl ?_
  refine Lst.nil ?_
  refine At.then ?_
  refine Cd.seq ?_
  refine Cd.tail 7 (by kernel_rfl) (by kernel_rfl) ?_
  refine Qt.run rfl rfl (by decide) (Ev.fieldAddr (off' := 0) rfl Try.runUnderlying75 rfl Try.sizeOf3 rfl rfl) ?_
  refine Qt.run rfl rfl (by decide) (Ev.load (i := 1) rfl rfl Try.isAgg3 (v := .int .i64 x23.Proc) ((Event.get_Proc (Get.here _)).off (by rfl))) ?_
  refine Qt.run rfl rfl (by decide) (Ev.fieldAddr (off' := 0) rfl Try.runUnderlying75 rfl Try.sizeOf3 rfl rfl) ?_
  refine Qt.run rfl rfl (by decide) (Ev.load (i := 1) rfl rfl Try.isAgg3 (v := .int .i64 x23.Proc) ((Event.get_Proc (Get.here _)).off (by rfl))) ?_
  obtain ⟨x53, h54, H⟩ := bind_some H
  have g55 := vat_some h54
  refine Qt.run rfl rfl (by decide) (Ev.indexAddr (off' := 0 + x23.Proc.toNat * 1) rfl rfl Try.runUnderlying23 Try.sizeOf3 g55.1 g55.2.1 rfl) ?_
  refine Qt.run rfl rfl (by decide) (Ev.load (i := 4) rfl rfl Try.isAgg3 (v := .int .i64 x53) ((Get.vecN (s := 1) (x := x53) rfl g55.2.2 (Get.here _)).off (by omega))) ?_
  obtain ⟨x56, h57, H⟩ := bind_some H
  have g58 := vat_some h57
  refine Qt.run rfl rfl (by decide) (Ev.indexAddr (off' := 0 + x23.Proc.toNat * 1) rfl rfl Try.runUnderlying23 Try.sizeOf3 g58.1 g58.2.1 rfl) ?_
  refine Qt.tail ?_
  obtain ⟨p59, h60, H⟩ := Let_some H
  refine Lst.store (i := 0) rfl rfl rfl rfl rfl Try.sizeOf3 (vs := [.int .i64 x53]) rfl rfl rfl (cs' := enc p59) (by rw [← h60]; exact (Put.vecN (s := 1) (x := x56) rfl g58.2.2 (Put.here (vs := [.int .i64 x53]) rfl)).off (by omega)) (L' := (.blk b31 (enc p59) 23) :: (.blk b26 (enc x23) 75) :: (.blk b13 (enc y16) 73) :: (.blk b11 (enc y17) 72) :: (.blk b9 (enc p51) 23) :: (.own s19 23 6 (encs l20)) :: (.own Sl.nil 23 6 (encs ([] : List (Vector Int 6)))) :: L) rfl ?_
  refine Lst.nil ?_
  refine At.then ?_
  refine Cd.seq ?_
  refine Cd.region ?_
  refine Lst.run rfl rfl (by decide) (Ev.fieldAddr (off' := 0) rfl Try.runUnderlying75 rfl Try.sizeOf3 rfl rfl) ?_
  refine Lst.run rfl rfl (by decide) (Ev.load (i := 1) rfl rfl Try.isAgg3 (v := .int .i64 x23.Proc) ((Event.get_Proc (Get.here _)).off (by rfl))) ?_
  refine Lst.run rfl rfl (by decide) (Ev.loadA (i := 0) rfl rfl Try.isAgg23 Try.sizeOf23 (ch := enc p59) (Enc.len _) (Get.here _)) ?_
  obtain ⟨x61, h62, H⟩ := bind_some H
  have g63 := vat_some h62
  refine Lst.run rfl rfl (by decide) (Ev.indexAddr (off' := 0 + x23.Proc.toNat * 6) rfl rfl Try.runUnderlying72 Try.sizeOf23 g63.1 g63.2.1 rfl) ?_
  obtain ⟨p64, h65, H⟩ := Let_some H
  refine Lst.store (i := 3) rfl rfl rfl rfl rfl Try.sizeOf23 (vs := enc p59) rfl (Enc.len _) (Enc.one _) (cs' := enc p64) (by rw [← h65]; exact (Put.vecN (s := 6) (x := x61) rfl g63.2.2 (Put.here ((Enc.len _).trans (Enc.len _).symm))).off (by omega)) (L' := (.blk b31 (enc p59) 23) :: (.blk b26 (enc x23) 75) :: (.blk b13 (enc y16) 73) :: (.blk b11 (enc p64) 72) :: (.blk b9 (enc p51) 23) :: (.own s19 23 6 (encs l20)) :: (.own Sl.nil 23 6 (encs ([] : List (Vector Int 6)))) :: L) rfl ?_
  refine Lst.nil ?_
  refine At.then ?_
  obtain ⟨o67, H, HKo67⟩ := bind_some H
  refine Cd.join (σ := (Vector (Vector Int 6) 30)) (fun y66 => [(5, Sl.v s19), (6, .pointer (some ⟨b9, 0, none⟩)), (7, .pointer (some ⟨b11, 0, none⟩)), (8, .pointer (some ⟨b13, 0, none⟩)), (11, .pointer (some ⟨b31, 0, none⟩)), (17, Sl.v s_a0), (18, .int .i64 (a0.length : Int)), (19, .int .i64 (i15 : Int))]) (fun y66 => (.blk b31 (enc p59) 23) :: (.blk b26 (enc x23) 75) :: (.blk b13 (enc y66) 73) :: (.blk b11 (enc p64) 72) :: (.blk b9 (enc p51) 23) :: (.own s19 23 6 (encs l20)) :: (.own Sl.nil 23 6 (encs ([] : List (Vector Int 6)))) :: L) (fun _ y66 => y66 = o67) ?_ ?_
  · refine Cd.seq ?_
    refine Cd.as (e' := [(5, Sl.v s19), (6, .pointer (some ⟨b9, 0, none⟩)), (7, .pointer (some ⟨b11, 0, none⟩)), (8, .pointer (some ⟨b13, 0, none⟩)), (10, .pointer (some ⟨b26, 0, none⟩)), (11, .pointer (some ⟨b31, 0, none⟩)), (17, Sl.v s_a0), (18, .int .i64 (a0.length : Int)), (19, .int .i64 (i15 : Int))]) (L' := (.blk b31 (enc p59) 23) :: (.blk b26 (enc x23) 75) :: (.blk b13 (enc y16) 73) :: (.blk b11 (enc p64) 72) :: (.blk b9 (enc p51) 23) :: (.own s19 23 6 (encs l20)) :: (.own Sl.nil 23 6 (encs ([] : List (Vector Int 6)))) :: L) ⟨rfl, rfl, rfl, rfl, rfl, rfl, rfl, rfl, rfl, trivial⟩ rfl ?_
    refine Cd.region ?_
    refine Lst.run rfl rfl (by decide) (Ev.fieldAddr (off' := 1) rfl Try.runUnderlying75 rfl Try.sizeOf3 rfl rfl) ?_
    refine Lst.run rfl rfl (by decide) (Ev.load (i := 1) rfl rfl Try.isAgg3 (v := .int .i64 x23.Kind) ((Event.get_Kind (Get.here _)).off (by rfl))) ?_
    refine Lst.run rfl rfl (by decide) (Ev.eql rfl rfl) ?_
    refine Lst.nil ?_
    refine At.then ?_
    rcases (Bool.eq_false_or_eq_true (x23.Kind == (2 : Int))).symm with hb68 | hb68
    · replace H := ite_f hb68 H
      refine Cd.condF rfl hb68 ?_
      refine Cd.skip ?_
      exact At.meet y16 (FLe.refl _) ⟨rfl, rfl, rfl, rfl, rfl, rfl, rfl, rfl, trivial⟩ rfl (some_inj H)
    replace H := ite_t hb68 H
    refine Cd.condT rfl hb68 ?_
    refine Cd.region ?_
    refine Lst.run rfl rfl (by decide) (Ev.fieldAddr (off' := 2) rfl Try.runUnderlying75 rfl Try.sizeOf3 rfl rfl) ?_
    refine Lst.run rfl rfl (by decide) (Ev.load (i := 1) rfl rfl Try.isAgg3 (v := .int .i64 x23.Msg) ((Event.get_Msg (Get.here _)).off (by rfl))) ?_
    refine Lst.run rfl rfl (by decide) (Ev.loadA (i := 0) rfl rfl Try.isAgg23 Try.sizeOf23 (ch := enc p59) (Enc.len _) (Get.here _)) ?_
    obtain ⟨x69, h70, H⟩ := bind_some H
    have g71 := vat_some h70
    refine Lst.run rfl rfl (by decide) (Ev.indexAddr (off' := 0 + x23.Msg.toNat * 6) rfl rfl Try.runUnderlying73 Try.sizeOf23 g71.1 g71.2.1 rfl) ?_
    obtain ⟨p72, h73, H⟩ := Let_some H
    refine Lst.store (i := 2) rfl rfl rfl rfl rfl Try.sizeOf23 (vs := enc p59) rfl (Enc.len _) (Enc.one _) (cs' := enc p72) (by rw [← h73]; exact (Put.vecN (s := 6) (x := x69) rfl g71.2.2 (Put.here ((Enc.len _).trans (Enc.len _).symm))).off (by omega)) (L' := (.blk b31 (enc p59) 23) :: (.blk b26 (enc x23) 75) :: (.blk b13 (enc p72) 73) :: (.blk b11 (enc p64) 72) :: (.blk b9 (enc p51) 23) :: (.own s19 23 6 (encs l20)) :: (.own Sl.nil 23 6 (encs ([] : List (Vector Int 6)))) :: L) rfl ?_
    refine Lst.nil ?_
    exact At.meet p72 (FLe.refl _) ⟨rfl, rfl, rfl, rfl, rfl, rfl, rfl, rfl, trivial⟩ rfl (some_inj H)
  rintro F74 y66 hF75 hy
  subst hy
  refine Cd.as (e' := [(5, Sl.v s19), (6, .pointer (some ⟨b9, 0, none⟩)), (7, .pointer (some ⟨b11, 0, none⟩)), (8, .pointer (some ⟨b13, 0, none⟩)), (11, .pointer (some ⟨b31, 0, none⟩)), (17, Sl.v s_a0), (18, .int .i64 (a0.length : Int)), (19, .int .i64 (i15 : Int))]) (L' := (.blk b31 (enc p59) 23) :: (.blk b26 (enc x23) 75) :: (.blk b13 (enc y66) 73) :: (.blk b11 (enc p64) 72) :: (.blk b9 (enc p51) 23) :: (.own s19 23 6 (encs l20)) :: (.own Sl.nil 23 6 (encs ([] : List (Vector Int 6)))) :: L) ⟨rfl, rfl, rfl, rfl, rfl, rfl, rfl, rfl, trivial⟩ rfl ?_
  replace H := HKo67
  refine Cd.region ?_
  refine Lst.run rfl rfl (by decide) (Ev.move rfl) ?_
  refine Lst.run rfl rfl (by decide) (Ev.loadA (i := 0) rfl rfl Try.isAgg23 Try.sizeOf23 (ch := enc p59) (Enc.len _) (Get.here _)) ?_
  refine Lst.buildSlice (α := Vector Int 6) (xs := ([p59] : List (Vector Int 6))) (pv := [(0, .agg (enc p59).toArray)]) rfl rfl (by decide) ⟨rfl, rfl, trivial⟩ (run_buildSlice (α := Vector Int 6) (z0 := (Vector.replicate 6 (0 : Int))) (xs := ([p59] : List (Vector Int 6))) Try.runUnderlying28 Try.sizeOf23 Try.zeroValue23 rfl rfl rfl (by decide) rfl (fill_cons (cs := encs (List.replicate 1 (Vector.replicate 6 (0 : Int)))) (cs' := encs ((List.replicate 1 (Vector.replicate 6 (0 : Int))).set 0 p59)) (vs := enc p59) rfl rfl (Enc.len _) ((Put.elemN (s := 6) (i := 0) (x := (Vector.replicate 6 (0 : Int))) (y := p59) rfl rfl (Put.here ((Enc.len _).trans (Enc.len _).symm))).off rfl) fill_nil)) rfl rfl (by decide) (fun s76 _ => ?_)
  obtain ⟨u78, h79, H⟩ := bind_some H
  refine Lst.append (i := 6) (α := Vector Int 6) (xs := l20) (ys := ([p59] : List (Vector Int 6))) rfl rfl (by decide) rfl rfl Try.runUnderlying28 Try.typeInfo23 rfl rfl rfl rfl rfl rfl (Rd.own (i := 0) rfl rfl rfl) rfl (room_some h79) rfl (fun s80 => ?_)
  refine Lst.its (L' := (.own s76 23 6 (encs ([p59] : List (Vector Int 6)))) :: (.blk b31 (enc p59) 23) :: (.blk b26 (enc x23) 75) :: (.blk b13 (enc y66) 73) :: (.blk b11 (enc p64) 72) :: (.blk b9 (enc p51) 23) :: (.own s80 23 6 (encs (l20 ++ ([p59] : List (Vector Int 6))))) :: (.own Sl.nil 23 6 (encs ([] : List (Vector Int 6)))) :: L) rfl ?_
  refine Lst.run rfl rfl (by decide) (Ev.assign rfl) ?_
  refine Lst.nil ?_
  refine At.in_normal ?_
  refine At.then ?_
  refine Cd.region ?_
  refine Lst.run rfl rfl (by decide) (Ev.incr (by omega) rfl rfl) ?_
  refine Lst.run rfl rfl (by decide) (Ev.move rfl) ?_
  refine Lst.nil ?_
  refine At.less (L' := (.blk b13 (enc y66) 73) :: (.blk b11 (enc p64) 72) :: (.blk b9 (enc p51) 23) :: (.own s80 23 6 (encs (l20 ++ ([p59] : List (Vector Int 6))))) :: (.own Sl.nil 23 6 (encs ([] : List (Vector Int 6)))) :: L) (List.Sublist.cons _ (List.Sublist.cons _ (List.Sublist.cons _ (List.Sublist.cons_cons _ (List.Sublist.cons_cons _ (List.Sublist.cons_cons _ (List.Sublist.cons_cons _ (List.Sublist.cons_cons _ (List.Sublist.refl _))))))))) ?_
  exact At.meet (i15 + 1, k15, y66, p64, p51, s80, l20 ++ ([p59] : List (Vector Int 6))) (FLe.trans (FLe.trans hF22 hF44) hF75) ⟨rfl, rfl, rfl, rfl, rfl, rfl, rfl, trivial⟩ rfl ⟨⟨hgo15 _ (some_inj H).symm, by omega⟩, Nat.lt_succ_self _⟩
set_option maxRecDepth 20000 in
theorem parttop_grown_sim {r : Bool} (H : parttop_grown = some r) (w0 : World) (F : Frz) (M L : List Item) (hM : M.Sublist L) : Ok Try.prog w0 44 [] F (L) (Is (.bool r) (L)) := by
  unfold parttop_grown at H
  refine Ok.enter (m := 0) (n := 34) Try.func44 rfl rfl rfl (by decide) ?_
  refine Cd.env (e' := []) rfl ?_
  refine Cd.seq ?_
  refine Cd.region ?_
  refine Lst.run rfl rfl (by decide) (Ev.assign rfl) ?_
  refine Lst.nil ?_
  refine At.then ?_
  refine Cd.seq ?_
  refine Cd.region ?_
  refine Lst.run rfl rfl (by decide) (Ev.build (v := .agg (enc ({ Event.zero with Kind := (2 : Int) } : Event)).toArray) (pv := [(1, .int .i64 (2 : Int))]) ⟨rfl, rfl, trivial⟩ (fun w => by kernel_rfl)) ?_
  refine Lst.run rfl rfl (by decide) (Ev.build (v := .agg (enc ({ Event.zero with Proc := (1 : Int), Kind := (3 : Int) } : Event)).toArray) (pv := [(0, .int .i64 (1 : Int)), (1, .int .i64 (3 : Int))]) ⟨rfl, rfl, ⟨rfl, rfl, trivial⟩⟩ (fun w => by kernel_rfl)) ?_
  refine Lst.run rfl rfl (by decide) (Ev.build (v := .agg (enc ({ Event.zero with Proc := (1 : Int), Kind := (3 : Int) } : Event)).toArray) (pv := [(0, .int .i64 (1 : Int)), (1, .int .i64 (3 : Int))]) ⟨rfl, rfl, ⟨rfl, rfl, trivial⟩⟩ (fun w => by kernel_rfl)) ?_
  refine Lst.run rfl rfl (by decide) (Ev.build (v := .agg (enc ({ Event.zero with Proc := (2 : Int), Kind := (1 : Int) } : Event)).toArray) (pv := [(0, .int .i64 (2 : Int)), (1, .int .i64 (1 : Int))]) ⟨rfl, rfl, ⟨rfl, rfl, trivial⟩⟩ (fun w => by kernel_rfl)) ?_
  refine Lst.buildSlice (α := Event) (xs := ([({ Event.zero with Kind := (2 : Int) } : Event), ({ Event.zero with Proc := (1 : Int), Kind := (3 : Int) } : Event), ({ Event.zero with Proc := (1 : Int), Kind := (3 : Int) } : Event), ({ Event.zero with Proc := (2 : Int), Kind := (1 : Int) } : Event)] : List Event)) (pv := [(0, .agg (enc ({ Event.zero with Kind := (2 : Int) } : Event)).toArray), (1, .agg (enc ({ Event.zero with Proc := (1 : Int), Kind := (3 : Int) } : Event)).toArray), (2, .agg (enc ({ Event.zero with Proc := (1 : Int), Kind := (3 : Int) } : Event)).toArray), (3, .agg (enc ({ Event.zero with Proc := (2 : Int), Kind := (1 : Int) } : Event)).toArray)]) rfl rfl (by decide) ⟨rfl, rfl, ⟨rfl, rfl, ⟨rfl, rfl, ⟨rfl, rfl, trivial⟩⟩⟩⟩ (run_buildSlice (α := Event) (z0 := Event.zero) (xs := ([({ Event.zero with Kind := (2 : Int) } : Event), ({ Event.zero with Proc := (1 : Int), Kind := (3 : Int) } : Event), ({ Event.zero with Proc := (1 : Int), Kind := (3 : Int) } : Event), ({ Event.zero with Proc := (2 : Int), Kind := (1 : Int) } : Event)] : List Event)) Try.runUnderlying24 Try.sizeOf75 Try.zeroValue75 rfl rfl rfl (by decide) rfl (fill_cons (cs := encs (List.replicate 4 Event.zero)) (cs' := encs ((List.replicate 4 Event.zero).set 0 ({ Event.zero with Kind := (2 : Int) } : Event))) (vs := enc ({ Event.zero with Kind := (2 : Int) } : Event)) rfl rfl (Enc.len _) ((Put.elemN (s := 3) (i := 0) (x := Event.zero) (y := ({ Event.zero with Kind := (2 : Int) } : Event)) rfl rfl (Put.here ((Enc.len _).trans (Enc.len _).symm))).off rfl) (fill_cons (cs := encs ((List.replicate 4 Event.zero).set 0 ({ Event.zero with Kind := (2 : Int) } : Event))) (cs' := encs (((List.replicate 4 Event.zero).set 0 ({ Event.zero with Kind := (2 : Int) } : Event)).set 1 ({ Event.zero with Proc := (1 : Int), Kind := (3 : Int) } : Event))) (vs := enc ({ Event.zero with Proc := (1 : Int), Kind := (3 : Int) } : Event)) rfl rfl (Enc.len _) ((Put.elemN (s := 3) (i := 1) (x := Event.zero) (y := ({ Event.zero with Proc := (1 : Int), Kind := (3 : Int) } : Event)) rfl rfl (Put.here ((Enc.len _).trans (Enc.len _).symm))).off rfl) (fill_cons (cs := encs (((List.replicate 4 Event.zero).set 0 ({ Event.zero with Kind := (2 : Int) } : Event)).set 1 ({ Event.zero with Proc := (1 : Int), Kind := (3 : Int) } : Event))) (cs' := encs ((((List.replicate 4 Event.zero).set 0 ({ Event.zero with Kind := (2 : Int) } : Event)).set 1 ({ Event.zero with Proc := (1 : Int), Kind := (3 : Int) } : Event)).set 2 ({ Event.zero with Proc := (1 : Int), Kind := (3 : Int) } : Event))) (vs := enc ({ Event.zero with Proc := (1 : Int), Kind := (3 : Int) } : Event)) rfl rfl (Enc.len _) ((Put.elemN (s := 3) (i := 2) (x := Event.zero) (y := ({ Event.zero with Proc := (1 : Int), Kind := (3 : Int) } : Event)) rfl rfl (Put.here ((Enc.len _).trans (Enc.len _).symm))).off rfl) (fill_cons (cs := encs ((((List.replicate 4 Event.zero).set 0 ({ Event.zero with Kind := (2 : Int) } : Event)).set 1 ({ Event.zero with Proc := (1 : Int), Kind := (3 : Int) } : Event)).set 2 ({ Event.zero with Proc := (1 : Int), Kind := (3 : Int) } : Event))) (cs' := encs (((((List.replicate 4 Event.zero).set 0 ({ Event.zero with Kind := (2 : Int) } : Event)).set 1 ({ Event.zero with Proc := (1 : Int), Kind := (3 : Int) } : Event)).set 2 ({ Event.zero with Proc := (1 : Int), Kind := (3 : Int) } : Event)).set 3 ({ Event.zero with Proc := (2 : Int), Kind := (1 : Int) } : Event))) (vs := enc ({ Event.zero with Proc := (2 : Int), Kind := (1 : Int) } : Event)) rfl rfl (Enc.len _) ((Put.elemN (s := 3) (i := 3) (x := Event.zero) (y := ({ Event.zero with Proc := (2 : Int), Kind := (1 : Int) } : Event)) rfl rfl (Put.here ((Enc.len _).trans (Enc.len _).symm))).off rfl) fill_nil))))) rfl rfl (by decide) (fun s1 _ => ?_)
  obtain ⟨r3, h4, H⟩ := bind_some H
  refine Lst.call rfl rfl (by decide) (vs := [Sl.v s1]) ⟨rfl, trivial⟩ Try.call45 (parttop_historyOf_sim h4 w0 _ _ _ (List.Sublist.refl _) (Rd.own (i := 0) rfl rfl rfl)) (fun F7 L' v hF8 hv => ?_)
  obtain ⟨s5, rfl, rfl⟩ := hv
  refine Lst.run rfl rfl (by decide) (Ev.assign rfl) ?_
  refine Lst.nil ?_
  refine At.then ?_
  refine Cd.seq ?_
  refine Cd.region ?_
  refine Lst.run rfl rfl (by decide) (Ev.move rfl) ?_
  obtain ⟨r9, h10, H⟩ := bind_some H
  refine Lst.call rfl rfl (by decide) (vs := [Sl.v s5]) ⟨rfl, trivial⟩ Try.call15 (vect_Vectors_sim h10 w0 _ _ _ (List.Sublist.refl _) (Rd.own (i := 0) rfl rfl rfl)) (fun F13 L' v hF14 hv => ?_)
  obtain ⟨s11, rfl, rfl⟩ := hv
  refine Lst.run rfl rfl (by decide) (Ev.move rfl) ?_
  refine Lst.run rfl rfl (by decide) (Ev.extract rfl rfl) ?_
  refine Lst.run rfl rfl (by decide) (Ev.extract rfl rfl) ?_
  refine Lst.run rfl rfl (by decide) (Ev.assign rfl) ?_
  refine Lst.run rfl rfl (by decide) (Ev.assign rfl) ?_
  refine Lst.nil ?_
  refine At.then ?_
  refine Cd.seq ?_
  refine Cd.region ?_
  refine Lst.run rfl rfl (by decide) (Ev.move rfl) ?_
  refine Lst.run rfl rfl (by decide) (Ev.lenS (α := Event) (xs := r3) (by decide) rfl rfl Try.runUnderlying24 (Rd.own (i := 1) rfl rfl rfl)) ?_
  refine Lst.run rfl rfl (by decide) (Ev.eql rfl rfl) ?_
  refine Lst.run rfl rfl (by decide) (Ev.move rfl) ?_
  obtain ⟨o15, H, HKo15⟩ := bind_some H
  refine Lst.join (σ := Bool) 3 (fun y16 => [(2, Sl.v s11), (21, .bool y16)]) (fun y16 => (.own s11 23 6 (encs r9.1)) :: (.own s5 75 3 (encs r3)) :: (.own s1 75 3 (encs ([({ Event.zero with Kind := (2 : Int) } : Event), ({ Event.zero with Proc := (1 : Int), Kind := (3 : Int) } : Event), ({ Event.zero with Proc := (1 : Int), Kind := (3 : Int) } : Event), ({ Event.zero with Proc := (2 : Int), Kind := (1 : Int) } : Event)] : List Event))) :: L) (fun _ y16 => y16 = o15) ?_ ?_
  · rcases (Bool.eq_false_or_eq_true ((r3.length : Int) == (3 : Int))).symm with hb17 | hb17
    · replace H := ite_f hb17 H
      refine Lst.skip rfl rfl rfl hb17 rfl (by decide) ?_
      refine Lst.skip rfl rfl rfl hb17 rfl (by decide) ?_
      refine Lst.run rfl rfl (by decide) (Ev.pickF rfl hb17 rfl) ?_
      refine Lst.nil ?_
      exact At.meet false (FLe.refl _) ⟨rfl, rfl, trivial⟩ rfl (some_inj H)
    replace H := ite_t hb17 H
    refine Lst.runG rfl rfl rfl hb17 rfl (by decide) (Ev.move rfl) ?_
    refine Lst.runG rfl rfl rfl hb17 rfl (by decide) (Ev.eql rfl rfl) ?_
    refine Lst.run rfl rfl (by decide) (Ev.pickT rfl hb17 rfl) ?_
    refine Lst.nil ?_
    exact At.meet (r9.2 == (0 : Int)) (FLe.refl _) ⟨rfl, rfl, trivial⟩ rfl (some_inj H)
  rintro F18 y16 hF19 hy
  subst hy
  refine Lst.as (e' := [(2, Sl.v s11), (21, .bool y16)]) (L' := (.own s11 23 6 (encs r9.1)) :: (.own s5 75 3 (encs r3)) :: (.own s1 75 3 (encs ([({ Event.zero with Kind := (2 : Int) } : Event), ({ Event.zero with Proc := (1 : Int), Kind := (3 : Int) } : Event), ({ Event.zero with Proc := (1 : Int), Kind := (3 : Int) } : Event), ({ Event.zero with Proc := (2 : Int), Kind := (1 : Int) } : Event)] : List Event))) :: L) ⟨rfl, rfl, trivial⟩ rfl ?_
  replace H := HKo15
  refine Lst.run rfl rfl (by decide) (Ev.move rfl) ?_
  obtain ⟨o20, H, HKo20⟩ := bind_some H
  refine Lst.join (σ := Bool) 4 (fun y21 => [(2, Sl.v s11), (26, .bool y21)]) (fun y21 => (.own s11 23 6 (encs r9.1)) :: (.own s5 75 3 (encs r3)) :: (.own s1 75 3 (encs ([({ Event.zero with Kind := (2 : Int) } : Event), ({ Event.zero with Proc := (1 : Int), Kind := (3 : Int) } : Event), ({ Event.zero with Proc := (1 : Int), Kind := (3 : Int) } : Event), ({ Event.zero with Proc := (2 : Int), Kind := (1 : Int) } : Event)] : List Event))) :: L) (fun _ y21 => y21 = o20) ?_ ?_
  · rcases (Bool.eq_false_or_eq_true y16).symm with hb22 | hb22
    · replace H := ite_f hb22 H
      refine Lst.skip rfl rfl rfl hb22 rfl (by decide) ?_
      refine Lst.skip rfl rfl rfl hb22 rfl (by decide) ?_
      refine Lst.skip rfl rfl rfl hb22 rfl (by decide) ?_
      refine Lst.run rfl rfl (by decide) (Ev.pickF rfl hb22 rfl) ?_
      refine Lst.nil ?_
      exact At.meet false (FLe.refl _) ⟨rfl, rfl, trivial⟩ rfl (some_inj H)
    replace H := ite_t hb22 H
    refine Lst.runG rfl rfl rfl hb22 rfl (by decide) (Ev.move rfl) ?_
    refine Lst.runG rfl rfl rfl hb22 rfl (by decide) (Ev.lenS (α := Vector Int 6) (xs := r9.1) (by decide) rfl rfl Try.runUnderlying28 (Rd.own (i := 0) rfl rfl rfl)) ?_
    refine Lst.runG rfl rfl rfl hb22 rfl (by decide) (Ev.eql rfl rfl) ?_
    refine Lst.run rfl rfl (by decide) (Ev.pickT rfl hb22 rfl) ?_
    refine Lst.nil ?_
    exact At.meet ((r9.1.length : Int) == (3 : Int)) (FLe.refl _) ⟨rfl, rfl, trivial⟩ rfl (some_inj H)
  rintro F23 y21 hF24 hy
  subst hy
  refine Lst.as (e' := [(2, Sl.v s11), (26, .bool y21)]) (L' := (.own s11 23 6 (encs r9.1)) :: (.own s5 75 3 (encs r3)) :: (.own s1 75 3 (encs ([({ Event.zero with Kind := (2 : Int) } : Event), ({ Event.zero with Proc := (1 : Int), Kind := (3 : Int) } : Event), ({ Event.zero with Proc := (1 : Int), Kind := (3 : Int) } : Event), ({ Event.zero with Proc := (2 : Int), Kind := (1 : Int) } : Event)] : List Event))) :: L) ⟨rfl, rfl, trivial⟩ rfl ?_
  replace H := HKo20
  refine Lst.run rfl rfl (by decide) (Ev.move rfl) ?_
  obtain ⟨o25, H, HKo25⟩ := bind_some H
  refine Lst.join (σ := Bool) 6 (fun y26 => [(33, .bool y26)]) (fun y26 => (.own s11 23 6 (encs r9.1)) :: (.own s5 75 3 (encs r3)) :: (.own s1 75 3 (encs ([({ Event.zero with Kind := (2 : Int) } : Event), ({ Event.zero with Proc := (1 : Int), Kind := (3 : Int) } : Event), ({ Event.zero with Proc := (1 : Int), Kind := (3 : Int) } : Event), ({ Event.zero with Proc := (2 : Int), Kind := (1 : Int) } : Event)] : List Event))) :: L) (fun _ y26 => y26 = o25) ?_ ?_
  · rcases (Bool.eq_false_or_eq_true y21).symm with hb27 | hb27
    · replace H := ite_f hb27 H
      refine Lst.skip rfl rfl rfl hb27 rfl (by decide) ?_
      refine Lst.skip rfl rfl rfl hb27 rfl (by decide) ?_
      refine Lst.skip rfl rfl rfl hb27 rfl (by decide) ?_
      refine Lst.skip rfl rfl rfl hb27 rfl (by decide) ?_
      refine Lst.skip rfl rfl rfl hb27 rfl (by decide) ?_
      refine Lst.run rfl rfl (by decide) (Ev.pickF rfl hb27 rfl) ?_
      refine Lst.nil ?_
      exact At.meet false (FLe.refl _) ⟨rfl, trivial⟩ rfl (some_inj H)
    replace H := ite_t hb27 H
    refine Lst.runG rfl rfl rfl hb27 rfl (by decide) (Ev.move rfl) ?_
    obtain ⟨x28, h29, H⟩ := bind_some H
    have g30 := lat_some h29
    refine Lst.runG rfl rfl rfl hb27 rfl (by decide) (Ev.indexS (α := Vector Int 6) (xs := r9.1) rfl rfl Try.runUnderlying28 Try.sizeOf23 rfl (by decide) (Rd.own (i := 0) rfl rfl rfl) g30.1 g30.2.1) ?_
    refine Lst.runG rfl rfl rfl hb27 rfl (by decide) (Ev.loadSA (α := Vector Int 6) rfl (Rd.own (i := 0) rfl rfl rfl) Try.isAgg23 Try.sizeOf23 (ch := enc x28) (Enc.len _) (by decide) ((Get.elemN (s := 6) (x := x28) rfl g30.2.2 (Get.here _)).off (by omega))) ?_
    refine Lst.runG rfl rfl rfl hb27 rfl (by decide) (Ev.build (v := .agg (enc ((((Vector.replicate 6 (0 : Int)).setIfInBounds 0 (1 : Int)).setIfInBounds 1 (1 : Int)) : Vector Int 6)).toArray) (pv := [(0, .int .i64 (1 : Int)), (1, .int .i64 (1 : Int))]) ⟨rfl, rfl, ⟨rfl, rfl, trivial⟩⟩ (run_buildArray Try.zeroValue23 (zs := enc (Vector.replicate 6 (0 : Int))) rfl Try.runUnderlying23 Try.sizeOf3 (fill_cons (cs := enc (Vector.replicate 6 (0 : Int))) (cs' := enc ((Vector.replicate 6 (0 : Int)).setIfInBounds 0 (1 : Int))) (vs := [.int .i64 (1 : Int)]) rfl rfl rfl ((Put.vecN (s := 1) (i := 0) (x := (0 : Int)) (y := (1 : Int)) rfl rfl (Put.here (vs := [.int .i64 (1 : Int)]) rfl)).off rfl) (fill_cons (cs := enc ((Vector.replicate 6 (0 : Int)).setIfInBounds 0 (1 : Int))) (cs' := enc (((Vector.replicate 6 (0 : Int)).setIfInBounds 0 (1 : Int)).setIfInBounds 1 (1 : Int))) (vs := [.int .i64 (1 : Int)]) rfl rfl rfl ((Put.vecN (s := 1) (i := 1) (x := (0 : Int)) (y := (1 : Int)) rfl rfl (Put.here (vs := [.int .i64 (1 : Int)]) rfl)).off rfl) fill_nil)))) ?_
    refine Lst.runG rfl rfl rfl hb27 rfl (by decide) (Ev.eqlA rfl rfl (by kernel_rfl) (eq23 _ _)) ?_
    refine Lst.run rfl rfl (by decide) (Ev.pickT rfl hb27 rfl) ?_
    refine Lst.nil ?_
    exact At.meet (decide (x28 = ((((Vector.replicate 6 (0 : Int)).setIfInBounds 0 (1 : Int)).setIfInBounds 1 (1 : Int)) : Vector Int 6))) (FLe.refl _) ⟨rfl, trivial⟩ rfl (some_inj H)
  rintro F31 y26 hF32 hy
  subst hy
  refine Lst.as (e' := [(33, .bool y26)]) (L' := (.own s11 23 6 (encs r9.1)) :: (.own s5 75 3 (encs r3)) :: (.own s1 75 3 (encs ([({ Event.zero with Kind := (2 : Int) } : Event), ({ Event.zero with Proc := (1 : Int), Kind := (3 : Int) } : Event), ({ Event.zero with Proc := (1 : Int), Kind := (3 : Int) } : Event), ({ Event.zero with Proc := (2 : Int), Kind := (1 : Int) } : Event)] : List Event))) :: L) ⟨rfl, trivial⟩ rfl ?_
  replace H := HKo25
  refine Lst.run rfl rfl (by decide) (Ev.assign rfl) ?_
  refine Lst.nil ?_
  refine At.then ?_
  obtain rfl := some_inj H
  refine Cd.ret ?_
  exact At.ret1 rfl (Res.tmp rfl) (FLe.trans (FLe.trans (FLe.trans (FLe.trans hF8 hF14) hF19) hF24) hF32) (List.Sublist.cons _ (List.Sublist.cons _ (List.Sublist.cons _ (List.Sublist.refl _)))) ⟨rfl, rfl⟩
set_option maxRecDepth 20000 in
theorem stamp_Ahead_sim {a0 : List Event} {s_a0 : Sl} {r : (List Pair) × Int} (H : stamp_Ahead a0 = some r) (w0 : World) (F : Frz) (M L : List Item) (hM : M.Sublist L) (hs_a0 : Rd w0 F M s_a0 a0) : Ok Try.prog w0 21 [Sl.v s_a0] F (L) (fun _ L' v => ∃ (s1 : Sl), v = .tuple #[Sl.v s1, .int .i64 r.2] ∧ L' = (.own s1 46 2 (encs r.1)) :: L) := by
  unfold stamp_Ahead at H
  refine Ok.enter (m := 1) (n := 129) Try.func21 rfl rfl rfl (by decide) ?_
  refine Cd.env (e' := [(0, Sl.v s_a0)]) rfl ?_
  refine Cd.seq ?_
  refine Cd.region ?_
  refine Lst.addNil 46 2 ?_
  refine Lst.run rfl rfl (by decide) (Ev.assign rfl) ?_
  refine Lst.run rfl rfl (by decide) (Ev.assign rfl) ?_
  refine Lst.nil ?_
  refine At.then ?_
  refine Cd.seq ?_
  refine Cd.seq ?_
  refine Cd.region ?_
  refine Lst.run rfl rfl (by decide) (Ev.move rfl) ?_
  obtain ⟨r2, h3, H⟩ := bind_some H
  refine Lst.call1 rfl rfl (by decide) (vs := [Sl.v s_a0]) ⟨rfl, trivial⟩ Try.call22 (stamp_Check_sim h3 w0 _ M _ (List.Sublist.cons _ hM) (hs_a0.mono (FLe.refl _) (List.Sublist.refl _))) ?_
  refine Lst.run rfl rfl (by decide) (Ev.assign rfl) ?_
  refine Lst.nil ?_
  refine At.then ?_
  refine Cd.seq ?_
  refine Cd.region ?_
  refine Lst.run rfl rfl (by decide) (Ev.move rfl) ?_
  refine Lst.run rfl rfl (by decide) (Ev.neq rfl rfl) ?_
  refine Lst.nil ?_
  refine At.then ?_
  rcases Bool.eq_false_or_eq_true (r2 != (0 : Int)) with hb6 | hb6
  · replace H := ite_t hb6 H
    refine Cd.condT rfl hb6 ?_
    refine Cd.seq ?_
    refine Cd.region ?_
    refine Lst.run rfl rfl (by decide) (Ev.move rfl) ?_
    refine Lst.addNil 46 2 ?_
    refine Lst.run rfl rfl (by decide) (Ev.assign rfl) ?_
    refine Lst.run rfl rfl (by decide) (Ev.assign rfl) ?_
    refine Lst.nil ?_
    refine At.then ?_
    obtain rfl := some_inj H
    refine Cd.ret ?_
    refine At.then_ret ?_
    exact At.ret2 rfl (Res.tmp rfl) (Res.tmp rfl) (FLe.refl _) (List.Sublist.cons_cons _ (List.Sublist.cons _ (List.Sublist.refl _))) ⟨Sl.nil, rfl, rfl⟩
  replace H := ite_f hb6 H
  refine Cd.condF rfl hb6 ?_
  refine Cd.skip ?_
  refine At.then ?_
  refine Cd.seq ?_
  refine Cd.region ?_
  refine Lst.run rfl rfl (by decide) (Ev.move rfl) ?_
  refine Lst.run rfl rfl (by decide) (Ev.lenS (α := Event) (xs := a0) (by decide) rfl rfl Try.runUnderlying24 (hs_a0.mono (FLe.refl _) (List.Sublist.cons _ hM))) ?_
  obtain ⟨n8, h9, H⟩ := bind_some H
  have g10 := mkLen_some h9
  have hm13 : (List.replicate n8 ((LR.mk [] Sl.nil) : LR Bool)).map LR.v = (List.replicate n8 ([] : List Bool)) := map_rep _ _
  refine Lst.make (α := LR Bool) (z0 := ((LR.mk [] Sl.nil) : LR Bool)) (k := n8) rfl rfl (by decide) (congrArg some (congrArg (Value.int .i64) g10.1)) (congrArg some (congrArg (Value.int .i64) g10.1)) Try.runUnderlying42 Try.typeInfo44 rfl rfl rfl rfl rfl g10.2 rfl (fun s11 => ?_)
  refine Lst.rowsNil Bool 4 n8 ?_
  refine Lst.its (L' := (.rows (α := Bool) 4 (List.replicate n8 ((LR.mk [] Sl.nil) : LR Bool))) :: (.own s11 44 1 (encs (List.replicate n8 ((LR.mk [] Sl.nil) : LR Bool)))) :: (.own Sl.nil 46 2 (encs ([] : List Pair))) :: L) rfl ?_
  refine Lst.run rfl rfl (by decide) (Ev.assign rfl) ?_
  refine Lst.nil ?_
  refine At.then ?_
  refine Cd.seq ?_
  refine Cd.seq ?_
  refine Cd.region ?_
  refine Lst.run rfl rfl (by decide) (Ev.move rfl) ?_
  refine Lst.run rfl rfl (by decide) (Ev.lenS (α := Event) (xs := a0) (by decide) rfl rfl Try.runUnderlying24 (hs_a0.mono (FLe.refl _) (List.Sublist.cons _ (List.Sublist.cons _ (List.Sublist.cons _ hM))))) ?_
  refine Lst.run rfl rfl (by decide) (Ev.move rfl) ?_
  refine Lst.nil ?_
  refine At.then ?_
  refine Cd.block ?_
  refine Cd.bound (Rd.le (α := Event) (xs := a0) (by decide) (hs_a0.mono (FLe.refl _) (List.Sublist.cons _ (List.Sublist.cons _ (List.Sublist.cons _ hM))))) (fun hN214 => ?_)
  obtain ⟨ol16, H, HKl16⟩ := bind_some H
  refine Cd.loop (σ := Nat × Nat × (List (List Bool)) × (List (LR Bool))) (fun (i16, k16, l17, rs18) => [(0, Sl.v s_a0), (5, Sl.v s11), (23, Sl.v s_a0), (24, .int .i64 (a0.length : Int)), (25, .int .i64 (i16 : Int))]) (fun (i16, k16, l17, rs18) => (.rows (α := Bool) 4 rs18) :: (.own s11 44 1 (encs rs18)) :: (.own Sl.nil 46 2 (encs ([] : List Pair))) :: L) (fun Fx => (fun (i16, k16, l17, rs18) => rangeF (stamp_Ahead_B0 a0) k16 i16 l17 = some ol16 ∧ i16 + k16 = a0.length ∧ rs18.map LR.v = l17)) (fun (i16, k16, l17, rs18) => k16) (0, a0.length, (List.replicate n8 ([] : List Bool)), (List.replicate n8 ((LR.mk [] Sl.nil) : LR Bool))) ⟨rfl, rfl, rfl, rfl, rfl, trivial⟩ rfl ⟨H, by omega, hm13⟩ ?_
  rintro F20 ⟨i16, k16, l17, rs18⟩ hF21 ⟨H, hik16, fm19⟩
  refine Cd.as (e' := [(0, Sl.v s_a0), (5, Sl.v s11), (23, Sl.v s_a0), (24, .int .i64 (a0.length : Int)), (25, .int .i64 (i16 : Int))]) (L' := (.rows (α := Bool) 4 rs18) :: (.own s11 44 1 (encs rs18)) :: (.own Sl.nil 46 2 (encs ([] : List Pair))) :: L) ⟨rfl, rfl, rfl, rfl, rfl, trivial⟩ rfl ?_
  rcases k16 with _ | k16
  · have hc16 : decide ((i16 : Int) < (a0.length : Int)) = false := decide_eq_false (by omega)
    replace H := rangeF_end H
    refine Cd.seq ?_
    refine Cd.region ?_
    refine Lst.run rfl rfl (by decide) (Ev.lss rfl rfl) ?_
    refine Lst.nil ?_
    refine At.then ?_
    refine Cd.seq ?_
    refine Cd.condF rfl hc16 ?_
    refine Cd.exit ?_
    refine At.then_exit ?_
    refine At.then_exit ?_
    refine At.in_exit ?_
    subst H
    replace H := HKl16
    refine At.then ?_
    refine Cd.seq ?_
    refine Cd.region ?_
    refine Lst.addNil 46 2 ?_
    refine Lst.run rfl rfl (by decide) (Ev.assign rfl) ?_
    refine Lst.nil ?_
    refine At.then ?_
    refine Cd.seq ?_
    refine Cd.seq ?_
    refine Cd.region ?_
    refine Lst.run rfl rfl (by decide) (Ev.move rfl) ?_
    refine Lst.run rfl rfl (by decide) (Ev.lenS (α := Event) (xs := a0) (by decide) rfl rfl Try.runUnderlying24 (hs_a0.mono hF21 (List.Sublist.cons _ (List.Sublist.cons _ (List.Sublist.cons _ (List.Sublist.cons _ hM)))))) ?_
    refine Lst.run rfl rfl (by decide) (Ev.move rfl) ?_
    refine Lst.nil ?_
    refine At.then ?_
    refine Cd.block ?_
    refine Cd.bound (Rd.le (α := Event) (xs := a0) (by decide) (hs_a0.mono hF21 (List.Sublist.cons _ (List.Sublist.cons _ (List.Sublist.cons _ (List.Sublist.cons _ hM)))))) (fun hN213 => ?_)
    obtain ⟨ol188, H, HKl188⟩ := bind_some H
    refine Cd.loop (σ := Nat × Nat × Sl × (List Pair)) (fun (i188, k188, s189, l190) => [(0, Sl.v s_a0), (5, Sl.v s11), (12, Sl.v s189), (104, .int .i64 (a0.length : Int)), (105, .int .i64 (i188 : Int))]) (fun (i188, k188, s189, l190) => (.own s189 46 2 (encs l190)) :: (.rows (α := Bool) 4 rs18) :: (.own s11 44 1 (encs rs18)) :: (.own Sl.nil 46 2 (encs ([] : List Pair))) :: L) (fun _ => (fun (i188, k188, s189, l190) => rangeF (stamp_Ahead_B6 a0 l17) k188 i188 l190 = some ol188 ∧ i188 + k188 = a0.length)) (fun (i188, k188, s189, l190) => k188) (0, a0.length, Sl.nil, ([] : List Pair)) ⟨rfl, rfl, rfl, rfl, rfl, trivial⟩ rfl ⟨H, by omega⟩ ?_
    rintro F191 ⟨i188, k188, s189, l190⟩ hF192 ⟨H, hik188⟩
    refine Cd.as (e' := [(0, Sl.v s_a0), (5, Sl.v s11), (12, Sl.v s189), (104, .int .i64 (a0.length : Int)), (105, .int .i64 (i188 : Int))]) (L' := (.own s189 46 2 (encs l190)) :: (.rows (α := Bool) 4 rs18) :: (.own s11 44 1 (encs rs18)) :: (.own Sl.nil 46 2 (encs ([] : List Pair))) :: L) ⟨rfl, rfl, rfl, rfl, rfl, trivial⟩ rfl ?_
    rcases k188 with _ | k188
    · have hc188 : decide ((i188 : Int) < (a0.length : Int)) = false := decide_eq_false (by omega)
      replace H := rangeF_end H
      refine Cd.seq ?_
      refine Cd.region ?_
      refine Lst.run rfl rfl (by decide) (Ev.lss rfl rfl) ?_
      refine Lst.nil ?_
      refine At.then ?_
      refine Cd.seq ?_
      refine Cd.condF rfl hc188 ?_
      refine Cd.exit ?_
      refine At.then_exit ?_
      refine At.then_exit ?_
      refine At.in_exit ?_
      subst H
      replace H := HKl188
      refine At.then ?_
      refine Cd.seq ?_
      refine Cd.region ?_
      refine Lst.run rfl rfl (by decide) (Ev.move rfl) ?_
      refine Lst.run rfl rfl (by decide) (Ev.assign rfl) ?_
      refine Lst.run rfl rfl (by decide) (Ev.assign rfl) ?_
      refine Lst.nil ?_
      refine At.then ?_
      obtain rfl := some_inj H
      refine Cd.ret ?_
      exact At.ret2 rfl (Res.tmp rfl) (Res.tmp rfl) (FLe.trans hF21 hF192) (List.Sublist.cons_cons _ (List.Sublist.cons _ (List.Sublist.cons _ (List.Sublist.cons _ (List.Sublist.refl _))))) ⟨s189, rfl, rfl⟩
    have hc188 : decide ((i188 : Int) < (a0.length : Int)) = true := decide_eq_true (by omega)
    obtain ⟨c188, H, hgo188⟩ := rangeF_go H
    unfold stamp_Ahead_B6 at H
    try dsimp only at H
    refine Cd.seq ?_
    refine Cd.region ?_
    refine Lst.run rfl rfl (by decide) (Ev.lss rfl rfl) ?_
    refine Lst.nil ?_
    refine At.then ?_
    refine Cd.seq ?_
    refine Cd.condT rfl hc188 ?_
    refine Cd.skip ?_
    refine At.then ?_
    refine Cd.seq ?_
    refine Cd.block ?_
    refine Cd.seq ?_
    refine Cd.region ?_
    refine Lst.run rfl rfl (by decide) (Ev.move rfl) ?_
    refine Lst.run rfl rfl (by decide) (Ev.assign rfl) ?_
    refine Lst.nil ?_
    refine At.then ?_
    refine Cd.seq ?_
    refine Cd.region ?_
    refine Lst.run rfl rfl (by decide) (Ev.move rfl) ?_
    refine Lst.run rfl rfl (by decide) (Ev.lenS (α := Event) (xs := a0) (by decide) rfl rfl Try.runUnderlying24 (hs_a0.mono (FLe.trans hF21 hF192) (List.Sublist.cons _ (List.Sublist.cons _ (List.Sublist.cons _ (List.Sublist.cons _ hM)))))) ?_
    refine Lst.run rfl rfl (by decide) (Ev.move rfl) ?_
    refine Lst.nil ?_
    refine At.then ?_
    refine Cd.block ?_
    refine Cd.bound (Rd.le (α := Event) (xs := a0) (by decide) (hs_a0.mono (FLe.trans hF21 hF192) (List.Sublist.cons _ (List.Sublist.cons _ (List.Sublist.cons _ (List.Sublist.cons _ hM)))))) (fun hN212 => ?_)
    obtain ⟨ol193, H, HKl193⟩ := bind_some H
    refine Cd.loop (σ := Nat × Nat × Sl × (List Pair)) (fun (i193, k193, s194, l195) => [(0, Sl.v s_a0), (5, Sl.v s11), (12, Sl.v s194), (13, .int .i64 (i188 : Int)), (104, .int .i64 (a0.length : Int)), (105, .int .i64 (i188 : Int)), (109, .int .i64 (a0.length : Int)), (110, .int .i64 (i193 : Int))]) (fun (i193, k193, s194, l195) => (.own s194 46 2 (encs l195)) :: (.rows (α := Bool) 4 rs18) :: (.own s11 44 1 (encs rs18)) :: (.own Sl.nil 46 2 (encs ([] : List Pair))) :: L) (fun _ => (fun (i193, k193, s194, l195) => rangeF (stamp_Ahead_B8 l17 i188) k193 i193 l195 = some ol193 ∧ i193 + k193 = a0.length)) (fun (i193, k193, s194, l195) => k193) (0, a0.length, s189, l190) ⟨rfl, rfl, rfl, rfl, rfl, rfl, rfl, rfl, trivial⟩ rfl ⟨H, by omega⟩ ?_
    rintro F196 ⟨i193, k193, s194, l195⟩ hF197 ⟨H, hik193⟩
    refine Cd.as (e' := [(0, Sl.v s_a0), (5, Sl.v s11), (12, Sl.v s194), (13, .int .i64 (i188 : Int)), (104, .int .i64 (a0.length : Int)), (105, .int .i64 (i188 : Int)), (109, .int .i64 (a0.length : Int)), (110, .int .i64 (i193 : Int))]) (L' := (.own s194 46 2 (encs l195)) :: (.rows (α := Bool) 4 rs18) :: (.own s11 44 1 (encs rs18)) :: (.own Sl.nil 46 2 (encs ([] : List Pair))) :: L) ⟨rfl, rfl, rfl, rfl, rfl, rfl, rfl, rfl, trivial⟩ rfl ?_
    rcases k193 with _ | k193
    · have hc193 : decide ((i193 : Int) < (a0.length : Int)) = false := decide_eq_false (by omega)
      replace H := rangeF_end H
      refine Cd.seq ?_
      refine Cd.region ?_
      refine Lst.run rfl rfl (by decide) (Ev.lss rfl rfl) ?_
      refine Lst.nil ?_
      refine At.then ?_
      refine Cd.seq ?_
      refine Cd.condF rfl hc193 ?_
      refine Cd.exit ?_
      refine At.then_exit ?_
      refine At.then_exit ?_
      refine At.in_exit ?_
      subst H
      replace H := HKl193
      refine At.in_normal ?_
      refine At.then ?_
      refine Cd.region ?_
      refine Lst.run rfl rfl (by decide) (Ev.incr (by omega) rfl rfl) ?_
      refine Lst.run rfl rfl (by decide) (Ev.move rfl) ?_
      refine Lst.nil ?_
      exact At.meet (i188 + 1, k188, s194, l195) (FLe.trans hF192 hF197) ⟨rfl, rfl, rfl, rfl, rfl, trivial⟩ rfl ⟨⟨hgo188 _ (some_inj H).symm, by omega⟩, Nat.lt_succ_self _⟩
    have hc193 : decide ((i193 : Int) < (a0.length : Int)) = true := decide_eq_true (by omega)
    obtain ⟨c193, H, hgo193⟩ := rangeF_go H
    unfold stamp_Ahead_B8 at H
    try dsimp only at H
    refine Cd.seq ?_
    refine Cd.region ?_
    refine Lst.run rfl rfl (by decide) (Ev.lss rfl rfl) ?_
    refine Lst.nil ?_
    refine At.then ?_
    refine Cd.seq ?_
    refine Cd.condT rfl hc193 ?_
    refine Cd.skip ?_
    refine At.then ?_
    refine Cd.seq ?_
    refine Cd.block ?_
    refine Cd.seq ?_
    refine Cd.region ?_
    refine Lst.run rfl rfl (by decide) (Ev.move rfl) ?_
    refine Lst.run rfl rfl (by decide) (Ev.assign rfl) ?_
    refine Lst.nil ?_
    refine At.then ?_
    refine Cd.seq ?_
    refine Cd.region ?_
    refine Lst.run rfl rfl (by decide) (Ev.move rfl) ?_
    refine Lst.run rfl rfl (by decide) (Ev.move rfl) ?_
    obtain ⟨x198, h199, H⟩ := bind_some H
    have g200 := lat_some h199
    obtain ⟨⟨r201v, r201h⟩, r201g, r201e, r201m⟩ := map_get fm19 g200.2.2
    obtain rfl : x198 = r201v := r201e.symm
    have hh202 := row_h r201g
    refine Lst.run rfl rfl (by decide) (Ev.indexS (α := LR Bool) (xs := rs18) rfl rfl Try.runUnderlying42 Try.sizeOf44 rfl (by decide) (Rd.own (i := 2) rfl rfl rfl) g200.1 (by have := map_len fm19; omega)) ?_
    refine Lst.run rfl rfl (by decide) (Ev.loadS (α := LR Bool) rfl (Rd.own (i := 2) rfl rfl rfl) Try.isAgg44 (v := Sl.v r201h) ((Get.elemN (s := 1) rfl r201g (Get.here _)).off (by omega))) ?_
    refine Lst.run rfl rfl (by decide) (Ev.move rfl) ?_
    obtain ⟨x203, h204, H⟩ := bind_some H
    have g205 := lat_some h204
    refine Lst.run rfl rfl (by decide) (Ev.indexS (α := Bool) (xs := x198) rfl rfl Try.runUnderlying44 Try.sizeOf4 rfl (by decide) (Rd.row (j := 1) rfl r201g) g205.1 g205.2.1) ?_
    refine Lst.run rfl rfl (by decide) (Ev.loadS (α := Bool) rfl (Rd.row (j := 1) rfl r201g) Try.isAgg4 (v := .bool x203) ((Get.elemN (s := 1) (x := x203) rfl g205.2.2 (Get.here _)).off (by omega))) ?_
    refine Lst.nil ?_
    refine At.then ?_
    rcases (Bool.eq_false_or_eq_true x203).symm with hb206 | hb206
    · replace H := ite_f hb206 H
      refine Cd.condF rfl hb206 ?_
      refine Cd.skip ?_
      refine At.in_normal ?_
      refine At.then ?_
      refine Cd.region ?_
      refine Lst.run rfl rfl (by decide) (Ev.incr (by omega) rfl rfl) ?_
      refine Lst.run rfl rfl (by decide) (Ev.move rfl) ?_
      refine Lst.nil ?_
      exact At.meet (i193 + 1, k193, s194, l195) hF197 ⟨rfl, rfl, rfl, rfl, rfl, rfl, rfl, rfl, trivial⟩ rfl ⟨⟨hgo193 _ (some_inj H).symm, by omega⟩, Nat.lt_succ_self _⟩
    replace H := ite_t hb206 H
    refine Cd.condT rfl hb206 ?_
    refine Cd.region ?_
    refine Lst.run rfl rfl (by decide) (Ev.move rfl) ?_
    refine Lst.run rfl rfl (by decide) (Ev.move rfl) ?_
    refine Lst.run rfl rfl (by decide) (Ev.move rfl) ?_
    refine Lst.run rfl rfl (by decide) (Ev.build (v := .agg (enc ({ Pair.zero with A := (i188 : Int), B := (i193 : Int) } : Pair)).toArray) (pv := [(0, .int .i64 (i188 : Int)), (1, .int .i64 (i193 : Int))]) ⟨rfl, rfl, ⟨rfl, rfl, trivial⟩⟩ (fun w => by kernel_rfl)) ?_
    refine Lst.buildSlice (α := Pair) (xs := ([({ Pair.zero with A := (i188 : Int), B := (i193 : Int) } : Pair)] : List Pair)) (pv := [(0, .agg (enc ({ Pair.zero with A := (i188 : Int), B := (i193 : Int) } : Pair)).toArray)]) rfl rfl (by decide) ⟨rfl, rfl, trivial⟩ (run_buildSlice (α := Pair) (z0 := Pair.zero) (xs := ([({ Pair.zero with A := (i188 : Int), B := (i193 : Int) } : Pair)] : List Pair)) Try.runUnderlying39 Try.sizeOf46 Try.zeroValue46 rfl rfl rfl (by decide) rfl (fill_cons (cs := encs (List.replicate 1 Pair.zero)) (cs' := encs ((List.replicate 1 Pair.zero).set 0 ({ Pair.zero with A := (i188 : Int), B := (i193 : Int) } : Pair))) (vs := enc ({ Pair.zero with A := (i188 : Int), B := (i193 : Int) } : Pair)) rfl rfl (Enc.len _) ((Put.elemN (s := 2) (i := 0) (x := Pair.zero) (y := ({ Pair.zero with A := (i188 : Int), B := (i193 : Int) } : Pair)) rfl rfl (Put.here ((Enc.len _).trans (Enc.len _).symm))).off rfl) fill_nil)) rfl rfl (by decide) (fun s207 _ => ?_)
    obtain ⟨u209, h210, H⟩ := bind_some H
    refine Lst.append (i := 1) (α := Pair) (xs := l195) (ys := ([({ Pair.zero with A := (i188 : Int), B := (i193 : Int) } : Pair)] : List Pair)) rfl rfl (by decide) rfl rfl Try.runUnderlying39 Try.typeInfo46 rfl rfl rfl rfl rfl rfl (Rd.own (i := 0) rfl rfl rfl) rfl (room_some h210) rfl (fun s211 => ?_)
    refine Lst.its (L' := (.own s207 46 2 (encs ([({ Pair.zero with A := (i188 : Int), B := (i193 : Int) } : Pair)] : List Pair))) :: (.own s211 46 2 (encs (l195 ++ ([({ Pair.zero with A := (i188 : Int), B := (i193 : Int) } : Pair)] : List Pair)))) :: (.rows (α := Bool) 4 rs18) :: (.own s11 44 1 (encs rs18)) :: (.own Sl.nil 46 2 (encs ([] : List Pair))) :: L) rfl ?_
    refine Lst.run rfl rfl (by decide) (Ev.assign rfl) ?_
    refine Lst.nil ?_
    refine At.in_normal ?_
    refine At.then ?_
    refine Cd.as (e' := [(0, Sl.v s_a0), (5, Sl.v s11), (13, .int .i64 (i188 : Int)), (104, .int .i64 (a0.length : Int)), (105, .int .i64 (i188 : Int)), (109, .int .i64 (a0.length : Int)), (110, .int .i64 (i193 : Int)), (12, Sl.v s211)]) (L' := (.own s207 46 2 (encs ([({ Pair.zero with A := (i188 : Int), B := (i193 : Int) } : Pair)] : List Pair))) :: (.own s211 46 2 (encs (l195 ++ ([({ Pair.zero with A := (i188 : Int), B := (i193 : Int) } : Pair)] : List Pair)))) :: (.rows (α := Bool) 4 rs18) :: (.own s11 44 1 (encs rs18)) :: (.own Sl.nil 46 2 (encs ([] : List Pair))) :: L) ⟨rfl, rfl, rfl, rfl, rfl, rfl, rfl, rfl, trivial⟩ rfl ?_
    refine Cd.region ?_
    refine Lst.run rfl rfl (by decide) (Ev.incr (by omega) rfl rfl) ?_
    refine Lst.run rfl rfl (by decide) (Ev.move rfl) ?_
    refine Lst.nil ?_
    refine At.less (L' := (.own s211 46 2 (encs (l195 ++ ([({ Pair.zero with A := (i188 : Int), B := (i193 : Int) } : Pair)] : List Pair)))) :: (.rows (α := Bool) 4 rs18) :: (.own s11 44 1 (encs rs18)) :: (.own Sl.nil 46 2 (encs ([] : List Pair))) :: L) (List.Sublist.cons _ (List.Sublist.cons_cons _ (List.Sublist.cons_cons _ (List.Sublist.cons_cons _ (List.Sublist.cons_cons _ (List.Sublist.refl _)))))) ?_
    exact At.meet (i193 + 1, k193, s211, l195 ++ ([({ Pair.zero with A := (i188 : Int), B := (i193 : Int) } : Pair)] : List Pair)) hF197 ⟨rfl, rfl, rfl, rfl, rfl, rfl, rfl, rfl, trivial⟩ rfl ⟨⟨hgo193 _ (some_inj H).symm, by omega⟩, Nat.lt_succ_self _⟩
  have hc16 : decide ((i16 : Int) < (a0.length : Int)) = true := decide_eq_true (by omega)
  obtain ⟨c16, H, hgo16⟩ := rangeF_go H
  unfold stamp_Ahead_B0 at H
  try dsimp only at H
  refine Cd.seq ?_
  refine Cd.region ?_
  refine Lst.run rfl rfl (by decide) (Ev.lss rfl rfl) ?_
  refine Lst.nil ?_
  refine At.then ?_
  refine Cd.seq ?_
  refine Cd.condT rfl hc16 ?_
  refine Cd.skip ?_
  refine At.then ?_
  refine Cd.seq ?_
  refine Cd.block ?_
  refine Cd.seq ?_
  refine Cd.region ?_
  refine Lst.run rfl rfl (by decide) (Ev.move rfl) ?_
  obtain ⟨x22, h23, H⟩ := bind_some H
  have g24 := lat_some h23
  refine Lst.run rfl rfl (by decide) (Ev.indexS (α := Event) (xs := a0) rfl rfl Try.runUnderlying24 Try.sizeOf75 rfl (by decide) (hs_a0.mono hF21 (List.Sublist.cons _ (List.Sublist.cons _ (List.Sublist.cons _ hM)))) g24.1 g24.2.1) ?_
  refine Lst.run rfl rfl (by decide) (Ev.loadSA (α := Event) rfl (hs_a0.mono hF21 (List.Sublist.cons _ (List.Sublist.cons _ (List.Sublist.cons _ hM)))) Try.isAgg75 Try.sizeOf75 (ch := enc x22) (Enc.len _) (by decide) ((Get.elemN (s := 3) (x := x22) rfl g24.2.2 (Get.here _)).off (by omega))) ?_
  refine Lst.alloc (cs := enc Event.zero) rfl rfl (by decide) Try.zeroValue75 rfl (fun b25 => ?_)
  refine Lst.run rfl rfl (by decide) (Ev.assign rfl) ?_
  refine Lst.store (i := 0) rfl rfl rfl rfl rfl Try.sizeOf75 (vs := enc x22) rfl (Enc.len _) (Enc.one _) (cs' := enc x22) (Put.here ((Enc.len _).trans (Enc.len _).symm)) (L' := (.blk b25 (enc x22) 75) :: (.rows (α := Bool) 4 rs18) :: (.own s11 44 1 (encs rs18)) :: (.own Sl.nil 46 2 (encs ([] : List Pair))) :: L) rfl ?_
  refine Lst.nil ?_
  refine At.then ?_
  refine Cd.seq ?_
  refine Cd.region ?_
  refine Lst.run rfl rfl (by decide) (Ev.move rfl) ?_
  refine Lst.run rfl rfl (by decide) (Ev.move rfl) ?_
  refine Lst.run rfl rfl (by decide) (Ev.move rfl) ?_
  refine Lst.run rfl rfl (by decide) (Ev.lenS (α := Event) (xs := a0) (by decide) rfl rfl Try.runUnderlying24 (hs_a0.mono hF21 (List.Sublist.cons _ (List.Sublist.cons _ (List.Sublist.cons _ (List.Sublist.cons _ hM)))))) ?_
  obtain ⟨n27, h28, H⟩ := bind_some H
  have g29 := mkLen_some h28
  refine Lst.make (α := Bool) (z0 := false) (k := n27) rfl rfl (by decide) (congrArg some (congrArg (Value.int .i64) g29.1)) (congrArg some (congrArg (Value.int .i64) g29.1)) Try.runUnderlying44 Try.typeInfo4 rfl rfl rfl rfl rfl g29.2 rfl (fun s30 => ?_)
  obtain ⟨x32, h33, H⟩ := bind_some H
  have g34 := lat_some h33
  obtain ⟨⟨r35v, r35h⟩, r35g, r35e, r35m⟩ := map_get fm19 g34.2.2
  obtain rfl : x32 = r35v := r35e.symm
  have hh36 := row_h r35g
  refine Lst.run rfl rfl (by decide) (Ev.indexS (α := LR Bool) (xs := rs18) rfl rfl Try.runUnderlying42 Try.sizeOf44 rfl (by decide) (Rd.own (i := 3) rfl rfl rfl) g34.1 (by have := map_len fm19; omega)) ?_
  obtain ⟨p37, h38, H⟩ := Let_some H
  have hm39 : (rs18.set (i16 : Int).toNat (LR.mk (List.replicate n27 false) s30)).map LR.v = p37 := (map_set fm19 _ _).trans h38
  refine Lst.storeS (i := 3) rfl rfl rfl rfl rfl Try.sizeOf44 (vs := [Sl.v s30]) rfl rfl (by decide) rfl (xs' := encs (rs18.set (i16 : Int).toNat (LR.mk (List.replicate n27 false) s30))) ((Put.elemN (s := 1) (y := (LR.mk (List.replicate n27 false) s30)) rfl r35g (Put.here (vs := [Sl.v s30]) rfl)).off (by omega)) (L' := (.own s30 4 1 (encs (List.replicate n27 false))) :: (.blk b25 (enc x22) 75) :: (.rows (α := Bool) 4 rs18) :: (.own s11 44 1 (encs (rs18.set (i16 : Int).toNat (LR.mk (List.replicate n27 false) s30)))) :: (.own Sl.nil 46 2 (encs ([] : List Pair))) :: L) rfl ?_
  refine Lst.front (i := 2) rfl (L' := (.rows (α := Bool) 4 rs18) :: (.own s30 4 1 (encs (List.replicate n27 false))) :: (.blk b25 (enc x22) 75) :: (.own s11 44 1 (encs (rs18.set (i16 : Int).toNat (LR.mk (List.replicate n27 false) s30)))) :: (.own Sl.nil 46 2 (encs ([] : List Pair))) :: L) rfl ?_
  refine Lst.front (i := 1) rfl (L' := (.own s30 4 1 (encs (List.replicate n27 false))) :: (.rows (α := Bool) 4 rs18) :: (.blk b25 (enc x22) 75) :: (.own s11 44 1 (encs (rs18.set (i16 : Int).toNat (LR.mk (List.replicate n27 false) s30)))) :: (.own Sl.nil 46 2 (encs ([] : List Pair))) :: L) rfl ?_
  refine Lst.rowIn (k := (i16 : Int).toNat) r35g rfl ?_
  refine Lst.its (L' := (.rows (α := Bool) 4 (rs18.set (i16 : Int).toNat (LR.mk (List.replicate n27 false) s30))) :: (.blk b25 (enc x22) 75) :: (.own s11 44 1 (encs (rs18.set (i16 : Int).toNat (LR.mk (List.replicate n27 false) s30)))) :: (.own Sl.nil 46 2 (encs ([] : List Pair))) :: L) rfl ?_
  refine Lst.nil ?_
  refine At.then ?_
  refine Cd.seq ?_
  refine Cd.region ?_
  refine Lst.run rfl rfl (by decide) (Ev.move rfl) ?_
  refine Lst.run rfl rfl (by decide) (Ev.move rfl) ?_
  obtain ⟨m40, h41, H⟩ := bind_some H
  obtain ⟨g42, gl43⟩ := cutL_some h41
  have hq44 : Rd w0 F M (s_a0.cut (0 : Int).toNat ((i16 : Int) : Int).toNat 3) m40 := by rw [← gl43]; exact Rd.cut (by decide) hs_a0 (by omega) (by omega)
  refine Lst.run rfl rfl (by decide) (Ev.cut (α := Event) (xs := a0) (i := 0) (j := (i16 : Int)) rfl rfl rfl Try.runUnderlying24 Try.sizeOf75 rfl (by decide) (hs_a0.mono hF21 (List.Sublist.cons _ (List.Sublist.cons _ (List.Sublist.cons _ (List.Sublist.cons _ hM))))) g42.1 g42.2.1 g42.2.2) ?_
  refine Lst.run rfl rfl (by decide) (Ev.lenS (α := Event) (xs := m40) (by decide) rfl rfl Try.runUnderlying24 (hq44.mono hF21 (List.Sublist.cons _ (List.Sublist.cons _ (List.Sublist.cons _ (List.Sublist.cons _ hM)))))) ?_
  refine Lst.run rfl rfl (by decide) (Ev.move rfl) ?_
  refine Lst.nil ?_
  refine At.then ?_
  refine Cd.block ?_
  refine Cd.bound (Rd.le (α := Event) (xs := m40) (by decide) (hq44.mono hF21 (List.Sublist.cons _ (List.Sublist.cons _ (List.Sublist.cons _ (List.Sublist.cons _ hM)))))) (fun hN186 => ?_)
  obtain ⟨ol45, H, HKl45⟩ := bind_some H
  refine Cd.loop (σ := Nat × Nat × (List (List Bool)) × (List (LR Bool))) (fun (i45, k45, l46, rs47) => [(0, Sl.v s_a0), (5, Sl.v s11), (6, .int .i64 (i16 : Int)), (7, .pointer (some ⟨b25, 0, none⟩)), (23, Sl.v s_a0), (24, .int .i64 (a0.length : Int)), (25, .int .i64 (i16 : Int)), (38, Sl.v (s_a0.cut (0 : Int).toNat ((i16 : Int) : Int).toNat 3)), (39, .int .i64 (m40.length : Int)), (40, .int .i64 (i45 : Int))]) (fun (i45, k45, l46, rs47) => (.rows (α := Bool) 4 rs47) :: (.blk b25 (enc x22) 75) :: (.own s11 44 1 (encs rs47)) :: (.own Sl.nil 46 2 (encs ([] : List Pair))) :: L) (fun Fx => (fun (i45, k45, l46, rs47) => rangeF (stamp_Ahead_B2 i16 x22 m40) k45 i45 l46 = some ol45 ∧ i45 + k45 = m40.length ∧ rs47.map LR.v = l46)) (fun (i45, k45, l46, rs47) => k45) (0, m40.length, p37, (rs18.set (i16 : Int).toNat (LR.mk (List.replicate n27 false) s30))) ⟨rfl, rfl, rfl, rfl, rfl, rfl, rfl, rfl, rfl, rfl, trivial⟩ rfl ⟨H, by omega, hm39⟩ ?_
  rintro F49 ⟨i45, k45, l46, rs47⟩ hF50 ⟨H, hik45, fm48⟩
  refine Cd.as (e' := [(0, Sl.v s_a0), (5, Sl.v s11), (6, .int .i64 (i16 : Int)), (7, .pointer (some ⟨b25, 0, none⟩)), (23, Sl.v s_a0), (24, .int .i64 (a0.length : Int)), (25, .int .i64 (i16 : Int)), (38, Sl.v (s_a0.cut (0 : Int).toNat ((i16 : Int) : Int).toNat 3)), (39, .int .i64 (m40.length : Int)), (40, .int .i64 (i45 : Int))]) (L' := (.rows (α := Bool) 4 rs47) :: (.blk b25 (enc x22) 75) :: (.own s11 44 1 (encs rs47)) :: (.own Sl.nil 46 2 (encs ([] : List Pair))) :: L) ⟨rfl, rfl, rfl, rfl, rfl, rfl, rfl, rfl, rfl, rfl, trivial⟩ rfl ?_
  rcases k45 with _ | k45
  · have hc45 : decide ((i45 : Int) < (m40.length : Int)) = false := decide_eq_false (by omega)
    replace H := rangeF_end H
    refine Cd.seq ?_
    refine Cd.region ?_
    refine Lst.run rfl rfl (by decide) (Ev.lss rfl rfl) ?_
    refine Lst.nil ?_
    refine At.then ?_
    refine Cd.seq ?_
    refine Cd.condF rfl hc45 ?_
    refine Cd.exit ?_
    refine At.then_exit ?_
    refine At.then_exit ?_
    refine At.in_exit ?_
    subst H
    replace H := HKl45
    refine At.in_normal ?_
    refine At.then ?_
    refine Cd.region ?_
    refine Lst.run rfl rfl (by decide) (Ev.incr (by omega) rfl rfl) ?_
    refine Lst.run rfl rfl (by decide) (Ev.move rfl) ?_
    refine Lst.nil ?_
    refine At.less (L' := (.rows (α := Bool) 4 rs47) :: (.own s11 44 1 (encs rs47)) :: (.own Sl.nil 46 2 (encs ([] : List Pair))) :: L) (List.Sublist.cons_cons _ (List.Sublist.cons _ (List.Sublist.cons_cons _ (List.Sublist.cons_cons _ (List.Sublist.refl _))))) ?_
    exact At.meet (i16 + 1, k16, l46, rs47) (FLe.trans hF21 hF50) ⟨rfl, rfl, rfl, rfl, rfl, trivial⟩ rfl ⟨⟨hgo16 _ (some_inj H).symm, by omega, fm48⟩, Nat.lt_succ_self _⟩
  have hc45 : decide ((i45 : Int) < (m40.length : Int)) = true := decide_eq_true (by omega)
  obtain ⟨c45, H, hgo45⟩ := rangeF_go H
  unfold stamp_Ahead_B2 at H
  try dsimp only at H
  refine Cd.seq ?_
  refine Cd.region ?_
  refine Lst.run rfl rfl (by decide) (Ev.lss rfl rfl) ?_
  refine Lst.nil ?_
  refine At.then ?_
  refine Cd.seq ?_
  refine Cd.condT rfl hc45 ?_
  refine Cd.skip ?_
  refine At.then ?_
  obtain ⟨o54, H, HKo54⟩ := bind_some H
  refine Cd.join (σ := (List (List Bool)) × (List (LR Bool))) (fun (l51, rs52) => [(0, Sl.v s_a0), (5, Sl.v s11), (6, .int .i64 (i16 : Int)), (7, .pointer (some ⟨b25, 0, none⟩)), (23, Sl.v s_a0), (24, .int .i64 (a0.length : Int)), (25, .int .i64 (i16 : Int)), (38, Sl.v (s_a0.cut (0 : Int).toNat ((i16 : Int) : Int).toNat 3)), (39, .int .i64 (m40.length : Int)), (40, .int .i64 (i45 : Int))]) (fun (l51, rs52) => (.rows (α := Bool) 4 rs52) :: (.blk b25 (enc x22) 75) :: (.own s11 44 1 (encs rs52)) :: (.own Sl.nil 46 2 (encs ([] : List Pair))) :: L) (fun Fx (l51, rs52) => l51 = o54 ∧ rs52.map LR.v = l51) ?_ ?_
  · refine Cd.block ?_
    refine Cd.seq ?_
    refine Cd.region ?_
    refine Lst.run rfl rfl (by decide) (Ev.move rfl) ?_
    obtain ⟨x55, h56, H⟩ := bind_some H
    have g57 := lat_some h56
    refine Lst.run rfl rfl (by decide) (Ev.indexS (α := Event) (xs := m40) rfl rfl Try.runUnderlying24 Try.sizeOf75 rfl (by decide) (hq44.mono (FLe.trans hF21 hF50) (List.Sublist.cons _ (List.Sublist.cons _ (List.Sublist.cons _ (List.Sublist.cons _ hM))))) g57.1 g57.2.1) ?_
    refine Lst.run rfl rfl (by decide) (Ev.loadSA (α := Event) rfl (hq44.mono (FLe.trans hF21 hF50) (List.Sublist.cons _ (List.Sublist.cons _ (List.Sublist.cons _ (List.Sublist.cons _ hM))))) Try.isAgg75 Try.sizeOf75 (ch := enc x55) (Enc.len _) (by decide) ((Get.elemN (s := 3) (x := x55) rfl g57.2.2 (Get.here _)).off (by omega))) ?_
    refine Lst.alloc (cs := enc Event.zero) rfl rfl (by decide) Try.zeroValue75 rfl (fun b58 => ?_)
    refine Lst.run rfl rfl (by decide) (Ev.assign rfl) ?_
    refine Lst.store (i := 0) rfl rfl rfl rfl rfl Try.sizeOf75 (vs := enc x55) rfl (Enc.len _) (Enc.one _) (cs' := enc x55) (Put.here ((Enc.len _).trans (Enc.len _).symm)) (L' := (.blk b58 (enc x55) 75) :: (.rows (α := Bool) 4 rs47) :: (.blk b25 (enc x22) 75) :: (.own s11 44 1 (encs rs47)) :: (.own Sl.nil 46 2 (encs ([] : List Pair))) :: L) rfl ?_
    refine Lst.nil ?_
    refine At.then ?_
    refine Cd.seq ?_
    refine Cd.seq ?_
    refine Cd.region ?_
    refine Lst.run rfl rfl (by decide) (Ev.fieldAddr (off' := 0) rfl Try.runUnderlying75 rfl Try.sizeOf3 rfl rfl) ?_
    refine Lst.run rfl rfl (by decide) (Ev.load (i := 0) rfl rfl Try.isAgg3 (v := .int .i64 x55.Proc) ((Event.get_Proc (Get.here _)).off (by rfl))) ?_
    refine Lst.run rfl rfl (by decide) (Ev.fieldAddr (off' := 0) rfl Try.runUnderlying75 rfl Try.sizeOf3 rfl rfl) ?_
    refine Lst.run rfl rfl (by decide) (Ev.load (i := 2) rfl rfl Try.isAgg3 (v := .int .i64 x22.Proc) ((Event.get_Proc (Get.here _)).off (by rfl))) ?_
    refine Lst.run rfl rfl (by decide) (Ev.neq rfl rfl) ?_
    refine Lst.run rfl rfl (by decide) (Ev.move rfl) ?_
    rcases (Bool.eq_false_or_eq_true (x55.Proc != x22.Proc)).symm with hb60 | hb60
    · replace H := ite_f hb60 H
      refine Lst.skip rfl rfl rfl hb60 rfl (by decide) ?_
      refine Lst.skip rfl rfl rfl hb60 rfl (by decide) ?_
      refine Lst.skip rfl rfl rfl hb60 rfl (by decide) ?_
      refine Lst.skip rfl rfl rfl hb60 rfl (by decide) ?_
      refine Lst.skipU rfl rfl rfl rfl (by decide) ?_
      refine Lst.skipU rfl rfl rfl rfl (by decide) ?_
      refine Lst.skipU rfl rfl rfl rfl (by decide) ?_
      refine Lst.skip rfl rfl rfl hb60 rfl (by decide) ?_
      refine Lst.skip rfl rfl rfl hb60 rfl (by decide) ?_
      refine Lst.skipU rfl rfl rfl rfl (by decide) ?_
      refine Lst.skipU rfl rfl rfl rfl (by decide) ?_
      refine Lst.skipU rfl rfl rfl rfl (by decide) ?_
      refine Lst.skipU rfl rfl rfl rfl (by decide) ?_
      refine Lst.skipU rfl rfl rfl rfl (by decide) ?_
      refine Lst.skip rfl rfl rfl hb60 rfl (by decide) ?_
      refine Lst.skip rfl rfl rfl hb60 rfl (by decide) ?_
      refine Lst.run rfl rfl (by decide) (Ev.pickF rfl hb60 rfl) ?_
      refine Lst.nil ?_
      refine At.then ?_
      refine Cd.condF rfl rfl ?_
      refine Cd.skip ?_
      refine At.then ?_
      refine Cd.seq ?_
      refine Cd.as (e' := [(0, Sl.v s_a0), (5, Sl.v s11), (6, .int .i64 (i16 : Int)), (7, .pointer (some ⟨b25, 0, none⟩)), (23, Sl.v s_a0), (24, .int .i64 (a0.length : Int)), (25, .int .i64 (i16 : Int)), (38, Sl.v (s_a0.cut (0 : Int).toNat ((i16 : Int) : Int).toNat 3)), (39, .int .i64 (m40.length : Int)), (40, .int .i64 (i45 : Int)), (8, .int .i64 (i45 : Int))]) (L' := (.blk b58 (enc x55) 75) :: (.rows (α := Bool) 4 rs47) :: (.blk b25 (enc x22) 75) :: (.own s11 44 1 (encs rs47)) :: (.own Sl.nil 46 2 (encs ([] : List Pair))) :: L) ⟨rfl, rfl, rfl, rfl, rfl, rfl, rfl, rfl, rfl, rfl, rfl, trivial⟩ rfl ?_
      refine Cd.region ?_
      refine Lst.run rfl rfl (by decide) (Ev.move rfl) ?_
      refine Lst.run rfl rfl (by decide) (Ev.move rfl) ?_
      obtain ⟨x61, h62, H⟩ := bind_some H
      have g63 := lat_some h62
      obtain ⟨⟨r64v, r64h⟩, r64g, r64e, r64m⟩ := map_get fm48 g63.2.2
      obtain rfl : x61 = r64v := r64e.symm
      have hh65 := row_h r64g
      refine Lst.run rfl rfl (by decide) (Ev.indexS (α := LR Bool) (xs := rs47) rfl rfl Try.runUnderlying42 Try.sizeOf44 rfl (by decide) (Rd.own (i := 3) rfl rfl rfl) g63.1 (by have := map_len fm48; omega)) ?_
      refine Lst.run rfl rfl (by decide) (Ev.loadS (α := LR Bool) rfl (Rd.own (i := 3) rfl rfl rfl) Try.isAgg44 (v := Sl.v r64h) ((Get.elemN (s := 1) rfl r64g (Get.here _)).off (by omega))) ?_
      refine Lst.run rfl rfl (by decide) (Ev.move rfl) ?_
      obtain ⟨x66, h67, H⟩ := bind_some H
      have g68 := lat_some h67
      refine Lst.run rfl rfl (by decide) (Ev.indexS (α := Bool) (xs := x61) rfl rfl Try.runUnderlying44 Try.sizeOf4 rfl (by decide) (Rd.row (j := 1) rfl r64g) g68.1 g68.2.1) ?_
      obtain ⟨p69, h70, H⟩ := Let_some H
      have hm71 : (rs47.set (i16 : Int).toNat (LR.mk (x61.set (i45 : Int).toNat true) r64h)).map LR.v = p69 := (map_set fm48 _ _).trans h70
      refine Lst.front (i := 1) rfl (L' := (.rows (α := Bool) 4 rs47) :: (.blk b58 (enc x55) 75) :: (.blk b25 (enc x22) 75) :: (.own s11 44 1 (encs rs47)) :: (.own Sl.nil 46 2 (encs ([] : List Pair))) :: L) rfl ?_
      refine Lst.storeR (α := Bool) rfl rfl rfl rfl r64g Try.sizeOf4 (vs := [.bool true]) rfl rfl (by decide) rfl (xs' := (x61.set (i45 : Int).toNat true)) ((Put.elemN (s := 1) (x := x66) rfl g68.2.2 (Put.here (vs := [.bool true]) rfl)).off (by omega)) ?_
      refine Lst.its (L' := (.rows (α := Bool) 4 (rs47.set (i16 : Int).toNat (LR.mk (x61.set (i45 : Int).toNat true) r64h))) :: (.blk b58 (enc x55) 75) :: (.blk b25 (enc x22) 75) :: (.own s11 44 1 (encs (rs47.set (i16 : Int).toNat (LR.mk (x61.set (i45 : Int).toNat true) r64h)))) :: (.own Sl.nil 46 2 (encs ([] : List Pair))) :: L) (by rw [show encs (rs47.set (i16 : Int).toNat (LR.mk (x61.set (i45 : Int).toNat true) r64h)) = encs rs47 from encs_rowv r64g]) ?_
      refine Lst.nil ?_
      refine At.then ?_
      refine Cd.seq ?_
      refine Cd.region ?_
      refine Lst.run rfl rfl (by decide) (Ev.move rfl) ?_
      refine Lst.run rfl rfl (by decide) (Ev.move rfl) ?_
      obtain ⟨x73, h74, H⟩ := bind_some H
      have g75 := lat_some h74
      obtain ⟨⟨r76v, r76h⟩, r76g, r76e, r76m⟩ := map_get hm71 g75.2.2
      obtain rfl : x73 = r76v := r76e.symm
      have hh77 := row_h r76g
      refine Lst.run rfl rfl (by decide) (Ev.indexS (α := LR Bool) (xs := (rs47.set (i16 : Int).toNat (LR.mk (x61.set (i45 : Int).toNat true) r64h))) rfl rfl Try.runUnderlying42 Try.sizeOf44 rfl (by decide) (Rd.own (i := 3) rfl rfl rfl) g75.1 (by have := map_len hm71; omega)) ?_
      refine Lst.run rfl rfl (by decide) (Ev.loadS (α := LR Bool) rfl (Rd.own (i := 3) rfl rfl rfl) Try.isAgg44 (v := Sl.v r76h) ((Get.elemN (s := 1) rfl r76g (Get.here _)).off (by omega))) ?_
      refine Lst.run rfl rfl (by decide) (Ev.lenS (α := Bool) (xs := x73) (by decide) rfl rfl Try.runUnderlying44 (Rd.row (j := 0) rfl r76g)) ?_
      refine Lst.run rfl rfl (by decide) (Ev.move rfl) ?_
      refine Lst.nil ?_
      refine At.then ?_
      refine Cd.block ?_
      refine Cd.bound (Rd.le (α := Bool) (xs := x73) (by decide) (Rd.row (j := 0) rfl r76g)) (fun hN116 => ?_)
      obtain ⟨ol78, H, HKl78⟩ := bind_some H
      refine Cd.loop (σ := Nat × Nat × (List (List Bool)) × (List (LR Bool))) (fun (i78, k78, l79, rs80) => [(0, Sl.v s_a0), (5, Sl.v s11), (6, .int .i64 (i16 : Int)), (7, .pointer (some ⟨b25, 0, none⟩)), (23, Sl.v s_a0), (24, .int .i64 (a0.length : Int)), (25, .int .i64 (i16 : Int)), (38, Sl.v (s_a0.cut (0 : Int).toNat ((i16 : Int) : Int).toNat 3)), (39, .int .i64 (m40.length : Int)), (40, .int .i64 (i45 : Int)), (77, Sl.v r76h), (78, .int .i64 (x73.length : Int)), (79, .int .i64 (i78 : Int))]) (fun (i78, k78, l79, rs80) => (.rows (α := Bool) 4 rs80) :: (.blk b58 (enc x55) 75) :: (.blk b25 (enc x22) 75) :: (.own s11 44 1 (encs rs80)) :: (.own Sl.nil 46 2 (encs ([] : List Pair))) :: L) (fun Fx => (fun (i78, k78, l79, rs80) => rangeF (stamp_Ahead_B4 i16 i45) k78 i78 l79 = some ol78 ∧ i78 + k78 = x73.length ∧ rs80.map LR.v = l79 ∧ (rs80.map LR.h)[(i45 : Int).toNat]? = some r76h)) (fun (i78, k78, l79, rs80) => k78) (0, x73.length, p69, (rs47.set (i16 : Int).toNat (LR.mk (x61.set (i45 : Int).toNat true) r64h))) ⟨rfl, rfl, rfl, rfl, rfl, rfl, rfl, rfl, rfl, rfl, rfl, rfl, rfl, trivial⟩ rfl ⟨H, by omega, hm71, hh77⟩ ?_
      rintro F83 ⟨i78, k78, l79, rs80⟩ hF84 ⟨H, hik78, fm81, hh82⟩
      refine Cd.as (e' := [(0, Sl.v s_a0), (5, Sl.v s11), (6, .int .i64 (i16 : Int)), (7, .pointer (some ⟨b25, 0, none⟩)), (23, Sl.v s_a0), (24, .int .i64 (a0.length : Int)), (25, .int .i64 (i16 : Int)), (38, Sl.v (s_a0.cut (0 : Int).toNat ((i16 : Int) : Int).toNat 3)), (39, .int .i64 (m40.length : Int)), (40, .int .i64 (i45 : Int)), (77, Sl.v r76h), (78, .int .i64 (x73.length : Int)), (79, .int .i64 (i78 : Int))]) (L' := (.rows (α := Bool) 4 rs80) :: (.blk b58 (enc x55) 75) :: (.blk b25 (enc x22) 75) :: (.own s11 44 1 (encs rs80)) :: (.own Sl.nil 46 2 (encs ([] : List Pair))) :: L) ⟨rfl, rfl, rfl, rfl, rfl, rfl, rfl, rfl, rfl, rfl, rfl, rfl, rfl, trivial⟩ rfl ?_
      rcases k78 with _ | k78
      · have hc78 : decide ((i78 : Int) < (x73.length : Int)) = false := decide_eq_false (by omega)
        replace H := rangeF_end H
        refine Cd.seq ?_
        refine Cd.region ?_
        refine Lst.run rfl rfl (by decide) (Ev.lss rfl rfl) ?_
        refine Lst.nil ?_
        refine At.then ?_
        refine Cd.seq ?_
        refine Cd.condF rfl hc78 ?_
        refine Cd.exit ?_
        refine At.then_exit ?_
        refine At.then_exit ?_
        refine At.in_exit ?_
        subst H
        replace H := HKl78
        refine At.in_normal ?_
        refine At.less (L' := (.rows (α := Bool) 4 rs80) :: (.blk b25 (enc x22) 75) :: (.own s11 44 1 (encs rs80)) :: (.own Sl.nil 46 2 (encs ([] : List Pair))) :: L) (List.Sublist.cons_cons _ (List.Sublist.cons _ (List.Sublist.cons_cons _ (List.Sublist.cons_cons _ (List.Sublist.cons_cons _ (List.Sublist.refl _)))))) ?_
        exact At.meet (l79, rs80) hF84 ⟨rfl, rfl, rfl, rfl, rfl, rfl, rfl, rfl, rfl, rfl, trivial⟩ rfl ⟨some_inj H, fm81⟩
      have hc78 : decide ((i78 : Int) < (x73.length : Int)) = true := decide_eq_true (by omega)
      obtain ⟨c78, H, hgo78⟩ := rangeF_go H
      unfold stamp_Ahead_B4 at H
      try dsimp only at H
      refine Cd.seq ?_
      refine Cd.region ?_
      refine Lst.run rfl rfl (by decide) (Ev.lss rfl rfl) ?_
      refine Lst.nil ?_
      refine At.then ?_
      refine Cd.seq ?_
      refine Cd.condT rfl hc78 ?_
      refine Cd.skip ?_
      refine At.then ?_
      refine Cd.seq ?_
      refine Cd.block ?_
      refine Cd.seq ?_
      refine Cd.region ?_
      refine Lst.run rfl rfl (by decide) (Ev.move rfl) ?_
      obtain ⟨x85, h86, H⟩ := bind_some H
      have g87 := lat_some h86
      obtain ⟨⟨r88v, r88h⟩, r88g, r88e, r88m⟩ := map_get fm81 g87.2.2
      obtain rfl : x85 = r88v := r88e.symm
      obtain rfl := row_handle hh82 r88g
      obtain ⟨x89, h90, H⟩ := bind_some H
      have g91 := lat_some h90
      refine Lst.run rfl rfl (by decide) (Ev.indexS (α := Bool) (xs := x85) rfl rfl Try.runUnderlying44 Try.sizeOf4 rfl (by decide) (Rd.row (j := 0) rfl r88g) g91.1 g91.2.1) ?_
      refine Lst.run rfl rfl (by decide) (Ev.loadS (α := Bool) rfl (Rd.row (j := 0) rfl r88g) Try.isAgg4 (v := .bool x89) ((Get.elemN (s := 1) (x := x89) rfl g91.2.2 (Get.here _)).off (by omega))) ?_
      refine Lst.run rfl rfl (by decide) (Ev.assign rfl) ?_
      refine Lst.run rfl rfl (by decide) (Ev.assign rfl) ?_
      refine Lst.nil ?_
      refine At.then ?_
      refine Cd.tail 16 (by kernel_rfl) (by kernel_rfl) ?_
      refine Qt.run rfl rfl (by decide) (Ev.move rfl) ?_
      refine Qt.run rfl rfl (by decide) (Ev.move rfl) ?_
      obtain ⟨x92, h93, H⟩ := bind_some H
      have g94 := lat_some h93
      obtain ⟨⟨r95v, r95h⟩, r95g, r95e, r95m⟩ := map_get fm81 g94.2.2
      obtain rfl : x92 = r95v := r95e.symm
      have hh96 := row_h r95g
      refine Qt.run rfl rfl (by decide) (Ev.indexS (α := LR Bool) (xs := rs80) rfl rfl Try.runUnderlying42 Try.sizeOf44 rfl (by decide) (Rd.own (i := 3) rfl rfl rfl) g94.1 (by have := map_len fm81; omega)) ?_
      refine Qt.run rfl rfl (by decide) (Ev.loadS (α := LR Bool) rfl (Rd.own (i := 3) rfl rfl rfl) Try.isAgg44 (v := Sl.v r95h) ((Get.elemN (s := 1) rfl r95g (Get.here _)).off (by omega))) ?_
      refine Qt.run rfl rfl (by decide) (Ev.move rfl) ?_
      refine Qt.run rfl rfl (by decide) (Ev.move rfl) ?_
      refine Qt.run rfl rfl (by decide) (Ev.move rfl) ?_
      obtain ⟨x97, h98, H⟩ := bind_some H
      have g99 := lat_some h98
      obtain ⟨⟨r100v, r100h⟩, r100g, r100e, r100m⟩ := map_get fm81 g99.2.2
      obtain rfl : x97 = r100v := r100e.symm
      have hh101 := row_h r100g
      refine Qt.run rfl rfl (by decide) (Ev.indexS (α := LR Bool) (xs := rs80) rfl rfl Try.runUnderlying42 Try.sizeOf44 rfl (by decide) (Rd.own (i := 3) rfl rfl rfl) g99.1 (by have := map_len fm81; omega)) ?_
      refine Qt.run rfl rfl (by decide) (Ev.loadS (α := LR Bool) rfl (Rd.own (i := 3) rfl rfl rfl) Try.isAgg44 (v := Sl.v r100h) ((Get.elemN (s := 1) rfl r100g (Get.here _)).off (by omega))) ?_
      refine Qt.run rfl rfl (by decide) (Ev.move rfl) ?_
      obtain ⟨x102, h103, H⟩ := bind_some H
      have g104 := lat_some h103
      refine Qt.run rfl rfl (by decide) (Ev.indexS (α := Bool) (xs := x97) rfl rfl Try.runUnderlying44 Try.sizeOf4 rfl (by decide) (Rd.row (j := 0) rfl r100g) g104.1 g104.2.1) ?_
      refine Qt.run rfl rfl (by decide) (Ev.loadS (α := Bool) rfl (Rd.row (j := 0) rfl r100g) Try.isAgg4 (v := .bool x102) ((Get.elemN (s := 1) (x := x102) rfl g104.2.2 (Get.here _)).off (by omega))) ?_
      refine Qt.run rfl rfl (by decide) (Ev.move rfl) ?_
      obtain ⟨o105, H, HKo105⟩ := bind_some H
      refine Qt.join (σ := Bool) 2 (fun y106 => [(0, Sl.v s_a0), (5, Sl.v s11), (6, .int .i64 (i16 : Int)), (7, .pointer (some ⟨b25, 0, none⟩)), (23, Sl.v s_a0), (24, .int .i64 (a0.length : Int)), (25, .int .i64 (i16 : Int)), (38, Sl.v (s_a0.cut (0 : Int).toNat ((i16 : Int) : Int).toNat 3)), (39, .int .i64 (m40.length : Int)), (40, .int .i64 (i45 : Int)), (77, Sl.v r76h), (78, .int .i64 (x73.length : Int)), (79, .int .i64 (i78 : Int)), (87, Sl.v r95h), (88, .int .i64 (i78 : Int)), (98, .bool y106)]) (fun y106 => y106 = o105) ?_ ?_
      · rcases Bool.eq_false_or_eq_true x102 with hb107 | hb107
        · replace H := ite_t hb107 H
          refine Qt.skip rfl rfl rfl hb107 rfl (by decide) ?_
          refine Qt.run rfl rfl (by decide) (Ev.pickT rfl hb107 rfl) ?_
          exact Qt.meet true ⟨rfl, rfl, rfl, rfl, rfl, rfl, rfl, rfl, rfl, rfl, rfl, rfl, rfl, rfl, rfl, rfl, trivial⟩ (some_inj H)
        replace H := ite_f hb107 H
        refine Qt.runG rfl rfl rfl hb107 rfl (by decide) (Ev.move rfl) ?_
        refine Qt.run rfl rfl (by decide) (Ev.pickF rfl hb107 rfl) ?_
        exact Qt.meet x89 ⟨rfl, rfl, rfl, rfl, rfl, rfl, rfl, rfl, rfl, rfl, rfl, rfl, rfl, rfl, rfl, rfl, trivial⟩ (some_inj H)
      rintro y106 hy
      subst hy
      refine Qt.as (e' := [(0, Sl.v s_a0), (5, Sl.v s11), (6, .int .i64 (i16 : Int)), (7, .pointer (some ⟨b25, 0, none⟩)), (23, Sl.v s_a0), (24, .int .i64 (a0.length : Int)), (25, .int .i64 (i16 : Int)), (38, Sl.v (s_a0.cut (0 : Int).toNat ((i16 : Int) : Int).toNat 3)), (39, .int .i64 (m40.length : Int)), (40, .int .i64 (i45 : Int)), (77, Sl.v r76h), (78, .int .i64 (x73.length : Int)), (79, .int .i64 (i78 : Int)), (87, Sl.v r95h), (88, .int .i64 (i78 : Int)), (98, .bool y106)]) ⟨rfl, rfl, rfl, rfl, rfl, rfl, rfl, rfl, rfl, rfl, rfl, rfl, rfl, rfl, rfl, rfl, trivial⟩ ?_
      replace H := HKo105
      obtain ⟨x108, h109, H⟩ := bind_some H
      have g110 := lat_some h109
      refine Qt.run rfl rfl (by decide) (Ev.indexS (α := Bool) (xs := x92) rfl rfl Try.runUnderlying44 Try.sizeOf4 rfl (by decide) (Rd.row (j := 0) rfl r95g) g110.1 g110.2.1) ?_
      refine Qt.tail ?_
      obtain ⟨p111, h112, H⟩ := Let_some H
      have hm113 : (rs80.set (i16 : Int).toNat (LR.mk (x92.set (i78 : Int).toNat y106) r95h)).map LR.v = p111 := (map_set fm81 _ _).trans h112
      have hh115 := row_h_set (xs := (x92.set (i78 : Int).toNat y106)) r95g hh82
      refine Lst.storeR (α := Bool) rfl rfl rfl rfl r95g Try.sizeOf4 (vs := [.bool y106]) rfl rfl (by decide) rfl (xs' := (x92.set (i78 : Int).toNat y106)) ((Put.elemN (s := 1) (x := x108) rfl g110.2.2 (Put.here (vs := [.bool y106]) rfl)).off (by omega)) ?_
      refine Lst.its (L' := (.rows (α := Bool) 4 (rs80.set (i16 : Int).toNat (LR.mk (x92.set (i78 : Int).toNat y106) r95h))) :: (.blk b58 (enc x55) 75) :: (.blk b25 (enc x22) 75) :: (.own s11 44 1 (encs (rs80.set (i16 : Int).toNat (LR.mk (x92.set (i78 : Int).toNat y106) r95h)))) :: (.own Sl.nil 46 2 (encs ([] : List Pair))) :: L) (by rw [show encs (rs80.set (i16 : Int).toNat (LR.mk (x92.set (i78 : Int).toNat y106) r95h)) = encs rs80 from encs_rowv r95g]) ?_
      refine Lst.nil ?_
      refine At.in_normal ?_
      refine At.then ?_
      refine Cd.region ?_
      refine Lst.run rfl rfl (by decide) (Ev.incr (by omega) rfl rfl) ?_
      refine Lst.run rfl rfl (by decide) (Ev.move rfl) ?_
      refine Lst.nil ?_
      exact At.meet (i78 + 1, k78, p111, (rs80.set (i16 : Int).toNat (LR.mk (x92.set (i78 : Int).toNat y106) r95h))) hF84 ⟨rfl, rfl, rfl, rfl, rfl, rfl, rfl, rfl, rfl, rfl, rfl, rfl, rfl, trivial⟩ rfl ⟨⟨hgo78 _ (some_inj H).symm, by omega, hm113, hh115⟩, Nat.lt_succ_self _⟩
    replace H := ite_t hb60 H
    refine Lst.runG rfl rfl rfl hb60 rfl (by decide) (Ev.fieldAddr (off' := 1) rfl Try.runUnderlying75 rfl Try.sizeOf3 rfl rfl) ?_
    refine Lst.runG rfl rfl rfl hb60 rfl (by decide) (Ev.load (i := 0) rfl rfl Try.isAgg3 (v := .int .i64 x55.Kind) ((Event.get_Kind (Get.here _)).off (by rfl))) ?_
    refine Lst.runG rfl rfl rfl hb60 rfl (by decide) (Ev.eql rfl rfl) ?_
    refine Lst.runG rfl rfl rfl hb60 rfl (by decide) (Ev.move rfl) ?_
    obtain ⟨o117, H, HKo117⟩ := bind_some H
    refine Lst.join (σ := Bool) 4 (fun y118 => [(0, Sl.v s_a0), (5, Sl.v s11), (6, .int .i64 (i16 : Int)), (7, .pointer (some ⟨b25, 0, none⟩)), (8, .int .i64 (i45 : Int)), (9, .pointer (some ⟨b58, 0, none⟩)), (23, Sl.v s_a0), (24, .int .i64 (a0.length : Int)), (25, .int .i64 (i16 : Int)), (38, Sl.v (s_a0.cut (0 : Int).toNat ((i16 : Int) : Int).toNat 3)), (39, .int .i64 (m40.length : Int)), (40, .int .i64 (i45 : Int)), (50, .bool (x55.Proc != x22.Proc)), (58, .bool y118)]) (fun y118 => (.blk b58 (enc x55) 75) :: (.rows (α := Bool) 4 rs47) :: (.blk b25 (enc x22) 75) :: (.own s11 44 1 (encs rs47)) :: (.own Sl.nil 46 2 (encs ([] : List Pair))) :: L) (fun _ y118 => y118 = o117) ?_ ?_
    · rcases (Bool.eq_false_or_eq_true (x55.Kind == (2 : Int))).symm with hb119 | hb119
      · replace H := ite_f hb119 H
        refine Lst.skip rfl rfl rfl hb119 rfl (by decide) ?_
        refine Lst.skip rfl rfl rfl hb119 rfl (by decide) ?_
        refine Lst.skip rfl rfl rfl hb119 rfl (by decide) ?_
        refine Lst.runG rfl rfl rfl hb60 rfl (by decide) (Ev.pickF rfl hb119 rfl) ?_
        refine Lst.nil ?_
        exact At.meet false (FLe.refl _) ⟨rfl, rfl, rfl, rfl, rfl, rfl, rfl, rfl, rfl, rfl, rfl, rfl, rfl, rfl, trivial⟩ rfl (some_inj H)
      replace H := ite_t hb119 H
      refine Lst.runG rfl rfl rfl hb119 rfl (by decide) (Ev.fieldAddr (off' := 1) rfl Try.runUnderlying75 rfl Try.sizeOf3 rfl rfl) ?_
      refine Lst.runG rfl rfl rfl hb119 rfl (by decide) (Ev.load (i := 2) rfl rfl Try.isAgg3 (v := .int .i64 x22.Kind) ((Event.get_Kind (Get.here _)).off (by rfl))) ?_
      refine Lst.runG rfl rfl rfl hb119 rfl (by decide) (Ev.eql rfl rfl) ?_
      refine Lst.runG rfl rfl rfl hb60 rfl (by decide) (Ev.pickT rfl hb119 rfl) ?_
      refine Lst.nil ?_
      exact At.meet (x22.Kind == (3 : Int)) (FLe.refl _) ⟨rfl, rfl, rfl, rfl, rfl, rfl, rfl, rfl, rfl, rfl, rfl, rfl, rfl, rfl, trivial⟩ rfl (some_inj H)
    rintro F120 y118 hF121 hy
    subst hy
    refine Lst.as (e' := [(0, Sl.v s_a0), (5, Sl.v s11), (6, .int .i64 (i16 : Int)), (7, .pointer (some ⟨b25, 0, none⟩)), (8, .int .i64 (i45 : Int)), (9, .pointer (some ⟨b58, 0, none⟩)), (23, Sl.v s_a0), (24, .int .i64 (a0.length : Int)), (25, .int .i64 (i16 : Int)), (38, Sl.v (s_a0.cut (0 : Int).toNat ((i16 : Int) : Int).toNat 3)), (39, .int .i64 (m40.length : Int)), (40, .int .i64 (i45 : Int)), (50, .bool (x55.Proc != x22.Proc)), (58, .bool y118)]) (L' := (.blk b58 (enc x55) 75) :: (.rows (α := Bool) 4 rs47) :: (.blk b25 (enc x22) 75) :: (.own s11 44 1 (encs rs47)) :: (.own Sl.nil 46 2 (encs ([] : List Pair))) :: L) ⟨rfl, rfl, rfl, rfl, rfl, rfl, rfl, rfl, rfl, rfl, rfl, rfl, rfl, rfl, trivial⟩ rfl ?_
    replace H := HKo117
    refine Lst.runG rfl rfl rfl hb60 rfl (by decide) (Ev.move rfl) ?_
    obtain ⟨o122, H, HKo122⟩ := bind_some H
    refine Lst.join (σ := Bool) 6 (fun y123 => [(0, Sl.v s_a0), (5, Sl.v s11), (6, .int .i64 (i16 : Int)), (7, .pointer (some ⟨b25, 0, none⟩)), (8, .int .i64 (i45 : Int)), (23, Sl.v s_a0), (24, .int .i64 (a0.length : Int)), (25, .int .i64 (i16 : Int)), (38, Sl.v (s_a0.cut (0 : Int).toNat ((i16 : Int) : Int).toNat 3)), (39, .int .i64 (m40.length : Int)), (40, .int .i64 (i45 : Int)), (50, .bool (x55.Proc != x22.Proc)), (65, .bool y123)]) (fun y123 => (.blk b58 (enc x55) 75) :: (.rows (α := Bool) 4 rs47) :: (.blk b25 (enc x22) 75) :: (.own s11 44 1 (encs rs47)) :: (.own Sl.nil 46 2 (encs ([] : List Pair))) :: L) (fun _ y123 => y123 = o122) ?_ ?_
    · rcases (Bool.eq_false_or_eq_true y118).symm with hb124 | hb124
      · replace H := ite_f hb124 H
        refine Lst.skip rfl rfl rfl hb124 rfl (by decide) ?_
        refine Lst.skip rfl rfl rfl hb124 rfl (by decide) ?_
        refine Lst.skip rfl rfl rfl hb124 rfl (by decide) ?_
        refine Lst.skip rfl rfl rfl hb124 rfl (by decide) ?_
        refine Lst.skip rfl rfl rfl hb124 rfl (by decide) ?_
        refine Lst.runG rfl rfl rfl hb60 rfl (by decide) (Ev.pickF rfl hb124 rfl) ?_
        refine Lst.nil ?_
        exact At.meet false (FLe.refl _) ⟨rfl, rfl, rfl, rfl, rfl, rfl, rfl, rfl, rfl, rfl, rfl, rfl, rfl, trivial⟩ rfl (some_inj H)
      replace H := ite_t hb124 H
      refine Lst.runG rfl rfl rfl hb124 rfl (by decide) (Ev.fieldAddr (off' := 2) rfl Try.runUnderlying75 rfl Try.sizeOf3 rfl rfl) ?_
      refine Lst.runG rfl rfl rfl hb124 rfl (by decide) (Ev.load (i := 0) rfl rfl Try.isAgg3 (v := .int .i64 x55.Msg) ((Event.get_Msg (Get.here _)).off (by rfl))) ?_
      refine Lst.runG rfl rfl rfl hb124 rfl (by decide) (Ev.fieldAddr (off' := 2) rfl Try.runUnderlying75 rfl Try.sizeOf3 rfl rfl) ?_
      refine Lst.runG rfl rfl rfl hb124 rfl (by decide) (Ev.load (i := 2) rfl rfl Try.isAgg3 (v := .int .i64 x22.Msg) ((Event.get_Msg (Get.here _)).off (by rfl))) ?_
      refine Lst.runG rfl rfl rfl hb124 rfl (by decide) (Ev.eql rfl rfl) ?_
      refine Lst.runG rfl rfl rfl hb60 rfl (by decide) (Ev.pickT rfl hb124 rfl) ?_
      refine Lst.nil ?_
      exact At.meet (x55.Msg == x22.Msg) (FLe.refl _) ⟨rfl, rfl, rfl, rfl, rfl, rfl, rfl, rfl, rfl, rfl, rfl, rfl, rfl, trivial⟩ rfl (some_inj H)
    rintro F125 y123 hF126 hy
    subst hy
    refine Lst.as (e' := [(0, Sl.v s_a0), (5, Sl.v s11), (6, .int .i64 (i16 : Int)), (7, .pointer (some ⟨b25, 0, none⟩)), (8, .int .i64 (i45 : Int)), (23, Sl.v s_a0), (24, .int .i64 (a0.length : Int)), (25, .int .i64 (i16 : Int)), (38, Sl.v (s_a0.cut (0 : Int).toNat ((i16 : Int) : Int).toNat 3)), (39, .int .i64 (m40.length : Int)), (40, .int .i64 (i45 : Int)), (50, .bool (x55.Proc != x22.Proc)), (65, .bool y123)]) (L' := (.blk b58 (enc x55) 75) :: (.rows (α := Bool) 4 rs47) :: (.blk b25 (enc x22) 75) :: (.own s11 44 1 (encs rs47)) :: (.own Sl.nil 46 2 (encs ([] : List Pair))) :: L) ⟨rfl, rfl, rfl, rfl, rfl, rfl, rfl, rfl, rfl, rfl, rfl, rfl, rfl, trivial⟩ rfl ?_
    replace H := HKo122
    refine Lst.runG rfl rfl rfl hb60 rfl (by decide) (Ev.not rfl) ?_
    refine Lst.run rfl rfl (by decide) (Ev.pickT rfl hb60 rfl) ?_
    refine Lst.nil ?_
    refine At.then ?_
    rcases Bool.eq_false_or_eq_true (!y123) with hb127 | hb127
    · replace H := ite_t hb127 H
      refine Cd.condT rfl hb127 ?_
      refine Cd.exit ?_
      refine At.then_exit ?_
      refine At.in_exit ?_
      refine At.less (L' := (.rows (α := Bool) 4 rs47) :: (.blk b25 (enc x22) 75) :: (.own s11 44 1 (encs rs47)) :: (.own Sl.nil 46 2 (encs ([] : List Pair))) :: L) (List.Sublist.cons _ (List.Sublist.cons_cons _ (List.Sublist.cons_cons _ (List.Sublist.cons_cons _ (List.Sublist.cons_cons _ (List.Sublist.refl _)))))) ?_
      exact At.meet (l46, rs47) (FLe.trans hF121 hF126) ⟨rfl, rfl, rfl, rfl, rfl, rfl, rfl, rfl, rfl, rfl, trivial⟩ rfl ⟨some_inj H, fm48⟩
    replace H := ite_f hb127 H
    refine Cd.condF rfl hb127 ?_
    refine Cd.skip ?_
    refine At.then ?_
    refine Cd.seq ?_
    refine Cd.region ?_
    refine Lst.run rfl rfl (by decide) (Ev.move rfl) ?_
    refine Lst.run rfl rfl (by decide) (Ev.move rfl) ?_
    obtain ⟨x128, h129, H⟩ := bind_some H
    have g130 := lat_some h129
    obtain ⟨⟨r131v, r131h⟩, r131g, r131e, r131m⟩ := map_get fm48 g130.2.2
    obtain rfl : x128 = r131v := r131e.symm
    have hh132 := row_h r131g
    refine Lst.run rfl rfl (by decide) (Ev.indexS (α := LR Bool) (xs := rs47) rfl rfl Try.runUnderlying42 Try.sizeOf44 rfl (by decide) (Rd.own (i := 3) rfl rfl rfl) g130.1 (by have := map_len fm48; omega)) ?_
    refine Lst.run rfl rfl (by decide) (Ev.loadS (α := LR Bool) rfl (Rd.own (i := 3) rfl rfl rfl) Try.isAgg44 (v := Sl.v r131h) ((Get.elemN (s := 1) rfl r131g (Get.here _)).off (by omega))) ?_
    refine Lst.run rfl rfl (by decide) (Ev.move rfl) ?_
    obtain ⟨x133, h134, H⟩ := bind_some H
    have g135 := lat_some h134
    refine Lst.run rfl rfl (by decide) (Ev.indexS (α := Bool) (xs := x128) rfl rfl Try.runUnderlying44 Try.sizeOf4 rfl (by decide) (Rd.row (j := 1) rfl r131g) g135.1 g135.2.1) ?_
    obtain ⟨p136, h137, H⟩ := Let_some H
    have hm138 : (rs47.set (i16 : Int).toNat (LR.mk (x128.set (i45 : Int).toNat true) r131h)).map LR.v = p136 := (map_set fm48 _ _).trans h137
    refine Lst.front (i := 1) rfl (L' := (.rows (α := Bool) 4 rs47) :: (.blk b58 (enc x55) 75) :: (.blk b25 (enc x22) 75) :: (.own s11 44 1 (encs rs47)) :: (.own Sl.nil 46 2 (encs ([] : List Pair))) :: L) rfl ?_
    refine Lst.storeR (α := Bool) rfl rfl rfl rfl r131g Try.sizeOf4 (vs := [.bool true]) rfl rfl (by decide) rfl (xs' := (x128.set (i45 : Int).toNat true)) ((Put.elemN (s := 1) (x := x133) rfl g135.2.2 (Put.here (vs := [.bool true]) rfl)).off (by omega)) ?_
    refine Lst.its (L' := (.rows (α := Bool) 4 (rs47.set (i16 : Int).toNat (LR.mk (x128.set (i45 : Int).toNat true) r131h))) :: (.blk b58 (enc x55) 75) :: (.blk b25 (enc x22) 75) :: (.own s11 44 1 (encs (rs47.set (i16 : Int).toNat (LR.mk (x128.set (i45 : Int).toNat true) r131h)))) :: (.own Sl.nil 46 2 (encs ([] : List Pair))) :: L) (by rw [show encs (rs47.set (i16 : Int).toNat (LR.mk (x128.set (i45 : Int).toNat true) r131h)) = encs rs47 from encs_rowv r131g]) ?_
    refine Lst.nil ?_
    refine At.then ?_
    refine Cd.seq ?_
    refine Cd.region ?_
    refine Lst.run rfl rfl (by decide) (Ev.move rfl) ?_
    refine Lst.run rfl rfl (by decide) (Ev.move rfl) ?_
    obtain ⟨x140, h141, H⟩ := bind_some H
    have g142 := lat_some h141
    obtain ⟨⟨r143v, r143h⟩, r143g, r143e, r143m⟩ := map_get hm138 g142.2.2
    obtain rfl : x140 = r143v := r143e.symm
    have hh144 := row_h r143g
    refine Lst.run rfl rfl (by decide) (Ev.indexS (α := LR Bool) (xs := (rs47.set (i16 : Int).toNat (LR.mk (x128.set (i45 : Int).toNat true) r131h))) rfl rfl Try.runUnderlying42 Try.sizeOf44 rfl (by decide) (Rd.own (i := 3) rfl rfl rfl) g142.1 (by have := map_len hm138; omega)) ?_
    refine Lst.run rfl rfl (by decide) (Ev.loadS (α := LR Bool) rfl (Rd.own (i := 3) rfl rfl rfl) Try.isAgg44 (v := Sl.v r143h) ((Get.elemN (s := 1) rfl r143g (Get.here _)).off (by omega))) ?_
    refine Lst.run rfl rfl (by decide) (Ev.lenS (α := Bool) (xs := x140) (by decide) rfl rfl Try.runUnderlying44 (Rd.row (j := 0) rfl r143g)) ?_
    refine Lst.run rfl rfl (by decide) (Ev.move rfl) ?_
    refine Lst.nil ?_
    refine At.then ?_
    refine Cd.block ?_
    refine Cd.bound (Rd.le (α := Bool) (xs := x140) (by decide) (Rd.row (j := 0) rfl r143g)) (fun hN183 => ?_)
    obtain ⟨ol145, H, HKl145⟩ := bind_some H
    refine Cd.loop (σ := Nat × Nat × (List (List Bool)) × (List (LR Bool))) (fun (i145, k145, l146, rs147) => [(0, Sl.v s_a0), (5, Sl.v s11), (6, .int .i64 (i16 : Int)), (7, .pointer (some ⟨b25, 0, none⟩)), (23, Sl.v s_a0), (24, .int .i64 (a0.length : Int)), (25, .int .i64 (i16 : Int)), (38, Sl.v (s_a0.cut (0 : Int).toNat ((i16 : Int) : Int).toNat 3)), (39, .int .i64 (m40.length : Int)), (40, .int .i64 (i45 : Int)), (77, Sl.v r143h), (78, .int .i64 (x140.length : Int)), (79, .int .i64 (i145 : Int))]) (fun (i145, k145, l146, rs147) => (.rows (α := Bool) 4 rs147) :: (.blk b58 (enc x55) 75) :: (.blk b25 (enc x22) 75) :: (.own s11 44 1 (encs rs147)) :: (.own Sl.nil 46 2 (encs ([] : List Pair))) :: L) (fun Fx => (fun (i145, k145, l146, rs147) => rangeF (stamp_Ahead_B4x i16 i45) k145 i145 l146 = some ol145 ∧ i145 + k145 = x140.length ∧ rs147.map LR.v = l146 ∧ (rs147.map LR.h)[(i45 : Int).toNat]? = some r143h)) (fun (i145, k145, l146, rs147) => k145) (0, x140.length, p136, (rs47.set (i16 : Int).toNat (LR.mk (x128.set (i45 : Int).toNat true) r131h))) ⟨rfl, rfl, rfl, rfl, rfl, rfl, rfl, rfl, rfl, rfl, rfl, rfl, rfl, trivial⟩ rfl ⟨H, by omega, hm138, hh144⟩ ?_
    rintro F150 ⟨i145, k145, l146, rs147⟩ hF151 ⟨H, hik145, fm148, hh149⟩
    refine Cd.as (e' := [(0, Sl.v s_a0), (5, Sl.v s11), (6, .int .i64 (i16 : Int)), (7, .pointer (some ⟨b25, 0, none⟩)), (23, Sl.v s_a0), (24, .int .i64 (a0.length : Int)), (25, .int .i64 (i16 : Int)), (38, Sl.v (s_a0.cut (0 : Int).toNat ((i16 : Int) : Int).toNat 3)), (39, .int .i64 (m40.length : Int)), (40, .int .i64 (i45 : Int)), (77, Sl.v r143h), (78, .int .i64 (x140.length : Int)), (79, .int .i64 (i145 : Int))]) (L' := (.rows (α := Bool) 4 rs147) :: (.blk b58 (enc x55) 75) :: (.blk b25 (enc x22) 75) :: (.own s11 44 1 (encs rs147)) :: (.own Sl.nil 46 2 (encs ([] : List Pair))) :: L) ⟨rfl, rfl, rfl, rfl, rfl, rfl, rfl, rfl, rfl, rfl, rfl, rfl, rfl, trivial⟩ rfl ?_
    rcases k145 with _ | k145
    · have hc145 : decide ((i145 : Int) < (x140.length : Int)) = false := decide_eq_false (by omega)
      replace H := rangeF_end H
      refine Cd.seq ?_
      refine Cd.region ?_
      refine Lst.run rfl rfl (by decide) (Ev.lss rfl rfl) ?_
      refine Lst.nil ?_
      refine At.then ?_
      refine Cd.seq ?_
      refine Cd.condF rfl hc145 ?_
      refine Cd.exit ?_
      refine At.then_exit ?_
      refine At.then_exit ?_
      refine At.in_exit ?_
      subst H
      replace H := HKl145
      refine At.in_normal ?_
      refine At.less (L' := (.rows (α := Bool) 4 rs147) :: (.blk b25 (enc x22) 75) :: (.own s11 44 1 (encs rs147)) :: (.own Sl.nil 46 2 (encs ([] : List Pair))) :: L) (List.Sublist.cons_cons _ (List.Sublist.cons _ (List.Sublist.cons_cons _ (List.Sublist.cons_cons _ (List.Sublist.cons_cons _ (List.Sublist.refl _)))))) ?_
      exact At.meet (l146, rs147) (FLe.trans (FLe.trans hF121 hF126) hF151) ⟨rfl, rfl, rfl, rfl, rfl, rfl, rfl, rfl, rfl, rfl, trivial⟩ rfl ⟨some_inj H, fm148⟩
    have hc145 : decide ((i145 : Int) < (x140.length : Int)) = true := decide_eq_true (by omega)
    obtain ⟨c145, H, hgo145⟩ := rangeF_go H
    unfold stamp_Ahead_B4x at H
    try dsimp only at H
    refine Cd.seq ?_
    refine Cd.region ?_
    refine Lst.run rfl rfl (by decide) (Ev.lss rfl rfl) ?_
    refine Lst.nil ?_
    refine At.then ?_
    refine Cd.seq ?_
    refine Cd.condT rfl hc145 ?_
    refine Cd.skip ?_
    refine At.then ?_
    refine Cd.seq ?_
    refine Cd.block ?_
    refine Cd.seq ?_
    refine Cd.region ?_
    refine Lst.run rfl rfl (by decide) (Ev.move rfl) ?_
    obtain ⟨x152, h153, H⟩ := bind_some H
    have g154 := lat_some h153
    obtain ⟨⟨r155v, r155h⟩, r155g, r155e, r155m⟩ := map_get fm148 g154.2.2
    obtain rfl : x152 = r155v := r155e.symm
    obtain rfl := row_handle hh149 r155g
    obtain ⟨x156, h157, H⟩ := bind_some H
    have g158 := lat_some h157
    refine Lst.run rfl rfl (by decide) (Ev.indexS (α := Bool) (xs := x152) rfl rfl Try.runUnderlying44 Try.sizeOf4 rfl (by decide) (Rd.row (j := 0) rfl r155g) g158.1 g158.2.1) ?_
    refine Lst.run rfl rfl (by decide) (Ev.loadS (α := Bool) rfl (Rd.row (j := 0) rfl r155g) Try.isAgg4 (v := .bool x156) ((Get.elemN (s := 1) (x := x156) rfl g158.2.2 (Get.here _)).off (by omega))) ?_
    refine Lst.run rfl rfl (by decide) (Ev.assign rfl) ?_
    refine Lst.run rfl rfl (by decide) (Ev.assign rfl) ?_
    refine Lst.nil ?_
    refine At.then ?_
    refine Cd.tail 16 (by kernel_rfl) (by kernel_rfl) ?_
    refine Qt.run rfl rfl (by decide) (Ev.move rfl) ?_
    refine Qt.run rfl rfl (by decide) (Ev.move rfl) ?_
    obtain ⟨x159, h160, H⟩ := bind_some H
    have g161 := lat_some h160
    obtain ⟨⟨r162v, r162h⟩, r162g, r162e, r162m⟩ := map_get fm148 g161.2.2
    obtain rfl : x159 = r162v := r162e.symm
    have hh163 := row_h r162g
    refine Qt.run rfl rfl (by decide) (Ev.indexS (α := LR Bool) (xs := rs147) rfl rfl Try.runUnderlying42 Try.sizeOf44 rfl (by decide) (Rd.own (i := 3) rfl rfl rfl) g161.1 (by have := map_len fm148; omega)) ?_
    refine Qt.run rfl rfl (by decide) (Ev.loadS (α := LR Bool) rfl (Rd.own (i := 3) rfl rfl rfl) Try.isAgg44 (v := Sl.v r162h) ((Get.elemN (s := 1) rfl r162g (Get.here _)).off (by omega))) ?_
    refine Qt.run rfl rfl (by decide) (Ev.move rfl) ?_
    refine Qt.run rfl rfl (by decide) (Ev.move rfl) ?_
    refine Qt.run rfl rfl (by decide) (Ev.move rfl) ?_
    obtain ⟨x164, h165, H⟩ := bind_some H
    have g166 := lat_some h165
    obtain ⟨⟨r167v, r167h⟩, r167g, r167e, r167m⟩ := map_get fm148 g166.2.2
    obtain rfl : x164 = r167v := r167e.symm
    have hh168 := row_h r167g
    refine Qt.run rfl rfl (by decide) (Ev.indexS (α := LR Bool) (xs := rs147) rfl rfl Try.runUnderlying42 Try.sizeOf44 rfl (by decide) (Rd.own (i := 3) rfl rfl rfl) g166.1 (by have := map_len fm148; omega)) ?_
    refine Qt.run rfl rfl (by decide) (Ev.loadS (α := LR Bool) rfl (Rd.own (i := 3) rfl rfl rfl) Try.isAgg44 (v := Sl.v r167h) ((Get.elemN (s := 1) rfl r167g (Get.here _)).off (by omega))) ?_
    refine Qt.run rfl rfl (by decide) (Ev.move rfl) ?_
    obtain ⟨x169, h170, H⟩ := bind_some H
    have g171 := lat_some h170
    refine Qt.run rfl rfl (by decide) (Ev.indexS (α := Bool) (xs := x164) rfl rfl Try.runUnderlying44 Try.sizeOf4 rfl (by decide) (Rd.row (j := 0) rfl r167g) g171.1 g171.2.1) ?_
    refine Qt.run rfl rfl (by decide) (Ev.loadS (α := Bool) rfl (Rd.row (j := 0) rfl r167g) Try.isAgg4 (v := .bool x169) ((Get.elemN (s := 1) (x := x169) rfl g171.2.2 (Get.here _)).off (by omega))) ?_
    refine Qt.run rfl rfl (by decide) (Ev.move rfl) ?_
    obtain ⟨o172, H, HKo172⟩ := bind_some H
    refine Qt.join (σ := Bool) 2 (fun y173 => [(0, Sl.v s_a0), (5, Sl.v s11), (6, .int .i64 (i16 : Int)), (7, .pointer (some ⟨b25, 0, none⟩)), (23, Sl.v s_a0), (24, .int .i64 (a0.length : Int)), (25, .int .i64 (i16 : Int)), (38, Sl.v (s_a0.cut (0 : Int).toNat ((i16 : Int) : Int).toNat 3)), (39, .int .i64 (m40.length : Int)), (40, .int .i64 (i45 : Int)), (77, Sl.v r143h), (78, .int .i64 (x140.length : Int)), (79, .int .i64 (i145 : Int)), (87, Sl.v r162h), (88, .int .i64 (i145 : Int)), (98, .bool y173)]) (fun y173 => y173 = o172) ?_ ?_
    · rcases Bool.eq_false_or_eq_true x169 with hb174 | hb174
      · replace H := ite_t hb174 H
        refine Qt.skip rfl rfl rfl hb174 rfl (by decide) ?_
        refine Qt.run rfl rfl (by decide) (Ev.pickT rfl hb174 rfl) ?_
        exact Qt.meet true ⟨rfl, rfl, rfl, rfl, rfl, rfl, rfl, rfl, rfl, rfl, rfl, rfl, rfl, rfl, rfl, rfl, trivial⟩ (some_inj H)
      replace H := ite_f hb174 H
      refine Qt.runG rfl rfl rfl hb174 rfl (by decide) (Ev.move rfl) ?_
      refine Qt.run rfl rfl (by decide) (Ev.pickF rfl hb174 rfl) ?_
      exact Qt.meet x156 ⟨rfl, rfl, rfl, rfl, rfl, rfl, rfl, rfl, rfl, rfl, rfl, rfl, rfl, rfl, rfl, rfl, trivial⟩ (some_inj H)
    rintro y173 hy
    subst hy
    refine Qt.as (e' := [(0, Sl.v s_a0), (5, Sl.v s11), (6, .int .i64 (i16 : Int)), (7, .pointer (some ⟨b25, 0, none⟩)), (23, Sl.v s_a0), (24, .int .i64 (a0.length : Int)), (25, .int .i64 (i16 : Int)), (38, Sl.v (s_a0.cut (0 : Int).toNat ((i16 : Int) : Int).toNat 3)), (39, .int .i64 (m40.length : Int)), (40, .int .i64 (i45 : Int)), (77, Sl.v r143h), (78, .int .i64 (x140.length : Int)), (79, .int .i64 (i145 : Int)), (87, Sl.v r162h), (88, .int .i64 (i145 : Int)), (98, .bool y173)]) ⟨rfl, rfl, rfl, rfl, rfl, rfl, rfl, rfl, rfl, rfl, rfl, rfl, rfl, rfl, rfl, rfl, trivial⟩ ?_
    replace H := HKo172
    obtain ⟨x175, h176, H⟩ := bind_some H
    have g177 := lat_some h176
    refine Qt.run rfl rfl (by decide) (Ev.indexS (α := Bool) (xs := x159) rfl rfl Try.runUnderlying44 Try.sizeOf4 rfl (by decide) (Rd.row (j := 0) rfl r162g) g177.1 g177.2.1) ?_
    refine Qt.tail ?_
    obtain ⟨p178, h179, H⟩ := Let_some H
    have hm180 : (rs147.set (i16 : Int).toNat (LR.mk (x159.set (i145 : Int).toNat y173) r162h)).map LR.v = p178 := (map_set fm148 _ _).trans h179
    have hh182 := row_h_set (xs := (x159.set (i145 : Int).toNat y173)) r162g hh149
    refine Lst.storeR (α := Bool) rfl rfl rfl rfl r162g Try.sizeOf4 (vs := [.bool y173]) rfl rfl (by decide) rfl (xs' := (x159.set (i145 : Int).toNat y173)) ((Put.elemN (s := 1) (x := x175) rfl g177.2.2 (Put.here (vs := [.bool y173]) rfl)).off (by omega)) ?_
    refine Lst.its (L' := (.rows (α := Bool) 4 (rs147.set (i16 : Int).toNat (LR.mk (x159.set (i145 : Int).toNat y173) r162h))) :: (.blk b58 (enc x55) 75) :: (.blk b25 (enc x22) 75) :: (.own s11 44 1 (encs (rs147.set (i16 : Int).toNat (LR.mk (x159.set (i145 : Int).toNat y173) r162h)))) :: (.own Sl.nil 46 2 (encs ([] : List Pair))) :: L) (by rw [show encs (rs147.set (i16 : Int).toNat (LR.mk (x159.set (i145 : Int).toNat y173) r162h)) = encs rs147 from encs_rowv r162g]) ?_
    refine Lst.nil ?_
    refine At.in_normal ?_
    refine At.then ?_
    refine Cd.region ?_
    refine Lst.run rfl rfl (by decide) (Ev.incr (by omega) rfl rfl) ?_
    refine Lst.run rfl rfl (by decide) (Ev.move rfl) ?_
    refine Lst.nil ?_
    exact At.meet (i145 + 1, k145, p178, (rs147.set (i16 : Int).toNat (LR.mk (x159.set (i145 : Int).toNat y173) r162h))) hF151 ⟨rfl, rfl, rfl, rfl, rfl, rfl, rfl, rfl, rfl, rfl, rfl, rfl, rfl, trivial⟩ rfl ⟨⟨hgo145 _ (some_inj H).symm, by omega, hm180, hh182⟩, Nat.lt_succ_self _⟩
  rintro F184 ⟨l51, rs52⟩ hF185 ⟨hy, fm53⟩
  subst hy
  refine Cd.as (e' := [(0, Sl.v s_a0), (5, Sl.v s11), (6, .int .i64 (i16 : Int)), (7, .pointer (some ⟨b25, 0, none⟩)), (23, Sl.v s_a0), (24, .int .i64 (a0.length : Int)), (25, .int .i64 (i16 : Int)), (38, Sl.v (s_a0.cut (0 : Int).toNat ((i16 : Int) : Int).toNat 3)), (39, .int .i64 (m40.length : Int)), (40, .int .i64 (i45 : Int))]) (L' := (.rows (α := Bool) 4 rs52) :: (.blk b25 (enc x22) 75) :: (.own s11 44 1 (encs rs52)) :: (.own Sl.nil 46 2 (encs ([] : List Pair))) :: L) ⟨rfl, rfl, rfl, rfl, rfl, rfl, rfl, rfl, rfl, rfl, trivial⟩ rfl ?_
  replace H := HKo54
  refine Cd.region ?_
  refine Lst.run rfl rfl (by decide) (Ev.incr (by omega) rfl rfl) ?_
  refine Lst.run rfl rfl (by decide) (Ev.move rfl) ?_
  refine Lst.nil ?_
  exact At.meet (i45 + 1, k45, l51, rs52) (FLe.trans hF50 hF185) ⟨rfl, rfl, rfl, rfl, rfl, rfl, rfl, rfl, rfl, rfl, trivial⟩ rfl ⟨⟨hgo45 _ (some_inj H).symm, by omega, fm53⟩, Nat.lt_succ_self _⟩
set_option maxRecDepth 20000 in
theorem match_in_sim {a0 : Int} {a1 : Int} {a2 : Int} {r : Bool} (H : match_in a0 a1 a2 = some r) (w0 : World) (F : Frz) (M L : List Item) (hM : M.Sublist L) : Ok Try.prog w0 80 [.int .i64 a0, .int .i64 a1, .int .i64 a2] F (L) (Is (.bool r) (L)) := by
  unfold match_in at H
  refine Ok.enter (m := 3) (n := 15) Try.func80 rfl rfl rfl (by decide) ?_
  refine Cd.env (e' := [(0, .int .i64 a0), (1, .int .i64 a1), (2, .int .i64 a2)]) rfl ?_
  refine Cd.seq ?_
  refine Cd.region ?_
  refine Lst.run rfl rfl (by decide) (Ev.assign rfl) ?_
  refine Lst.nil ?_
  refine At.then ?_
  refine Cd.seq ?_
  refine Cd.region ?_
  refine Lst.run rfl rfl (by decide) (Ev.move rfl) ?_
  refine Lst.run rfl rfl (by decide) (Ev.move rfl) ?_
  refine Lst.run rfl rfl (by decide) (Ev.geq rfl rfl) ?_
  refine Lst.run rfl rfl (by decide) (Ev.move rfl) ?_
  obtain ⟨o1, H, HKo1⟩ := bind_some H
  refine Lst.join (σ := Bool) 4 (fun y2 => [(14, .bool y2)]) (fun y2 => L) (fun _ y2 => y2 = o1) ?_ ?_
  · rcases (Bool.eq_false_or_eq_true (decide (a0 ≥ a1))).symm with hb3 | hb3
    · replace H := ite_f hb3 H
      refine Lst.skip rfl rfl rfl hb3 rfl (by decide) ?_
      refine Lst.skip rfl rfl rfl hb3 rfl (by decide) ?_
      refine Lst.skip rfl rfl rfl hb3 rfl (by decide) ?_
      refine Lst.run rfl rfl (by decide) (Ev.pickF rfl hb3 rfl) ?_
      refine Lst.nil ?_
      exact At.meet false (FLe.refl _) ⟨rfl, trivial⟩ rfl (some_inj H)
    replace H := ite_t hb3 H
    refine Lst.runG rfl rfl rfl hb3 rfl (by decide) (Ev.move rfl) ?_
    refine Lst.runG rfl rfl rfl hb3 rfl (by decide) (Ev.move rfl) ?_
    refine Lst.runG rfl rfl rfl hb3 rfl (by decide) (Ev.leq rfl rfl) ?_
    refine Lst.run rfl rfl (by decide) (Ev.pickT rfl hb3 rfl) ?_
    refine Lst.nil ?_
    exact At.meet (decide (a0 ≤ a2)) (FLe.refl _) ⟨rfl, trivial⟩ rfl (some_inj H)
  rintro F4 y2 hF5 hy
  subst hy
  refine Lst.as (e' := [(14, .bool y2)]) (L' := L) ⟨rfl, trivial⟩ rfl ?_
  replace H := HKo1
  refine Lst.run rfl rfl (by decide) (Ev.assign rfl) ?_
  refine Lst.nil ?_
  refine At.then ?_
  obtain rfl := some_inj H
  refine Cd.ret ?_
  exact At.ret1 rfl (Res.tmp rfl) hF5 (List.Sublist.refl _) ⟨rfl, rfl⟩
set_option maxRecDepth 20000 in
theorem match_Check_1_sim {a0 : Pair} {a1 : Int} {a2 : Int} {b_a1 : Nat} {b_a2 : Nat} {r : Bool} (H : match_Check_1 a0 a1 a2 = some r) (w0 : World) (F : Frz) (M L : List Item) (hM : M.Sublist L) : Ok Try.prog w0 82 [.agg (enc a0).toArray, .pointer (some ⟨b_a1, 0, none⟩), .pointer (some ⟨b_a2, 0, none⟩)] F ((.blk b_a1 (enc a1) 3) :: (.blk b_a2 (enc a2) 3) :: L) (Is (.bool r) ((.blk b_a1 (enc a1) 3) :: (.blk b_a2 (enc a2) 3) :: L)) := by
  unfold match_Check_1 at H
  refine Ok.enter (m := 3) (n := 19) Try.func82 rfl rfl rfl (by decide) ?_
  refine Cd.env (e' := [(0, .agg (enc a0).toArray), (1, .pointer (some ⟨b_a1, 0, none⟩)), (2, .pointer (some ⟨b_a2, 0, none⟩))]) rfl ?_
  refine Cd.seq ?_
  refine Cd.region ?_
  refine Lst.box rfl rfl (by decide) rfl (cs := enc a0) rfl (fun b3 => ?_)
  refine Lst.run rfl rfl (by decide) (Ev.assign rfl) ?_
  refine Lst.nil ?_
  refine At.then ?_
  refine Cd.seq ?_
  refine Cd.region ?_
  refine Lst.run rfl rfl (by decide) (Ev.fieldAddr (off' := 0) rfl Try.runUnderlying46 rfl Try.sizeOf3 rfl rfl) ?_
  refine Lst.run rfl rfl (by decide) (Ev.load (i := 0) rfl rfl Try.isAgg3 (v := .int .i64 a0.A) ((Pair.get_A (Get.here _)).off (by rfl))) ?_
  refine Lst.run rfl rfl (by decide) (Ev.load (i := 1) rfl rfl Try.isAgg3 (v := .int .i64 a1) (Get.here _)) ?_
  refine Lst.run rfl rfl (by decide) (Ev.sub rfl rfl) ?_
  obtain ⟨r5, h6, H⟩ := bind_some H
  refine Lst.call1 rfl rfl (by decide) (vs := [.int .i64 a0.A, .int .i64 (0 : Int), .int .i64 (w64 (a1 - (1 : Int)))]) ⟨rfl, rfl, rfl, trivial⟩ Try.call80 (match_in_sim h6 w0 _ M _ (List.Sublist.cons _ (List.Sublist.cons _ (List.Sublist.cons _ hM)))) ?_
  refine Lst.run rfl rfl (by decide) (Ev.not rfl) ?_
  refine Lst.run rfl rfl (by decide) (Ev.move rfl) ?_
  obtain ⟨o9, H, HKo9⟩ := bind_some H
  refine Lst.join (σ := Bool) 7 (fun y10 => [(18, .bool y10)]) (fun y10 => (.blk b3 (enc a0) 46) :: (.blk b_a1 (enc a1) 3) :: (.blk b_a2 (enc a2) 3) :: L) (fun _ y10 => y10 = o9) ?_ ?_
  · rcases Bool.eq_false_or_eq_true (!r5) with hb11 | hb11
    · replace H := ite_t hb11 H
      refine Lst.skip rfl rfl rfl hb11 rfl (by decide) ?_
      refine Lst.skip rfl rfl rfl hb11 rfl (by decide) ?_
      refine Lst.skip rfl rfl rfl hb11 rfl (by decide) ?_
      refine Lst.skip rfl rfl rfl hb11 rfl (by decide) ?_
      refine Lst.skip rfl rfl rfl hb11 rfl (by decide) ?_
      refine Lst.skip rfl rfl rfl hb11 rfl (by decide) ?_
      refine Lst.run rfl rfl (by decide) (Ev.pickT rfl hb11 rfl) ?_
      refine Lst.nil ?_
      exact At.meet true (FLe.refl _) ⟨rfl, trivial⟩ rfl (some_inj H)
    replace H := ite_f hb11 H
    refine Lst.runG rfl rfl rfl hb11 rfl (by decide) (Ev.fieldAddr (off' := 1) rfl Try.runUnderlying46 rfl Try.sizeOf3 rfl rfl) ?_
    refine Lst.runG rfl rfl rfl hb11 rfl (by decide) (Ev.load (i := 0) rfl rfl Try.isAgg3 (v := .int .i64 a0.B) ((Pair.get_B (Get.here _)).off (by rfl))) ?_
    refine Lst.runG rfl rfl rfl hb11 rfl (by decide) (Ev.load (i := 2) rfl rfl Try.isAgg3 (v := .int .i64 a2) (Get.here _)) ?_
    refine Lst.runG rfl rfl rfl hb11 rfl (by decide) (Ev.sub rfl rfl) ?_
    obtain ⟨r12, h13, H⟩ := bind_some H
    refine Lst.call1G rfl rfl rfl hb11 rfl (by decide) (vs := [.int .i64 a0.B, .int .i64 (0 : Int), .int .i64 (w64 (a2 - (1 : Int)))]) ⟨rfl, rfl, rfl, trivial⟩ Try.call80 (match_in_sim h13 w0 _ M _ (List.Sublist.cons _ (List.Sublist.cons _ (List.Sublist.cons _ hM)))) ?_
    refine Lst.runG rfl rfl rfl hb11 rfl (by decide) (Ev.not rfl) ?_
    refine Lst.run rfl rfl (by decide) (Ev.pickF rfl hb11 rfl) ?_
    refine Lst.nil ?_
    exact At.meet (!r12) (FLe.refl _) ⟨rfl, trivial⟩ rfl (some_inj H)
  rintro F16 y10 hF17 hy
  subst hy
  refine Lst.as (e' := [(18, .bool y10)]) (L' := (.blk b3 (enc a0) 46) :: (.blk b_a1 (enc a1) 3) :: (.blk b_a2 (enc a2) 3) :: L) ⟨rfl, trivial⟩ rfl ?_
  replace H := HKo9
  refine Lst.run rfl rfl (by decide) (Ev.assign rfl) ?_
  refine Lst.nil ?_
  refine At.then ?_
  obtain rfl := some_inj H
  refine Cd.ret ?_
  exact At.ret1 rfl (Res.tmp rfl) hF17 (List.Sublist.cons _ (List.Sublist.cons_cons _ (List.Sublist.cons_cons _ (List.Sublist.refl _)))) ⟨rfl, rfl⟩
set_option maxRecDepth 20000 in
theorem slices_IndexFunc_api_Pair_api_Pair_Check_1_sim {a0 : List Pair} {a1_c0 : Int} {a1_c1 : Int} {s_a0 : Sl} {b_a1_c0 : Nat} {b_a1_c1 : Nat} {r : Int} (H : slices_IndexFunc_api_Pair_api_Pair_Check_1 a0 a1_c0 a1_c1 = some r) (w0 : World) (F : Frz) (M L : List Item) (hM : M.Sublist L) (hs_a0 : Rd w0 F M s_a0 a0) : Ok Try.prog w0 84 [Sl.v s_a0, .func (.func 82) #[] #[.pointer (some ⟨b_a1_c0, 0, none⟩), .pointer (some ⟨b_a1_c1, 0, none⟩)]] F ((.blk b_a1_c0 (enc a1_c0) 3) :: (.blk b_a1_c1 (enc a1_c1) 3) :: L) (Is (.int .i64 r) ((.blk b_a1_c0 (enc a1_c0) 3) :: (.blk b_a1_c1 (enc a1_c1) 3) :: L)) := by
  unfold slices_IndexFunc_api_Pair_api_Pair_Check_1 at H
  refine Ok.enter (m := 2) (n := 19) Try.func84 rfl rfl rfl (by decide) ?_
  refine Cd.env (e' := [(0, Sl.v s_a0), (1, .func (.func 82) #[] #[.pointer (some ⟨b_a1_c0, 0, none⟩), .pointer (some ⟨b_a1_c1, 0, none⟩)])]) rfl ?_
  refine Cd.seq ?_
  refine Cd.region ?_
  refine Lst.run rfl rfl (by decide) (Ev.assign rfl) ?_
  refine Lst.nil ?_
  refine At.then ?_
  refine Cd.seq ?_
  refine Cd.seq ?_
  refine Cd.region ?_
  refine Lst.run rfl rfl (by decide) (Ev.move rfl) ?_
  refine Lst.run rfl rfl (by decide) (Ev.lenS (α := Pair) (xs := a0) (by decide) rfl rfl Try.runUnderlying39 (hs_a0.mono (FLe.refl _) (List.Sublist.cons _ (List.Sublist.cons _ hM)))) ?_
  refine Lst.run rfl rfl (by decide) (Ev.move rfl) ?_
  refine Lst.nil ?_
  refine At.then ?_
  refine Cd.block ?_
  refine Cd.bound (Rd.le (α := Pair) (xs := a0) (by decide) (hs_a0.mono (FLe.refl _) (List.Sublist.cons _ (List.Sublist.cons _ hM)))) (fun hN14 => ?_)
  obtain ⟨ol3, H, HKl3⟩ := andThen_some H
  refine Cd.loop (σ := Nat × Nat × Unit) (fun (i3, k3, _u) => [(0, Sl.v s_a0), (1, .func (.func 82) #[] #[.pointer (some ⟨b_a1_c0, 0, none⟩), .pointer (some ⟨b_a1_c1, 0, none⟩)]), (7, .int .i64 (a0.length : Int)), (8, .int .i64 (i3 : Int))]) (fun (i3, k3, _u) => (.blk b_a1_c0 (enc a1_c0) 3) :: (.blk b_a1_c1 (enc a1_c1) 3) :: L) (fun _ => (fun (i3, k3, _u) => rangeM (slices_IndexFunc_api_Pair_api_Pair_Check_1_B0 a0 a1_c0 a1_c1) k3 i3 () = some ol3 ∧ i3 + k3 = a0.length)) (fun (i3, k3, _u) => k3) (0, a0.length, ()) ⟨rfl, rfl, rfl, rfl, trivial⟩ rfl ⟨H, by omega⟩ ?_
  rintro F4 ⟨i3, k3, _u⟩ hF5 ⟨H, hik3⟩
  refine Cd.as (e' := [(0, Sl.v s_a0), (1, .func (.func 82) #[] #[.pointer (some ⟨b_a1_c0, 0, none⟩), .pointer (some ⟨b_a1_c1, 0, none⟩)]), (7, .int .i64 (a0.length : Int)), (8, .int .i64 (i3 : Int))]) (L' := (.blk b_a1_c0 (enc a1_c0) 3) :: (.blk b_a1_c1 (enc a1_c1) 3) :: L) ⟨rfl, rfl, rfl, rfl, trivial⟩ rfl ?_
  rcases k3 with _ | k3
  · have hc3 : decide ((i3 : Int) < (a0.length : Int)) = false := decide_eq_false (by omega)
    replace H := rangeM_end H
    refine Cd.seq ?_
    refine Cd.region ?_
    refine Lst.run rfl rfl (by decide) (Ev.lss rfl rfl) ?_
    refine Lst.nil ?_
    refine At.then ?_
    refine Cd.seq ?_
    refine Cd.condF rfl hc3 ?_
    refine Cd.exit ?_
    refine At.then_exit ?_
    refine At.then_exit ?_
    refine At.in_exit ?_
    subst H
    replace H := HKl3
    refine At.then ?_
    refine Cd.seq ?_
    refine Cd.region ?_
    refine Lst.run rfl rfl (by decide) (Ev.assign rfl) ?_
    refine Lst.nil ?_
    refine At.then ?_
    obtain rfl := some_inj H
    refine Cd.ret ?_
    exact At.ret1 rfl (Res.tmp rfl) hF5 (List.Sublist.cons_cons _ (List.Sublist.cons_cons _ (List.Sublist.refl _))) ⟨rfl, rfl⟩
  have hc3 : decide ((i3 : Int) < (a0.length : Int)) = true := decide_eq_true (by omega)
  obtain ⟨c3, H, hgo3, hbrk3, hret3⟩ := rangeM_go H
  unfold slices_IndexFunc_api_Pair_api_Pair_Check_1_B0 at H
  try dsimp only at H
  refine Cd.seq ?_
  refine Cd.region ?_
  refine Lst.run rfl rfl (by decide) (Ev.lss rfl rfl) ?_
  refine Lst.nil ?_
  refine At.then ?_
  refine Cd.seq ?_
  refine Cd.condT rfl hc3 ?_
  refine Cd.skip ?_
  refine At.then ?_
  refine Cd.seq ?_
  refine Cd.block ?_
  refine Cd.seq ?_
  refine Cd.region ?_
  refine Lst.run rfl rfl (by decide) (Ev.move rfl) ?_
  refine Lst.run rfl rfl (by decide) (Ev.assign rfl) ?_
  refine Lst.nil ?_
  refine At.then ?_
  refine Cd.seq ?_
  refine Cd.region ?_
  refine Lst.run rfl rfl (by decide) (Ev.move rfl) ?_
  refine Lst.run rfl rfl (by decide) (Ev.move rfl) ?_
  refine Lst.run rfl rfl (by decide) (Ev.move rfl) ?_
  obtain ⟨x6, h7, H⟩ := bind_some H
  have g8 := lat_some h7
  refine Lst.run rfl rfl (by decide) (Ev.indexS (α := Pair) (xs := a0) rfl rfl Try.runUnderlying39 Try.sizeOf46 rfl (by decide) (hs_a0.mono hF5 (List.Sublist.cons _ (List.Sublist.cons _ hM))) g8.1 g8.2.1) ?_
  refine Lst.run rfl rfl (by decide) (Ev.loadSA (α := Pair) rfl (hs_a0.mono hF5 (List.Sublist.cons _ (List.Sublist.cons _ hM))) Try.isAgg46 Try.sizeOf46 (ch := enc x6) (Enc.len _) (by decide) ((Get.elemN (s := 2) (x := x6) rfl g8.2.2 (Get.here _)).off (by omega))) ?_
  obtain ⟨r9, h10, H⟩ := bind_some H
  refine Lst.callV1 rfl rfl (by decide) (vs := [.agg (enc x6).toArray]) (cs := [.pointer (some ⟨b_a1_c0, 0, none⟩), .pointer (some ⟨b_a1_c1, 0, none⟩)]) rfl ⟨rfl, trivial⟩ Try.call82 (match_Check_1_sim h10 w0 _ M _ hM) ?_
  refine Lst.nil ?_
  refine At.then ?_
  rcases Bool.eq_false_or_eq_true r9 with hb13 | hb13
  · replace H := ite_t hb13 H
    refine Cd.condT rfl hb13 ?_
    refine Cd.seq ?_
    refine Cd.region ?_
    refine Lst.run rfl rfl (by decide) (Ev.move rfl) ?_
    refine Lst.run rfl rfl (by decide) (Ev.assign rfl) ?_
    refine Lst.nil ?_
    refine At.then ?_
    have H := hret3 _ (some_inj H).symm
    subst H
    replace H := HKl3
    obtain rfl := some_inj H
    refine Cd.ret ?_
    refine At.in_ret ?_
    refine At.then_ret ?_
    refine At.then_ret ?_
    refine At.in_ret ?_
    refine At.then_ret ?_
    exact At.ret1 rfl (Res.tmp rfl) hF5 (List.Sublist.cons_cons _ (List.Sublist.cons_cons _ (List.Sublist.refl _))) ⟨rfl, rfl⟩
  replace H := ite_f hb13 H
  refine Cd.condF rfl hb13 ?_
  refine Cd.skip ?_
  refine At.in_normal ?_
  refine At.then ?_
  refine Cd.region ?_
  refine Lst.run rfl rfl (by decide) (Ev.incr (by omega) rfl rfl) ?_
  refine Lst.run rfl rfl (by decide) (Ev.move rfl) ?_
  refine Lst.nil ?_
  exact At.meet (i3 + 1, k3, ()) hF5 ⟨rfl, rfl, rfl, rfl, trivial⟩ rfl ⟨⟨hgo3 _ (some_inj H).symm, by omega⟩, Nat.lt_succ_self _⟩
set_option maxRecDepth 20000 in
theorem slices_ContainsFunc_api_Pair_api_Pair_Check_1_sim {a0 : List Pair} {a1_c0 : Int} {a1_c1 : Int} {s_a0 : Sl} {b_a1_c0 : Nat} {b_a1_c1 : Nat} {r : Bool} (H : slices_ContainsFunc_api_Pair_api_Pair_Check_1 a0 a1_c0 a1_c1 = some r) (w0 : World) (F : Frz) (M L : List Item) (hM : M.Sublist L) (hs_a0 : Rd w0 F M s_a0 a0) : Ok Try.prog w0 81 [Sl.v s_a0, .func (.func 82) #[] #[.pointer (some ⟨b_a1_c0, 0, none⟩), .pointer (some ⟨b_a1_c1, 0, none⟩)]] F ((.blk b_a1_c0 (enc a1_c0) 3) :: (.blk b_a1_c1 (enc a1_c1) 3) :: L) (Is (.bool r) ((.blk b_a1_c0 (enc a1_c0) 3) :: (.blk b_a1_c1 (enc a1_c1) 3) :: L)) := by
  unfold slices_ContainsFunc_api_Pair_api_Pair_Check_1 at H
  refine Ok.enter (m := 2) (n := 9) Try.func81 rfl rfl rfl (by decide) ?_
  refine Cd.env (e' := [(0, Sl.v s_a0), (1, .func (.func 82) #[] #[.pointer (some ⟨b_a1_c0, 0, none⟩), .pointer (some ⟨b_a1_c1, 0, none⟩)])]) rfl ?_
  refine Cd.seq ?_
  refine Cd.region ?_
  refine Lst.run rfl rfl (by decide) (Ev.assign rfl) ?_
  refine Lst.nil ?_
  refine At.then ?_
  refine Cd.seq ?_
  refine Cd.region ?_
  refine Lst.run rfl rfl (by decide) (Ev.move rfl) ?_
  refine Lst.run rfl rfl (by decide) (Ev.move rfl) ?_
  obtain ⟨r3, h4, H⟩ := bind_some H
  refine Lst.call1 rfl rfl (by decide) (vs := [Sl.v s_a0, .func (.func 82) #[] #[.pointer (some ⟨b_a1_c0, 0, none⟩), .pointer (some ⟨b_a1_c1, 0, none⟩)]]) ⟨rfl, rfl, trivial⟩ Try.call84 (slices_IndexFunc_api_Pair_api_Pair_Check_1_sim h4 w0 _ M _ hM (hs_a0.mono (FLe.refl _) (List.Sublist.refl _))) ?_
  refine Lst.run rfl rfl (by decide) (Ev.geq rfl rfl) ?_
  refine Lst.run rfl rfl (by decide) (Ev.assign rfl) ?_
  refine Lst.nil ?_
  refine At.then ?_
  obtain rfl := some_inj H
  refine Cd.ret ?_
  exact At.ret1 rfl (Res.tmp rfl) (FLe.refl _) (List.Sublist.cons_cons _ (List.Sublist.cons_cons _ (List.Sublist.refl _))) ⟨rfl, rfl⟩
set_option maxRecDepth 20000 in
theorem match_Check_sim {a0 : Int} {a1 : Int} {a2 : List Pair} {s_a2 : Sl} {r : Int} (H : match_Check a0 a1 a2 = some r) (w0 : World) (F : Frz) (M L : List Item) (hM : M.Sublist L) (hs_a2 : Rd w0 F M s_a2 a2) : Ok Try.prog w0 75 [.int .i64 a0, .int .i64 a1, Sl.v s_a2] F (L) (Is (.int .i64 r) (L)) := by
  unfold match_Check at H
  refine Ok.enter (m := 3) (n := 24) Try.func75 rfl rfl rfl (by decide) ?_
  refine Cd.env (e' := [(0, .int .i64 a0), (1, .int .i64 a1), (2, Sl.v s_a2)]) rfl ?_
  refine Cd.seq ?_
  refine Cd.region ?_
  refine Lst.box rfl rfl (by decide) rfl (cs := enc a0) rfl (fun b1 => ?_)
  refine Lst.box rfl rfl (by decide) rfl (cs := enc a1) rfl (fun b3 => ?_)
  refine Lst.run rfl rfl (by decide) (Ev.assign rfl) ?_
  refine Lst.nil ?_
  refine At.then ?_
  refine Cd.seq ?_
  refine Cd.block ?_
  refine Cd.seq ?_
  refine Cd.region ?_
  refine Lst.run rfl rfl (by decide) (Ev.load (i := 1) rfl rfl Try.isAgg3 (v := .int .i64 a0) (Get.here _)) ?_
  obtain ⟨r5, h6, H⟩ := bind_some H
  refine Lst.call1 rfl rfl (by decide) (vs := [.int .i64 a0, .int .i64 (0 : Int), .int .i64 (40 : Int)]) ⟨rfl, rfl, rfl, trivial⟩ Try.call80 (match_in_sim h6 w0 _ M _ (List.Sublist.cons _ (List.Sublist.cons _ hM))) ?_
  refine Lst.run rfl rfl (by decide) (Ev.not rfl) ?_
  refine Lst.run rfl rfl (by decide) (Ev.move rfl) ?_
  obtain ⟨o9, H, HKo9⟩ := bind_some H
  refine Lst.join (σ := Bool) 4 (fun y10 => [(2, Sl.v s_a2), (3, .pointer (some ⟨b1, 0, none⟩)), (4, .pointer (some ⟨b3, 0, none⟩)), (15, .bool y10)]) (fun y10 => (.blk b3 (enc a1) 3) :: (.blk b1 (enc a0) 3) :: L) (fun _ y10 => y10 = o9) ?_ ?_
  · rcases Bool.eq_false_or_eq_true (!r5) with hb11 | hb11
    · replace H := ite_t hb11 H
      refine Lst.skip rfl rfl rfl hb11 rfl (by decide) ?_
      refine Lst.skip rfl rfl rfl hb11 rfl (by decide) ?_
      refine Lst.skip rfl rfl rfl hb11 rfl (by decide) ?_
      refine Lst.run rfl rfl (by decide) (Ev.pickT rfl hb11 rfl) ?_
      refine Lst.nil ?_
      exact At.meet true (FLe.refl _) ⟨rfl, rfl, rfl, rfl, trivial⟩ rfl (some_inj H)
    replace H := ite_f hb11 H
    refine Lst.runG rfl rfl rfl hb11 rfl (by decide) (Ev.load (i := 0) rfl rfl Try.isAgg3 (v := .int .i64 a1) (Get.here _)) ?_
    obtain ⟨r12, h13, H⟩ := bind_some H
    refine Lst.call1G rfl rfl rfl hb11 rfl (by decide) (vs := [.int .i64 a1, .int .i64 (0 : Int), .int .i64 (40 : Int)]) ⟨rfl, rfl, rfl, trivial⟩ Try.call80 (match_in_sim h13 w0 _ M _ (List.Sublist.cons _ (List.Sublist.cons _ hM))) ?_
    refine Lst.runG rfl rfl rfl hb11 rfl (by decide) (Ev.not rfl) ?_
    refine Lst.run rfl rfl (by decide) (Ev.pickF rfl hb11 rfl) ?_
    refine Lst.nil ?_
    exact At.meet (!r12) (FLe.refl _) ⟨rfl, rfl, rfl, rfl, trivial⟩ rfl (some_inj H)
  rintro F16 y10 hF17 hy
  subst hy
  refine Lst.as (e' := [(2, Sl.v s_a2), (3, .pointer (some ⟨b1, 0, none⟩)), (4, .pointer (some ⟨b3, 0, none⟩)), (15, .bool y10)]) (L' := (.blk b3 (enc a1) 3) :: (.blk b1 (enc a0) 3) :: L) ⟨rfl, rfl, rfl, rfl, trivial⟩ rfl ?_
  replace H := HKo9
  refine Lst.run rfl rfl (by decide) (Ev.assign rfl) ?_
  refine Lst.nil ?_
  refine At.then ?_
  rcases Bool.eq_false_or_eq_true y10 with hb18 | hb18
  · replace H := ite_t hb18 H
    refine Cd.condT rfl hb18 ?_
    refine Cd.seq ?_
    refine Cd.region ?_
    refine Lst.run rfl rfl (by decide) (Ev.assign rfl) ?_
    refine Lst.nil ?_
    refine At.then ?_
    obtain rfl := some_inj H
    refine Cd.ret ?_
    refine At.in_ret ?_
    refine At.then_ret ?_
    exact At.ret1 rfl (Res.tmp rfl) hF17 (List.Sublist.cons _ (List.Sublist.cons _ (List.Sublist.refl _))) ⟨rfl, rfl⟩
  replace H := ite_f hb18 H
  refine Cd.condF rfl hb18 ?_
  refine Cd.seq ?_
  refine Cd.region ?_
  refine Lst.run rfl rfl (by decide) (Ev.move rfl) ?_
  refine Lst.run rfl rfl (by decide) (Ev.lenS (α := Pair) (xs := a2) (by decide) rfl rfl Try.runUnderlying39 (hs_a2.mono hF17 (List.Sublist.cons _ (List.Sublist.cons _ hM)))) ?_
  refine Lst.run rfl rfl (by decide) (Ev.gtr rfl rfl) ?_
  refine Lst.run rfl rfl (by decide) (Ev.assign rfl) ?_
  refine Lst.nil ?_
  refine At.then ?_
  rcases Bool.eq_false_or_eq_true (decide ((a2.length : Int) > (600 : Int))) with hb19 | hb19
  · replace H := ite_t hb19 H
    refine Cd.condT rfl hb19 ?_
    refine Cd.seq ?_
    refine Cd.region ?_
    refine Lst.run rfl rfl (by decide) (Ev.assign rfl) ?_
    refine Lst.nil ?_
    refine At.then ?_
    obtain rfl := some_inj H
    refine Cd.ret ?_
    refine At.in_ret ?_
    refine At.then_ret ?_
    exact At.ret1 rfl (Res.tmp rfl) hF17 (List.Sublist.cons _ (List.Sublist.cons _ (List.Sublist.refl _))) ⟨rfl, rfl⟩
  replace H := ite_f hb19 H
  refine Cd.condF rfl hb19 ?_
  refine Cd.seq ?_
  refine Cd.region ?_
  refine Lst.run rfl rfl (by decide) (Ev.move rfl) ?_
  refine Lst.run rfl rfl (by decide) (Ev.makeFunc (us := []) (vs := [.pointer (some ⟨b1, 0, none⟩), .pointer (some ⟨b3, 0, none⟩)]) trivial ⟨rfl, rfl, trivial⟩) ?_
  obtain ⟨r20, h21, H⟩ := bind_some H
  refine Lst.front (i := 1) rfl (L' := (.blk b1 (enc a0) 3) :: (.blk b3 (enc a1) 3) :: L) rfl ?_
  refine Lst.call1 rfl rfl (by decide) (vs := [Sl.v s_a2, .func (.func 82) #[] #[.pointer (some ⟨b1, 0, none⟩), .pointer (some ⟨b3, 0, none⟩)]]) ⟨rfl, rfl, trivial⟩ Try.call81 (slices_ContainsFunc_api_Pair_api_Pair_Check_1_sim h21 w0 _ M _ hM (hs_a2.mono hF17 (List.Sublist.refl _))) ?_
  refine Lst.run rfl rfl (by decide) (Ev.assign rfl) ?_
  refine Lst.nil ?_
  refine At.then ?_
  rcases Bool.eq_false_or_eq_true r20 with hb24 | hb24
  · replace H := ite_t hb24 H
    refine Cd.condT rfl hb24 ?_
    refine Cd.seq ?_
    refine Cd.region ?_
    refine Lst.run rfl rfl (by decide) (Ev.assign rfl) ?_
    refine Lst.nil ?_
    refine At.then ?_
    obtain rfl := some_inj H
    refine Cd.ret ?_
    refine At.in_ret ?_
    refine At.then_ret ?_
    exact At.ret1 rfl (Res.tmp rfl) hF17 (List.Sublist.cons _ (List.Sublist.cons _ (List.Sublist.refl _))) ⟨rfl, rfl⟩
  replace H := ite_f hb24 H
  refine Cd.condF rfl hb24 ?_
  refine Cd.skip ?_
  refine At.in_normal ?_
  refine At.then ?_
  refine Cd.seq ?_
  refine Cd.region ?_
  refine Lst.run rfl rfl (by decide) (Ev.assign rfl) ?_
  refine Lst.nil ?_
  refine At.then ?_
  obtain rfl := some_inj H
  refine Cd.ret ?_
  exact At.ret1 rfl (Res.tmp rfl) hF17 (List.Sublist.cons _ (List.Sublist.cons _ (List.Sublist.refl _))) ⟨rfl, rfl⟩
set_option maxRecDepth 20000 in
theorem poset_closed_sim {a0 : Poset} {s_a0_1 : Sl} {r : (Vector (Vector Bool 20) 20)} (H : poset_closed a0 = some r) (w0 : World) (F : Frz) (M L : List Item) (hM : M.Sublist L) (hs_a0_1 : Rd w0 F M s_a0_1 a0.Pairs) : Ok Try.prog w0 76 [.agg (enc (PosetR.mk a0 s_a0_1)).toArray] F (L) (Is (.agg (enc r).toArray) (L)) := by
  unfold poset_closed at H
  refine Ok.enter (m := 1) (n := 65) Try.func76 rfl rfl rfl (by decide) ?_
  refine Cd.env (e' := [(0, .agg (enc (PosetR.mk a0 s_a0_1)).toArray)]) rfl ?_
  refine Cd.seq ?_
  refine Cd.region ?_
  refine Lst.box rfl rfl (by decide) rfl (cs := enc (PosetR.mk a0 s_a0_1)) rfl (fun b1 => ?_)
  refine Lst.alloc (z := .agg (enc (Vector.replicate 20 (Vector.replicate 20 false))).toArray) (cs := enc (Vector.replicate 20 (Vector.replicate 20 false))) rfl rfl (by decide) (fun _ => by kernel_rfl) rfl (fun b3 => ?_)
  refine Lst.nil ?_
  refine At.then ?_
  refine Cd.seq ?_
  refine Cd.region ?_
  refine Lst.alloc (z := .agg (enc (Vector.replicate 20 (Vector.replicate 20 false))).toArray) (cs := enc (Vector.replicate 20 (Vector.replicate 20 false))) rfl rfl (by decide) (fun _ => by kernel_rfl) rfl (fun b5 => ?_)
  refine Lst.nil ?_
  refine At.then ?_
  refine Cd.seq ?_
  refine Cd.seq ?_
  refine Cd.region ?_
  refine Lst.run rfl rfl (by decide) (Ev.fieldAddr (off' := 1) rfl Try.runUnderlying71 rfl Try.sizeOf39 rfl rfl) ?_
  refine Lst.run rfl rfl (by decide) (Ev.load (i := 2) rfl rfl Try.isAgg39 (v := Sl.v s_a0_1) ((PosetR.get_Pairs (Get.here _)).off (by rfl))) ?_
  refine Lst.run rfl rfl (by decide) (Ev.lenS (α := Pair) (xs := a0.Pairs) (by decide) rfl rfl Try.runUnderlying39 (hs_a0_1.mono (FLe.refl _) (List.Sublist.cons _ (List.Sublist.cons _ (List.Sublist.cons _ hM))))) ?_
  refine Lst.run rfl rfl (by decide) (Ev.move rfl) ?_
  refine Lst.nil ?_
  refine At.then ?_
  refine Cd.block ?_
  refine Cd.bound (Rd.le (α := Pair) (xs := a0.Pairs) (by decide) (hs_a0_1.mono (FLe.refl _) (List.Sublist.cons _ (List.Sublist.cons _ (List.Sublist.cons _ hM))))) (fun hN74 => ?_)
  obtain ⟨ol7, H, HKl7⟩ := bind_some H
  refine Cd.loop (σ := Nat × Nat × (Vector (Vector Bool 20) 20)) (fun (i7, k7, y8) => [(1, .pointer (some ⟨b1, 0, none⟩)), (2, .pointer (some ⟨b3, 0, none⟩)), (3, .pointer (some ⟨b5, 0, none⟩)), (10, Sl.v s_a0_1), (11, .int .i64 (a0.Pairs.length : Int)), (12, .int .i64 (i7 : Int))]) (fun (i7, k7, y8) => (.blk b5 (enc y8) 109) :: (.blk b3 (enc (Vector.replicate 20 (Vector.replicate 20 false))) 109) :: (.blk b1 (enc (PosetR.mk a0 s_a0_1)) 71) :: L) (fun _ => (fun (i7, k7, y8) => rangeF (poset_closed_B0 a0) k7 i7 y8 = some ol7 ∧ i7 + k7 = a0.Pairs.length)) (fun (i7, k7, y8) => k7) (0, a0.Pairs.length, (Vector.replicate 20 (Vector.replicate 20 false))) ⟨rfl, rfl, rfl, rfl, rfl, rfl, trivial⟩ rfl ⟨H, by omega⟩ ?_
  rintro F9 ⟨i7, k7, y8⟩ hF10 ⟨H, hik7⟩
  refine Cd.as (e' := [(1, .pointer (some ⟨b1, 0, none⟩)), (2, .pointer (some ⟨b3, 0, none⟩)), (3, .pointer (some ⟨b5, 0, none⟩)), (10, Sl.v s_a0_1), (11, .int .i64 (a0.Pairs.length : Int)), (12, .int .i64 (i7 : Int))]) (L' := (.blk b5 (enc y8) 109) :: (.blk b3 (enc (Vector.replicate 20 (Vector.replicate 20 false))) 109) :: (.blk b1 (enc (PosetR.mk a0 s_a0_1)) 71) :: L) ⟨rfl, rfl, rfl, rfl, rfl, rfl, trivial⟩ rfl ?_
  rcases k7 with _ | k7
  · have hc7 : decide ((i7 : Int) < (a0.Pairs.length : Int)) = false := decide_eq_false (by omega)
    replace H := rangeF_end H
    refine Cd.seq ?_
    refine Cd.region ?_
    refine Lst.run rfl rfl (by decide) (Ev.lss rfl rfl) ?_
    refine Lst.nil ?_
    refine At.then ?_
    refine Cd.seq ?_
    refine Cd.condF rfl hc7 ?_
    refine Cd.exit ?_
    refine At.then_exit ?_
    refine At.then_exit ?_
    refine At.in_exit ?_
    subst H
    replace H := HKl7
    refine At.then ?_
    refine Cd.seq ?_
    refine Cd.seq ?_
    refine Cd.region ?_
    refine Lst.run rfl rfl (by decide) (Ev.fieldAddr (off' := 0) rfl Try.runUnderlying71 rfl Try.sizeOf3 rfl rfl) ?_
    refine Lst.run rfl rfl (by decide) (Ev.load (i := 2) rfl rfl Try.isAgg3 (v := .int .i64 a0.N) ((PosetR.get_N (Get.here _)).off (by rfl))) ?_
    refine Lst.run rfl rfl (by decide) (Ev.move rfl) ?_
    refine Lst.nil ?_
    refine At.then ?_
    refine Cd.block ?_
    obtain ⟨nn28, hN73, H⟩ := bind_some H
    replace hN73 := upTo_some hN73
    obtain ⟨ol24, H, HKl24⟩ := bind_some H
    refine Cd.loop (σ := Nat × Nat × (Vector (Vector Bool 20) 20)) (fun (i24, k24, y25) => [(1, .pointer (some ⟨b1, 0, none⟩)), (2, .pointer (some ⟨b3, 0, none⟩)), (3, .pointer (some ⟨b5, 0, none⟩)), (24, .int .i64 a0.N), (25, .int .i64 (i24 : Int))]) (fun (i24, k24, y25) => (.blk b5 (enc y25) 109) :: (.blk b3 (enc (Vector.replicate 20 (Vector.replicate 20 false))) 109) :: (.blk b1 (enc (PosetR.mk a0 s_a0_1)) 71) :: L) (fun _ => (fun (i24, k24, y25) => rangeF (poset_closed_B2 a0) k24 i24 y25 = some ol24 ∧ i24 + k24 = nn28)) (fun (i24, k24, y25) => k24) (0, nn28, y8) ⟨rfl, rfl, rfl, rfl, rfl, trivial⟩ rfl ⟨H, by omega⟩ ?_
    rintro F26 ⟨i24, k24, y25⟩ hF27 ⟨H, hik24⟩
    refine Cd.as (e' := [(1, .pointer (some ⟨b1, 0, none⟩)), (2, .pointer (some ⟨b3, 0, none⟩)), (3, .pointer (some ⟨b5, 0, none⟩)), (24, .int .i64 a0.N), (25, .int .i64 (i24 : Int))]) (L' := (.blk b5 (enc y25) 109) :: (.blk b3 (enc (Vector.replicate 20 (Vector.replicate 20 false))) 109) :: (.blk b1 (enc (PosetR.mk a0 s_a0_1)) 71) :: L) ⟨rfl, rfl, rfl, rfl, rfl, trivial⟩ rfl ?_
    rcases k24 with _ | k24
    · have hc24 : decide ((i24 : Int) < a0.N) = false := decide_eq_false (by omega)
      replace H := rangeF_end H
      refine Cd.seq ?_
      refine Cd.region ?_
      refine Lst.run rfl rfl (by decide) (Ev.lss rfl rfl) ?_
      refine Lst.nil ?_
      refine At.then ?_
      refine Cd.seq ?_
      refine Cd.condF rfl hc24 ?_
      refine Cd.exit ?_
      refine At.then_exit ?_
      refine At.then_exit ?_
      refine At.in_exit ?_
      subst H
      replace H := HKl24
      refine At.then ?_
      refine Cd.seq ?_
      refine Cd.region ?_
      refine Lst.run rfl rfl (by decide) (Ev.loadA (i := 0) rfl rfl Try.isAgg109 Try.sizeOf109 (ch := enc y25) (Enc.len _) (Get.here _)) ?_
      refine Lst.store (i := 1) rfl rfl rfl rfl rfl Try.sizeOf109 (vs := enc y25) rfl (Enc.len _) (Enc.one _) (cs' := enc y25) (Put.here ((Enc.len _).trans (Enc.len _).symm)) (L' := (.blk b5 (enc y25) 109) :: (.blk b3 (enc y25) 109) :: (.blk b1 (enc (PosetR.mk a0 s_a0_1)) 71) :: L) rfl ?_
      refine Lst.nil ?_
      refine At.then ?_
      obtain rfl := some_inj H
      refine Cd.ret ?_
      exact At.ret1 rfl (Res.cellA (i := 1) rfl rfl Try.isAgg109 Try.sizeOf109 (Enc.len _)) (FLe.trans hF10 hF27) (List.Sublist.cons _ (List.Sublist.cons _ (List.Sublist.cons _ (List.Sublist.refl _)))) ⟨rfl, rfl⟩
    have hc24 : decide ((i24 : Int) < a0.N) = true := decide_eq_true (by omega)
    obtain ⟨c24, H, hgo24⟩ := rangeF_go H
    unfold poset_closed_B2 at H
    try dsimp only at H
    refine Cd.seq ?_
    refine Cd.region ?_
    refine Lst.run rfl rfl (by decide) (Ev.lss rfl rfl) ?_
    refine Lst.nil ?_
    refine At.then ?_
    refine Cd.seq ?_
    refine Cd.condT rfl hc24 ?_
    refine Cd.skip ?_
    refine At.then ?_
    refine Cd.seq ?_
    refine Cd.block ?_
    refine Cd.seq ?_
    refine Cd.region ?_
    refine Lst.run rfl rfl (by decide) (Ev.move rfl) ?_
    refine Lst.run rfl rfl (by decide) (Ev.assign rfl) ?_
    refine Lst.nil ?_
    refine At.then ?_
    refine Cd.seq ?_
    refine Cd.region ?_
    refine Lst.run rfl rfl (by decide) (Ev.fieldAddr (off' := 0) rfl Try.runUnderlying71 rfl Try.sizeOf3 rfl rfl) ?_
    refine Lst.run rfl rfl (by decide) (Ev.load (i := 2) rfl rfl Try.isAgg3 (v := .int .i64 a0.N) ((PosetR.get_N (Get.here _)).off (by rfl))) ?_
    refine Lst.run rfl rfl (by decide) (Ev.move rfl) ?_
    refine Lst.nil ?_
    refine At.then ?_
    refine Cd.block ?_
    obtain ⟨nn33, hN72, H⟩ := bind_some H
    replace hN72 := upTo_some hN72
    obtain ⟨ol29, H, HKl29⟩ := bind_some H
    refine Cd.loop (σ := Nat × Nat × (Vector (Vector Bool 20) 20)) (fun (i29, k29, y30) => [(1, .pointer (some ⟨b1, 0, none⟩)), (2, .pointer (some ⟨b3, 0, none⟩)), (3, .pointer (some ⟨b5, 0, none⟩)), (6, .int .i64 (i24 : Int)), (24, .int .i64 a0.N), (25, .int .i64 (i24 : Int)), (29, .int .i64 a0.N), (30, .int .i64 (i29 : Int))]) (fun (i29, k29, y30) => (.blk b5 (enc y30) 109) :: (.blk b3 (enc (Vector.replicate 20 (Vector.replicate 20 false))) 109) :: (.blk b1 (enc (PosetR.mk a0 s_a0_1)) 71) :: L) (fun _ => (fun (i29, k29, y30) => rangeF (poset_closed_B4 a0 i24) k29 i29 y30 = some ol29 ∧ i29 + k29 = nn33)) (fun (i29, k29, y30) => k29) (0, nn33, y25) ⟨rfl, rfl, rfl, rfl, rfl, rfl, rfl, rfl, trivial⟩ rfl ⟨H, by omega⟩ ?_
    rintro F31 ⟨i29, k29, y30⟩ hF32 ⟨H, hik29⟩
    refine Cd.as (e' := [(1, .pointer (some ⟨b1, 0, none⟩)), (2, .pointer (some ⟨b3, 0, none⟩)), (3, .pointer (some ⟨b5, 0, none⟩)), (6, .int .i64 (i24 : Int)), (24, .int .i64 a0.N), (25, .int .i64 (i24 : Int)), (29, .int .i64 a0.N), (30, .int .i64 (i29 : Int))]) (L' := (.blk b5 (enc y30) 109) :: (.blk b3 (enc (Vector.replicate 20 (Vector.replicate 20 false))) 109) :: (.blk b1 (enc (PosetR.mk a0 s_a0_1)) 71) :: L) ⟨rfl, rfl, rfl, rfl, rfl, rfl, rfl, rfl, trivial⟩ rfl ?_
    rcases k29 with _ | k29
    · have hc29 : decide ((i29 : Int) < a0.N) = false := decide_eq_false (by omega)
      replace H := rangeF_end H
      refine Cd.seq ?_
      refine Cd.region ?_
      refine Lst.run rfl rfl (by decide) (Ev.lss rfl rfl) ?_
      refine Lst.nil ?_
      refine At.then ?_
      refine Cd.seq ?_
      refine Cd.condF rfl hc29 ?_
      refine Cd.exit ?_
      refine At.then_exit ?_
      refine At.then_exit ?_
      refine At.in_exit ?_
      subst H
      replace H := HKl29
      refine At.in_normal ?_
      refine At.then ?_
      refine Cd.region ?_
      refine Lst.run rfl rfl (by decide) (Ev.incr (by omega) rfl rfl) ?_
      refine Lst.run rfl rfl (by decide) (Ev.move rfl) ?_
      refine Lst.nil ?_
      exact At.meet (i24 + 1, k24, y30) (FLe.trans hF27 hF32) ⟨rfl, rfl, rfl, rfl, rfl, trivial⟩ rfl ⟨⟨hgo24 _ (some_inj H).symm, by omega⟩, Nat.lt_succ_self _⟩
    have hc29 : decide ((i29 : Int) < a0.N) = true := decide_eq_true (by omega)
    obtain ⟨c29, H, hgo29⟩ := rangeF_go H
    unfold poset_closed_B4 at H
    try dsimp only at H
    refine Cd.seq ?_
    refine Cd.region ?_
    refine Lst.run rfl rfl (by decide) (Ev.lss rfl rfl) ?_
    refine Lst.nil ?_
    refine At.then ?_
    refine Cd.seq ?_
    refine Cd.condT rfl hc29 ?_
    refine Cd.skip ?_
    refine At.then ?_
    refine Cd.seq ?_
    refine Cd.block ?_
    refine Cd.seq ?_
    refine Cd.region ?_
    refine Lst.run rfl rfl (by decide) (Ev.move rfl) ?_
    refine Lst.run rfl rfl (by decide) (Ev.assign rfl) ?_
    refine Lst.nil ?_
    refine At.then ?_
    refine Cd.seq ?_
    refine Cd.region ?_
    refine Lst.run rfl rfl (by decide) (Ev.fieldAddr (off' := 0) rfl Try.runUnderlying71 rfl Try.sizeOf3 rfl rfl) ?_
    refine Lst.run rfl rfl (by decide) (Ev.load (i := 2) rfl rfl Try.isAgg3 (v := .int .i64 a0.N) ((PosetR.get_N (Get.here _)).off (by rfl))) ?_
    refine Lst.run rfl rfl (by decide) (Ev.move rfl) ?_
    refine Lst.nil ?_
    refine At.then ?_
    refine Cd.block ?_
    obtain ⟨nn38, hN71, H⟩ := bind_some H
    replace hN71 := upTo_some hN71
    obtain ⟨ol34, H, HKl34⟩ := bind_some H
    refine Cd.loop (σ := Nat × Nat × (Vector (Vector Bool 20) 20)) (fun (i34, k34, y35) => [(1, .pointer (some ⟨b1, 0, none⟩)), (2, .pointer (some ⟨b3, 0, none⟩)), (3, .pointer (some ⟨b5, 0, none⟩)), (6, .int .i64 (i24 : Int)), (7, .int .i64 (i29 : Int)), (24, .int .i64 a0.N), (25, .int .i64 (i24 : Int)), (29, .int .i64 a0.N), (30, .int .i64 (i29 : Int)), (34, .int .i64 a0.N), (35, .int .i64 (i34 : Int))]) (fun (i34, k34, y35) => (.blk b5 (enc y35) 109) :: (.blk b3 (enc (Vector.replicate 20 (Vector.replicate 20 false))) 109) :: (.blk b1 (enc (PosetR.mk a0 s_a0_1)) 71) :: L) (fun _ => (fun (i34, k34, y35) => rangeF (poset_closed_B6 i24 i29) k34 i34 y35 = some ol34 ∧ i34 + k34 = nn38)) (fun (i34, k34, y35) => k34) (0, nn38, y30) ⟨rfl, rfl, rfl, rfl, rfl, rfl, rfl, rfl, rfl, rfl, rfl, trivial⟩ rfl ⟨H, by omega⟩ ?_
    rintro F36 ⟨i34, k34, y35⟩ hF37 ⟨H, hik34⟩
    refine Cd.as (e' := [(1, .pointer (some ⟨b1, 0, none⟩)), (2, .pointer (some ⟨b3, 0, none⟩)), (3, .pointer (some ⟨b5, 0, none⟩)), (6, .int .i64 (i24 : Int)), (7, .int .i64 (i29 : Int)), (24, .int .i64 a0.N), (25, .int .i64 (i24 : Int)), (29, .int .i64 a0.N), (30, .int .i64 (i29 : Int)), (34, .int .i64 a0.N), (35, .int .i64 (i34 : Int))]) (L' := (.blk b5 (enc y35) 109) :: (.blk b3 (enc (Vector.replicate 20 (Vector.replicate 20 false))) 109) :: (.blk b1 (enc (PosetR.mk a0 s_a0_1)) 71) :: L) ⟨rfl, rfl, rfl, rfl, rfl, rfl, rfl, rfl, rfl, rfl, rfl, trivial⟩ rfl ?_
    rcases k34 with _ | k34
    · have hc34 : decide ((i34 : Int) < a0.N) = false := decide_eq_false (by omega)
      replace H := rangeF_end H
      refine Cd.seq ?_
      refine Cd.region ?_
      refine Lst.run rfl rfl (by decide) (Ev.lss rfl rfl) ?_
      refine Lst.nil ?_
      refine At.then ?_
      refine Cd.seq ?_
      refine Cd.condF rfl hc34 ?_
      refine Cd.exit ?_
      refine At.then_exit ?_
      refine At.then_exit ?_
      refine At.in_exit ?_
      subst H
      replace H := HKl34
      refine At.in_normal ?_
      refine At.then ?_
      refine Cd.region ?_
      refine Lst.run rfl rfl (by decide) (Ev.incr (by omega) rfl rfl) ?_
      refine Lst.run rfl rfl (by decide) (Ev.move rfl) ?_
      refine Lst.nil ?_
      exact At.meet (i29 + 1, k29, y35) (FLe.trans hF32 hF37) ⟨rfl, rfl, rfl, rfl, rfl, rfl, rfl, rfl, trivial⟩ rfl ⟨⟨hgo29 _ (some_inj H).symm, by omega⟩, Nat.lt_succ_self _⟩
    have hc34 : decide ((i34 : Int) < a0.N) = true := decide_eq_true (by omega)
    obtain ⟨c34, H, hgo34⟩ := rangeF_go H
    unfold poset_closed_B6 at H
    try dsimp only at H
    refine Cd.seq ?_
    refine Cd.region ?_
    refine Lst.run rfl rfl (by decide) (Ev.lss rfl rfl) ?_
    refine Lst.nil ?_
    refine At.then ?_
    refine Cd.seq ?_
    refine Cd.condT rfl hc34 ?_
    refine Cd.skip ?_
    refine At.then ?_
    refine Cd.seq ?_
    refine Cd.block ?_
    refine Cd.seq ?_
    refine Cd.region ?_
    refine Lst.run rfl rfl (by decide) (Ev.move rfl) ?_
    refine Lst.run rfl rfl (by decide) (Ev.assign rfl) ?_
    refine Lst.nil ?_
    refine At.then ?_
    refine Cd.tail 23 (by kernel_rfl) (by kernel_rfl) ?_
    refine Qt.run rfl rfl (by decide) (Ev.move rfl) ?_
    refine Qt.run rfl rfl (by decide) (Ev.move rfl) ?_
    refine Qt.run rfl rfl (by decide) (Ev.move rfl) ?_
    refine Qt.run rfl rfl (by decide) (Ev.move rfl) ?_
    obtain ⟨x39, h40, H⟩ := bind_some H
    have g41 := vat_some h40
    refine Qt.run rfl rfl (by decide) (Ev.indexAddr (off' := 0 + (i29 : Int).toNat * 20) rfl rfl Try.runUnderlying109 Try.sizeOf107 g41.1 g41.2.1 rfl) ?_
    obtain ⟨x42, h43, H⟩ := bind_some H
    have g44 := vat_some h43
    refine Qt.run rfl rfl (by decide) (Ev.indexAddr (off' := 0 + (i29 : Int).toNat * 20 + (i34 : Int).toNat * 1) rfl rfl Try.runUnderlying107 Try.sizeOf4 g44.1 g44.2.1 rfl) ?_
    refine Qt.run rfl rfl (by decide) (Ev.load (i := 0) rfl rfl Try.isAgg4 (v := .bool x42) ((Get.vecN (s := 20) (x := x39) rfl g41.2.2 (Get.vecN (s := 1) (x := x42) rfl g44.2.2 (Get.here _))).off (by omega))) ?_
    refine Qt.run rfl rfl (by decide) (Ev.move rfl) ?_
    obtain ⟨o45, H, HKo45⟩ := bind_some H
    refine Qt.join (σ := Bool) 13 (fun y46 => [(1, .pointer (some ⟨b1, 0, none⟩)), (2, .pointer (some ⟨b3, 0, none⟩)), (3, .pointer (some ⟨b5, 0, none⟩)), (6, .int .i64 (i24 : Int)), (7, .int .i64 (i29 : Int)), (24, .int .i64 a0.N), (25, .int .i64 (i24 : Int)), (29, .int .i64 a0.N), (30, .int .i64 (i29 : Int)), (34, .int .i64 a0.N), (35, .int .i64 (i34 : Int)), (38, .int .i64 (i29 : Int)), (39, .int .i64 (i34 : Int)), (58, .bool y46)]) (fun y46 => y46 = o45) ?_ ?_
    · rcases Bool.eq_false_or_eq_true x42 with hb47 | hb47
      · replace H := ite_t hb47 H
        refine Qt.skip rfl rfl rfl hb47 rfl (by decide) ?_
        refine Qt.skip rfl rfl rfl hb47 rfl (by decide) ?_
        refine Qt.skip rfl rfl rfl hb47 rfl (by decide) ?_
        refine Qt.skip rfl rfl rfl hb47 rfl (by decide) ?_
        refine Qt.skip rfl rfl rfl hb47 rfl (by decide) ?_
        refine Qt.skip rfl rfl rfl hb47 rfl (by decide) ?_
        refine Qt.skipU rfl rfl rfl rfl (by decide) ?_
        refine Qt.skipU rfl rfl rfl rfl (by decide) ?_
        refine Qt.skipU rfl rfl rfl rfl (by decide) ?_
        refine Qt.skipU rfl rfl rfl rfl (by decide) ?_
        refine Qt.skipU rfl rfl rfl rfl (by decide) ?_
        refine Qt.skip rfl rfl rfl hb47 rfl (by decide) ?_
        refine Qt.run rfl rfl (by decide) (Ev.pickT rfl hb47 rfl) ?_
        exact Qt.meet true ⟨rfl, rfl, rfl, rfl, rfl, rfl, rfl, rfl, rfl, rfl, rfl, rfl, rfl, rfl, trivial⟩ (some_inj H)
      replace H := ite_f hb47 H
      refine Qt.runG rfl rfl rfl hb47 rfl (by decide) (Ev.move rfl) ?_
      refine Qt.runG rfl rfl rfl hb47 rfl (by decide) (Ev.move rfl) ?_
      obtain ⟨x48, h49, H⟩ := bind_some H
      have g50 := vat_some h49
      refine Qt.runG rfl rfl rfl hb47 rfl (by decide) (Ev.indexAddr (off' := 0 + (i29 : Int).toNat * 20) rfl rfl Try.runUnderlying109 Try.sizeOf107 g50.1 g50.2.1 rfl) ?_
      obtain ⟨x51, h52, H⟩ := bind_some H
      have g53 := vat_some h52
      refine Qt.runG rfl rfl rfl hb47 rfl (by decide) (Ev.indexAddr (off' := 0 + (i29 : Int).toNat * 20 + (i24 : Int).toNat * 1) rfl rfl Try.runUnderlying107 Try.sizeOf4 g53.1 g53.2.1 rfl) ?_
      refine Qt.runG rfl rfl rfl hb47 rfl (by decide) (Ev.load (i := 0) rfl rfl Try.isAgg4 (v := .bool x51) ((Get.vecN (s := 20) (x := x48) rfl g50.2.2 (Get.vecN (s := 1) (x := x51) rfl g53.2.2 (Get.here _))).off (by omega))) ?_
      refine Qt.runG rfl rfl rfl hb47 rfl (by decide) (Ev.move rfl) ?_
      obtain ⟨o54, H, HKo54⟩ := bind_some H
      refine Qt.join (σ := Bool) 6 (fun y55 => [(1, .pointer (some ⟨b1, 0, none⟩)), (2, .pointer (some ⟨b3, 0, none⟩)), (3, .pointer (some ⟨b5, 0, none⟩)), (6, .int .i64 (i24 : Int)), (7, .int .i64 (i29 : Int)), (24, .int .i64 a0.N), (25, .int .i64 (i24 : Int)), (29, .int .i64 a0.N), (30, .int .i64 (i29 : Int)), (34, .int .i64 a0.N), (35, .int .i64 (i34 : Int)), (38, .int .i64 (i29 : Int)), (39, .int .i64 (i34 : Int)), (45, .bool x42), (57, .bool y55)]) (fun y55 => y55 = o54) ?_ ?_
      · rcases (Bool.eq_false_or_eq_true x51).symm with hb56 | hb56
        · replace H := ite_f hb56 H
          refine Qt.skip rfl rfl rfl hb56 rfl (by decide) ?_
          refine Qt.skip rfl rfl rfl hb56 rfl (by decide) ?_
          refine Qt.skip rfl rfl rfl hb56 rfl (by decide) ?_
          refine Qt.skip rfl rfl rfl hb56 rfl (by decide) ?_
          refine Qt.skip rfl rfl rfl hb56 rfl (by decide) ?_
          refine Qt.runG rfl rfl rfl hb47 rfl (by decide) (Ev.pickF rfl hb56 rfl) ?_
          exact Qt.meet false ⟨rfl, rfl, rfl, rfl, rfl, rfl, rfl, rfl, rfl, rfl, rfl, rfl, rfl, rfl, rfl, trivial⟩ (some_inj H)
        replace H := ite_t hb56 H
        refine Qt.runG rfl rfl rfl hb56 rfl (by decide) (Ev.move rfl) ?_
        refine Qt.runG rfl rfl rfl hb56 rfl (by decide) (Ev.move rfl) ?_
        obtain ⟨x57, h58, H⟩ := bind_some H
        have g59 := vat_some h58
        refine Qt.runG rfl rfl rfl hb56 rfl (by decide) (Ev.indexAddr (off' := 0 + (i24 : Int).toNat * 20) rfl rfl Try.runUnderlying109 Try.sizeOf107 g59.1 g59.2.1 rfl) ?_
        obtain ⟨x60, h61, H⟩ := bind_some H
        have g62 := vat_some h61
        refine Qt.runG rfl rfl rfl hb56 rfl (by decide) (Ev.indexAddr (off' := 0 + (i24 : Int).toNat * 20 + (i34 : Int).toNat * 1) rfl rfl Try.runUnderlying107 Try.sizeOf4 g62.1 g62.2.1 rfl) ?_
        refine Qt.runG rfl rfl rfl hb56 rfl (by decide) (Ev.load (i := 0) rfl rfl Try.isAgg4 (v := .bool x60) ((Get.vecN (s := 20) (x := x57) rfl g59.2.2 (Get.vecN (s := 1) (x := x60) rfl g62.2.2 (Get.here _))).off (by omega))) ?_
        refine Qt.runG rfl rfl rfl hb47 rfl (by decide) (Ev.pickT rfl hb56 rfl) ?_
        exact Qt.meet x60 ⟨rfl, rfl, rfl, rfl, rfl, rfl, rfl, rfl, rfl, rfl, rfl, rfl, rfl, rfl, rfl, trivial⟩ (some_inj H)
      rintro y55 hy
      subst hy
      refine Qt.as (e' := [(1, .pointer (some ⟨b1, 0, none⟩)), (2, .pointer (some ⟨b3, 0, none⟩)), (3, .pointer (some ⟨b5, 0, none⟩)), (6, .int .i64 (i24 : Int)), (7, .int .i64 (i29 : Int)), (24, .int .i64 a0.N), (25, .int .i64 (i24 : Int)), (29, .int .i64 a0.N), (30, .int .i64 (i29 : Int)), (34, .int .i64 a0.N), (35, .int .i64 (i34 : Int)), (38, .int .i64 (i29 : Int)), (39, .int .i64 (i34 : Int)), (45, .bool x42), (57, .bool y55)]) ⟨rfl, rfl, rfl, rfl, rfl, rfl, rfl, rfl, rfl, rfl, rfl, rfl, rfl, rfl, rfl, trivial⟩ ?_
      replace H := HKo54
      refine Qt.run rfl rfl (by decide) (Ev.pickF rfl hb47 rfl) ?_
      exact Qt.meet y55 ⟨rfl, rfl, rfl, rfl, rfl, rfl, rfl, rfl, rfl, rfl, rfl, rfl, rfl, rfl, trivial⟩ (some_inj H)
    rintro y46 hy
    subst hy
    refine Qt.as (e' := [(1, .pointer (some ⟨b1, 0, none⟩)), (2, .pointer (some ⟨b3, 0, none⟩)), (3, .pointer (some ⟨b5, 0, none⟩)), (6, .int .i64 (i24 : Int)), (7, .int .i64 (i29 : Int)), (24, .int .i64 a0.N), (25, .int .i64 (i24 : Int)), (29, .int .i64 a0.N), (30, .int .i64 (i29 : Int)), (34, .int .i64 a0.N), (35, .int .i64 (i34 : Int)), (38, .int .i64 (i29 : Int)), (39, .int .i64 (i34 : Int)), (58, .bool y46)]) ⟨rfl, rfl, rfl, rfl, rfl, rfl, rfl, rfl, rfl, rfl, rfl, rfl, rfl, rfl, trivial⟩ ?_
    replace H := HKo45
    obtain ⟨x63, h64, H⟩ := bind_some H
    have g65 := vat_some h64
    refine Qt.run rfl rfl (by decide) (Ev.indexAddr (off' := 0 + (i29 : Int).toNat * 20) rfl rfl Try.runUnderlying109 Try.sizeOf107 g65.1 g65.2.1 rfl) ?_
    obtain ⟨x66, h67, H⟩ := bind_some H
    have g68 := vat_some h67
    refine Qt.run rfl rfl (by decide) (Ev.indexAddr (off' := 0 + (i29 : Int).toNat * 20 + (i34 : Int).toNat * 1) rfl rfl Try.runUnderlying107 Try.sizeOf4 g68.1 g68.2.1 rfl) ?_
    refine Qt.tail ?_
    obtain ⟨p69, h70, H⟩ := Let_some H
    refine Lst.store (i := 0) rfl rfl rfl rfl rfl Try.sizeOf4 (vs := [.bool y46]) rfl rfl rfl (cs' := enc p69) (by rw [← h70]; exact (Put.vecN (s := 20) (x := x63) rfl g65.2.2 (Put.vecN (s := 1) (x := x66) rfl g68.2.2 (Put.here (vs := [.bool y46]) rfl))).off (by omega)) (L' := (.blk b5 (enc p69) 109) :: (.blk b3 (enc (Vector.replicate 20 (Vector.replicate 20 false))) 109) :: (.blk b1 (enc (PosetR.mk a0 s_a0_1)) 71) :: L) rfl ?_
    refine Lst.nil ?_
    refine At.in_normal ?_
    refine At.then ?_
    refine Cd.region ?_
    refine Lst.run rfl rfl (by decide) (Ev.incr (by omega) rfl rfl) ?_
    refine Lst.run rfl rfl (by decide) (Ev.move rfl) ?_
    refine Lst.nil ?_
    exact At.meet (i34 + 1, k34, p69) hF37 ⟨rfl, rfl, rfl, rfl, rfl, rfl, rfl, rfl, rfl, rfl, rfl, trivial⟩ rfl ⟨⟨hgo34 _ (some_inj H).symm, by omega⟩, Nat.lt_succ_self _⟩
  have hc7 : decide ((i7 : Int) < (a0.Pairs.length : Int)) = true := decide_eq_true (by omega)
  obtain ⟨c7, H, hgo7⟩ := rangeF_go H
  unfold poset_closed_B0 at H
  try dsimp only at H
  refine Cd.seq ?_
  refine Cd.region ?_
  refine Lst.run rfl rfl (by decide) (Ev.lss rfl rfl) ?_
  refine Lst.nil ?_
  refine At.then ?_
  refine Cd.seq ?_
  refine Cd.condT rfl hc7 ?_
  refine Cd.skip ?_
  refine At.then ?_
  refine Cd.seq ?_
  refine Cd.block ?_
  refine Cd.seq ?_
  refine Cd.region ?_
  obtain ⟨x11, h12, H⟩ := bind_some H
  have g13 := lat_some h12
  refine Lst.run rfl rfl (by decide) (Ev.indexS (α := Pair) (xs := a0.Pairs) rfl rfl Try.runUnderlying39 Try.sizeOf46 rfl (by decide) (hs_a0_1.mono hF10 (List.Sublist.cons _ (List.Sublist.cons _ (List.Sublist.cons _ hM)))) g13.1 g13.2.1) ?_
  refine Lst.run rfl rfl (by decide) (Ev.loadSA (α := Pair) rfl (hs_a0_1.mono hF10 (List.Sublist.cons _ (List.Sublist.cons _ (List.Sublist.cons _ hM)))) Try.isAgg46 Try.sizeOf46 (ch := enc x11) (Enc.len _) (by decide) ((Get.elemN (s := 2) (x := x11) rfl g13.2.2 (Get.here _)).off (by omega))) ?_
  refine Lst.alloc (cs := enc Pair.zero) rfl rfl (by decide) Try.zeroValue46 rfl (fun b14 => ?_)
  refine Lst.store (i := 0) rfl rfl rfl rfl rfl Try.sizeOf46 (vs := enc x11) rfl (Enc.len _) (Enc.one _) (cs' := enc x11) (Put.here ((Enc.len _).trans (Enc.len _).symm)) (L' := (.blk b14 (enc x11) 46) :: (.blk b5 (enc y8) 109) :: (.blk b3 (enc (Vector.replicate 20 (Vector.replicate 20 false))) 109) :: (.blk b1 (enc (PosetR.mk a0 s_a0_1)) 71) :: L) rfl ?_
  refine Lst.nil ?_
  refine At.then ?_
  refine Cd.tail 6 (by kernel_rfl) (by kernel_rfl) ?_
  refine Qt.run rfl rfl (by decide) (Ev.fieldAddr (off' := 0) rfl Try.runUnderlying46 rfl Try.sizeOf3 rfl rfl) ?_
  refine Qt.run rfl rfl (by decide) (Ev.load (i := 0) rfl rfl Try.isAgg3 (v := .int .i64 x11.A) ((Pair.get_A (Get.here _)).off (by rfl))) ?_
  refine Qt.run rfl rfl (by decide) (Ev.fieldAddr (off' := 1) rfl Try.runUnderlying46 rfl Try.sizeOf3 rfl rfl) ?_
  refine Qt.run rfl rfl (by decide) (Ev.load (i := 0) rfl rfl Try.isAgg3 (v := .int .i64 x11.B) ((Pair.get_B (Get.here _)).off (by rfl))) ?_
  obtain ⟨x16, h17, H⟩ := bind_some H
  have g18 := vat_some h17
  refine Qt.run rfl rfl (by decide) (Ev.indexAddr (off' := 0 + x11.A.toNat * 20) rfl rfl Try.runUnderlying109 Try.sizeOf107 g18.1 g18.2.1 rfl) ?_
  obtain ⟨x19, h20, H⟩ := bind_some H
  have g21 := vat_some h20
  refine Qt.run rfl rfl (by decide) (Ev.indexAddr (off' := 0 + x11.A.toNat * 20 + x11.B.toNat * 1) rfl rfl Try.runUnderlying107 Try.sizeOf4 g21.1 g21.2.1 rfl) ?_
  refine Qt.tail ?_
  obtain ⟨p22, h23, H⟩ := Let_some H
  refine Lst.store (i := 1) rfl rfl rfl rfl rfl Try.sizeOf4 (vs := [.bool true]) rfl rfl rfl (cs' := enc p22) (by rw [← h23]; exact (Put.vecN (s := 20) (x := x16) rfl g18.2.2 (Put.vecN (s := 1) (x := x19) rfl g21.2.2 (Put.here (vs := [.bool true]) rfl))).off (by omega)) (L' := (.blk b14 (enc x11) 46) :: (.blk b5 (enc p22) 109) :: (.blk b3 (enc (Vector.replicate 20 (Vector.replicate 20 false))) 109) :: (.blk b1 (enc (PosetR.mk a0 s_a0_1)) 71) :: L) rfl ?_
  refine Lst.nil ?_
  refine At.in_normal ?_
  refine At.then ?_
  refine Cd.region ?_
  refine Lst.run rfl rfl (by decide) (Ev.incr (by omega) rfl rfl) ?_
  refine Lst.run rfl rfl (by decide) (Ev.move rfl) ?_
  refine Lst.nil ?_
  refine At.less (L' := (.blk b5 (enc p22) 109) :: (.blk b3 (enc (Vector.replicate 20 (Vector.replicate 20 false))) 109) :: (.blk b1 (enc (PosetR.mk a0 s_a0_1)) 71) :: L) (List.Sublist.cons _ (List.Sublist.cons_cons _ (List.Sublist.cons_cons _ (List.Sublist.cons_cons _ (List.Sublist.refl _))))) ?_
  exact At.meet (i7 + 1, k7, p22) hF10 ⟨rfl, rfl, rfl, rfl, rfl, rfl, trivial⟩ rfl ⟨⟨hgo7 _ (some_inj H).symm, by omega⟩, Nat.lt_succ_self _⟩
set_option maxRecDepth 20000 in
theorem poset_check_sim {a0 : Poset} {s_a0_1 : Sl} {r : (Vector (Vector Bool 20) 20) × Int} (H : poset_check a0 = some r) (w0 : World) (F : Frz) (M L : List Item) (hM : M.Sublist L) (hs_a0_1 : Rd w0 F M s_a0_1 a0.Pairs) : Ok Try.prog w0 71 [.agg (enc (PosetR.mk a0 s_a0_1)).toArray] F (L) (Is (.tuple #[.agg (enc r.1).toArray, .int .i64 r.2]) (L)) := by
  unfold poset_check at H
  refine Ok.enter (m := 1) (n := 42) Try.func71 rfl rfl rfl (by decide) ?_
  refine Cd.env (e' := [(0, .agg (enc (PosetR.mk a0 s_a0_1)).toArray)]) rfl ?_
  refine Cd.seq ?_
  refine Cd.region ?_
  refine Lst.box rfl rfl (by decide) rfl (cs := enc (PosetR.mk a0 s_a0_1)) rfl (fun b1 => ?_)
  refine Lst.alloc (z := .agg (enc (Vector.replicate 20 (Vector.replicate 20 false))).toArray) (cs := enc (Vector.replicate 20 (Vector.replicate 20 false))) rfl rfl (by decide) (fun _ => by kernel_rfl) rfl (fun b3 => ?_)
  refine Lst.run rfl rfl (by decide) (Ev.assign rfl) ?_
  refine Lst.nil ?_
  refine At.then ?_
  refine Cd.seq ?_
  refine Cd.seq ?_
  refine Cd.region ?_
  refine Lst.run rfl rfl (by decide) (Ev.fieldAddr (off' := 0) rfl Try.runUnderlying71 rfl Try.sizeOf3 rfl rfl) ?_
  refine Lst.run rfl rfl (by decide) (Ev.load (i := 1) rfl rfl Try.isAgg3 (v := .int .i64 a0.N) ((PosetR.get_N (Get.here _)).off (by rfl))) ?_
  refine Lst.run rfl rfl (by decide) (Ev.lss rfl rfl) ?_
  refine Lst.run rfl rfl (by decide) (Ev.move rfl) ?_
  obtain ⟨o5, H, HKo5⟩ := bind_some H
  refine Lst.join (σ := Bool) 4 (fun y6 => [(1, .pointer (some ⟨b1, 0, none⟩)), (2, .pointer (some ⟨b3, 0, none⟩)), (14, .bool y6)]) (fun y6 => (.blk b3 (enc (Vector.replicate 20 (Vector.replicate 20 false))) 109) :: (.blk b1 (enc (PosetR.mk a0 s_a0_1)) 71) :: L) (fun _ y6 => y6 = o5) ?_ ?_
  · rcases Bool.eq_false_or_eq_true (decide (a0.N < (0 : Int))) with hb7 | hb7
    · replace H := ite_t hb7 H
      refine Lst.skip rfl rfl rfl hb7 rfl (by decide) ?_
      refine Lst.skip rfl rfl rfl hb7 rfl (by decide) ?_
      refine Lst.skip rfl rfl rfl hb7 rfl (by decide) ?_
      refine Lst.run rfl rfl (by decide) (Ev.pickT rfl hb7 rfl) ?_
      refine Lst.nil ?_
      exact At.meet true (FLe.refl _) ⟨rfl, rfl, rfl, trivial⟩ rfl (some_inj H)
    replace H := ite_f hb7 H
    refine Lst.runG rfl rfl rfl hb7 rfl (by decide) (Ev.fieldAddr (off' := 0) rfl Try.runUnderlying71 rfl Try.sizeOf3 rfl rfl) ?_
    refine Lst.runG rfl rfl rfl hb7 rfl (by decide) (Ev.load (i := 1) rfl rfl Try.isAgg3 (v := .int .i64 a0.N) ((PosetR.get_N (Get.here _)).off (by rfl))) ?_
    refine Lst.runG rfl rfl rfl hb7 rfl (by decide) (Ev.gtr rfl rfl) ?_
    refine Lst.run rfl rfl (by decide) (Ev.pickF rfl hb7 rfl) ?_
    refine Lst.nil ?_
    exact At.meet (decide (a0.N > (20 : Int))) (FLe.refl _) ⟨rfl, rfl, rfl, trivial⟩ rfl (some_inj H)
  rintro F8 y6 hF9 hy
  subst hy
  refine Lst.as (e' := [(1, .pointer (some ⟨b1, 0, none⟩)), (2, .pointer (some ⟨b3, 0, none⟩)), (14, .bool y6)]) (L' := (.blk b3 (enc (Vector.replicate 20 (Vector.replicate 20 false))) 109) :: (.blk b1 (enc (PosetR.mk a0 s_a0_1)) 71) :: L) ⟨rfl, rfl, rfl, trivial⟩ rfl ?_
  replace H := HKo5
  refine Lst.nil ?_
  refine At.then ?_
  rcases Bool.eq_false_or_eq_true y6 with hb10 | hb10
  · replace H := ite_t hb10 H
    refine Cd.condT rfl hb10 ?_
    refine Cd.seq ?_
    refine Cd.region ?_
    refine Lst.run rfl rfl (by decide) (Ev.build (v := .agg (enc ((Vector.replicate 20 (Vector.replicate 20 false)) : Vector (Vector Bool 20) 20)).toArray) (pv := []) trivial (fun w => by kernel_rfl)) ?_
    refine Lst.store (i := 0) rfl rfl rfl rfl rfl Try.sizeOf109 (vs := enc ((Vector.replicate 20 (Vector.replicate 20 false)) : Vector (Vector Bool 20) 20)) rfl (Enc.len _) (Enc.one _) (cs' := enc ((Vector.replicate 20 (Vector.replicate 20 false)) : Vector (Vector Bool 20) 20)) (Put.here ((Enc.len _).trans (Enc.len _).symm)) (L' := (.blk b3 (enc ((Vector.replicate 20 (Vector.replicate 20 false)) : Vector (Vector Bool 20) 20)) 109) :: (.blk b1 (enc (PosetR.mk a0 s_a0_1)) 71) :: L) rfl ?_
    refine Lst.run rfl rfl (by decide) (Ev.assign rfl) ?_
    refine Lst.nil ?_
    refine At.then ?_
    obtain rfl := some_inj H
    refine Cd.ret ?_
    refine At.then_ret ?_
    exact At.ret2 rfl (Res.cellA (i := 0) rfl rfl Try.isAgg109 Try.sizeOf109 (Enc.len _)) (Res.tmp rfl) hF9 (List.Sublist.cons _ (List.Sublist.cons _ (List.Sublist.refl _))) ⟨rfl, rfl⟩
  replace H := ite_f hb10 H
  refine Cd.condF rfl hb10 ?_
  refine Cd.skip ?_
  refine At.then ?_
  refine Cd.seq ?_
  refine Cd.seq ?_
  refine Cd.region ?_
  refine Lst.run rfl rfl (by decide) (Ev.fieldAddr (off' := 0) rfl Try.runUnderlying71 rfl Try.sizeOf3 rfl rfl) ?_
  refine Lst.run rfl rfl (by decide) (Ev.load (i := 1) rfl rfl Try.isAgg3 (v := .int .i64 a0.N) ((PosetR.get_N (Get.here _)).off (by rfl))) ?_
  refine Lst.run rfl rfl (by decide) (Ev.fieldAddr (off' := 0) rfl Try.runUnderlying71 rfl Try.sizeOf3 rfl rfl) ?_
  refine Lst.run rfl rfl (by decide) (Ev.load (i := 1) rfl rfl Try.isAgg3 (v := .int .i64 a0.N) ((PosetR.get_N (Get.here _)).off (by rfl))) ?_
  refine Lst.run rfl rfl (by decide) (Ev.fieldAddr (off' := 1) rfl Try.runUnderlying71 rfl Try.sizeOf39 rfl rfl) ?_
  refine Lst.run rfl rfl (by decide) (Ev.load (i := 1) rfl rfl Try.isAgg39 (v := Sl.v s_a0_1) ((PosetR.get_Pairs (Get.here _)).off (by rfl))) ?_
  obtain ⟨r11, h12, H⟩ := bind_some H
  refine Lst.call1 rfl rfl (by decide) (vs := [.int .i64 a0.N, .int .i64 a0.N, Sl.v s_a0_1]) ⟨rfl, rfl, rfl, trivial⟩ Try.call75 (match_Check_sim h12 w0 _ M _ (List.Sublist.cons _ (List.Sublist.cons _ hM)) (hs_a0_1.mono hF9 (List.Sublist.refl _))) ?_
  refine Lst.run rfl rfl (by decide) (Ev.assign rfl) ?_
  refine Lst.nil ?_
  refine At.then ?_
  refine Cd.seq ?_
  refine Cd.region ?_
  refine Lst.run rfl rfl (by decide) (Ev.move rfl) ?_
  refine Lst.run rfl rfl (by decide) (Ev.neq rfl rfl) ?_
  refine Lst.nil ?_
  refine At.then ?_
  rcases Bool.eq_false_or_eq_true (r11 != (0 : Int)) with hb15 | hb15
  · replace H := ite_t hb15 H
    refine Cd.condT rfl hb15 ?_
    refine Cd.seq ?_
    refine Cd.region ?_
    refine Lst.run rfl rfl (by decide) (Ev.build (v := .agg (enc ((Vector.replicate 20 (Vector.replicate 20 false)) : Vector (Vector Bool 20) 20)).toArray) (pv := []) trivial (fun w => by kernel_rfl)) ?_
    refine Lst.run rfl rfl (by decide) (Ev.move rfl) ?_
    refine Lst.store (i := 0) rfl rfl rfl rfl rfl Try.sizeOf109 (vs := enc ((Vector.replicate 20 (Vector.replicate 20 false)) : Vector (Vector Bool 20) 20)) rfl (Enc.len _) (Enc.one _) (cs' := enc ((Vector.replicate 20 (Vector.replicate 20 false)) : Vector (Vector Bool 20) 20)) (Put.here ((Enc.len _).trans (Enc.len _).symm)) (L' := (.blk b3 (enc ((Vector.replicate 20 (Vector.replicate 20 false)) : Vector (Vector Bool 20) 20)) 109) :: (.blk b1 (enc (PosetR.mk a0 s_a0_1)) 71) :: L) rfl ?_
    refine Lst.run rfl rfl (by decide) (Ev.assign rfl) ?_
    refine Lst.nil ?_
    refine At.then ?_
    obtain rfl := some_inj H
    refine Cd.ret ?_
    refine At.then_ret ?_
    exact At.ret2 rfl (Res.cellA (i := 0) rfl rfl Try.isAgg109 Try.sizeOf109 (Enc.len _)) (Res.tmp rfl) hF9 (List.Sublist.cons _ (List.Sublist.cons _ (List.Sublist.refl _))) ⟨rfl, rfl⟩
  replace H := ite_f hb15 H
  refine Cd.condF rfl hb15 ?_
  refine Cd.skip ?_
  refine At.then ?_
  refine Cd.seq ?_
  refine Cd.region ?_
  refine Lst.run rfl rfl (by decide) (Ev.loadA (i := 1) rfl rfl Try.isAgg71 Try.sizeOf71 (ch := enc (PosetR.mk a0 s_a0_1)) (Enc.len _) (Get.here _)) ?_
  obtain ⟨r16, h17, H⟩ := bind_some H
  refine Lst.call1 rfl rfl (by decide) (vs := [.agg (enc (PosetR.mk a0 s_a0_1)).toArray]) ⟨rfl, trivial⟩ Try.call76 (poset_closed_sim h17 w0 _ M _ (List.Sublist.cons _ (List.Sublist.cons _ hM)) (hs_a0_1.mono hF9 (List.Sublist.refl _))) ?_
  refine Lst.alloc (z := .agg (enc (Vector.replicate 20 (Vector.replicate 20 false))).toArray) (cs := enc (Vector.replicate 20 (Vector.replicate 20 false))) rfl rfl (by decide) (fun _ => by kernel_rfl) rfl (fun b20 => ?_)
  refine Lst.store (i := 0) rfl rfl rfl rfl rfl Try.sizeOf109 (vs := enc r16) rfl (Enc.len _) (Enc.one _) (cs' := enc r16) (Put.here ((Enc.len _).trans (Enc.len _).symm)) (L' := (.blk b20 (enc r16) 109) :: (.blk b3 (enc (Vector.replicate 20 (Vector.replicate 20 false))) 109) :: (.blk b1 (enc (PosetR.mk a0 s_a0_1)) 71) :: L) rfl ?_
  refine Lst.nil ?_
  refine At.then ?_
  refine Cd.seq ?_
  refine Cd.seq ?_
  refine Cd.region ?_
  refine Lst.run rfl rfl (by decide) (Ev.fieldAddr (off' := 0) rfl Try.runUnderlying71 rfl Try.sizeOf3 rfl rfl) ?_
  refine Lst.run rfl rfl (by decide) (Ev.load (i := 2) rfl rfl Try.isAgg3 (v := .int .i64 a0.N) ((PosetR.get_N (Get.here _)).off (by rfl))) ?_
  refine Lst.run rfl rfl (by decide) (Ev.move rfl) ?_
  refine Lst.nil ?_
  refine At.then ?_
  refine Cd.block ?_
  obtain ⟨nn25, hN33, H⟩ := bind_some H
  replace hN33 := upTo_some hN33
  obtain ⟨ol22, H, HKl22⟩ := andThen_some H
  refine Cd.loop (σ := Nat × Nat × Unit) (fun (i22, k22, _u) => [(2, .pointer (some ⟨b3, 0, none⟩)), (5, .pointer (some ⟨b20, 0, none⟩)), (30, .int .i64 a0.N), (31, .int .i64 (i22 : Int))]) (fun (i22, k22, _u) => (.blk b20 (enc r16) 109) :: (.blk b3 (enc (Vector.replicate 20 (Vector.replicate 20 false))) 109) :: (.blk b1 (enc (PosetR.mk a0 s_a0_1)) 71) :: L) (fun _ => (fun (i22, k22, _u) => rangeM (poset_check_B0 r16) k22 i22 () = some ol22 ∧ i22 + k22 = nn25)) (fun (i22, k22, _u) => k22) (0, nn25, ()) ⟨rfl, rfl, rfl, rfl, trivial⟩ rfl ⟨H, by omega⟩ ?_
  rintro F23 ⟨i22, k22, _u⟩ hF24 ⟨H, hik22⟩
  refine Cd.as (e' := [(2, .pointer (some ⟨b3, 0, none⟩)), (5, .pointer (some ⟨b20, 0, none⟩)), (30, .int .i64 a0.N), (31, .int .i64 (i22 : Int))]) (L' := (.blk b20 (enc r16) 109) :: (.blk b3 (enc (Vector.replicate 20 (Vector.replicate 20 false))) 109) :: (.blk b1 (enc (PosetR.mk a0 s_a0_1)) 71) :: L) ⟨rfl, rfl, rfl, rfl, trivial⟩ rfl ?_
  rcases k22 with _ | k22
  · have hc22 : decide ((i22 : Int) < a0.N) = false := decide_eq_false (by omega)
    replace H := rangeM_end H
    refine Cd.seq ?_
    refine Cd.region ?_
    refine Lst.run rfl rfl (by decide) (Ev.lss rfl rfl) ?_
    refine Lst.nil ?_
    refine At.then ?_
    refine Cd.seq ?_
    refine Cd.condF rfl hc22 ?_
    refine Cd.exit ?_
    refine At.then_exit ?_
    refine At.then_exit ?_
    refine At.in_exit ?_
    subst H
    replace H := HKl22
    refine At.then ?_
    refine Cd.seq ?_
    refine Cd.region ?_
    refine Lst.run rfl rfl (by decide) (Ev.loadA (i := 0) rfl rfl Try.isAgg109 Try.sizeOf109 (ch := enc r16) (Enc.len _) (Get.here _)) ?_
    refine Lst.store (i := 1) rfl rfl rfl rfl rfl Try.sizeOf109 (vs := enc r16) rfl (Enc.len _) (Enc.one _) (cs' := enc r16) (Put.here ((Enc.len _).trans (Enc.len _).symm)) (L' := (.blk b20 (enc r16) 109) :: (.blk b3 (enc r16) 109) :: (.blk b1 (enc (PosetR.mk a0 s_a0_1)) 71) :: L) rfl ?_
    refine Lst.run rfl rfl (by decide) (Ev.assign rfl) ?_
    refine Lst.nil ?_
    refine At.then ?_
    obtain rfl := some_inj H
    refine Cd.ret ?_
    exact At.ret2 rfl (Res.cellA (i := 1) rfl rfl Try.isAgg109 Try.sizeOf109 (Enc.len _)) (Res.tmp rfl) (FLe.trans hF9 hF24) (List.Sublist.cons _ (List.Sublist.cons _ (List.Sublist.cons _ (List.Sublist.refl _)))) ⟨rfl, rfl⟩
  have hc22 : decide ((i22 : Int) < a0.N) = true := decide_eq_true (by omega)
  obtain ⟨c22, H, hgo22, hbrk22, hret22⟩ := rangeM_go H
  unfold poset_check_B0 at H
  try dsimp only at H
  refine Cd.seq ?_
  refine Cd.region ?_
  refine Lst.run rfl rfl (by decide) (Ev.lss rfl rfl) ?_
  refine Lst.nil ?_
  refine At.then ?_
  refine Cd.seq ?_
  refine Cd.condT rfl hc22 ?_
  refine Cd.skip ?_
  refine At.then ?_
  refine Cd.seq ?_
  refine Cd.block ?_
  refine Cd.seq ?_
  refine Cd.region ?_
  refine Lst.run rfl rfl (by decide) (Ev.move rfl) ?_
  refine Lst.run rfl rfl (by decide) (Ev.assign rfl) ?_
  refine Lst.nil ?_
  refine At.then ?_
  refine Cd.seq ?_
  refine Cd.region ?_
  refine Lst.run rfl rfl (by decide) (Ev.move rfl) ?_
  refine Lst.run rfl rfl (by decide) (Ev.move rfl) ?_
  obtain ⟨x26, h27, H⟩ := bind_some H
  have g28 := vat_some h27
  refine Lst.run rfl rfl (by decide) (Ev.indexAddr (off' := 0 + (i22 : Int).toNat * 20) rfl rfl Try.runUnderlying109 Try.sizeOf107 g28.1 g28.2.1 rfl) ?_
  obtain ⟨x29, h30, H⟩ := bind_some H
  have g31 := vat_some h30
  refine Lst.run rfl rfl (by decide) (Ev.indexAddr (off' := 0 + (i22 : Int).toNat * 20 + (i22 : Int).toNat * 1) rfl rfl Try.runUnderlying107 Try.sizeOf4 g31.1 g31.2.1 rfl) ?_
  refine Lst.run rfl rfl (by decide) (Ev.load (i := 0) rfl rfl Try.isAgg4 (v := .bool x29) ((Get.vecN (s := 20) (x := x26) rfl g28.2.2 (Get.vecN (s := 1) (x := x29) rfl g31.2.2 (Get.here _))).off (by omega))) ?_
  refine Lst.nil ?_
  refine At.then ?_
  rcases Bool.eq_false_or_eq_true x29 with hb32 | hb32
  · replace H := ite_t hb32 H
    refine Cd.condT rfl hb32 ?_
    refine Cd.seq ?_
    refine Cd.region ?_
    refine Lst.run rfl rfl (by decide) (Ev.build (v := .agg (enc ((Vector.replicate 20 (Vector.replicate 20 false)) : Vector (Vector Bool 20) 20)).toArray) (pv := []) trivial (fun w => by kernel_rfl)) ?_
    refine Lst.store (i := 1) rfl rfl rfl rfl rfl Try.sizeOf109 (vs := enc ((Vector.replicate 20 (Vector.replicate 20 false)) : Vector (Vector Bool 20) 20)) rfl (Enc.len _) (Enc.one _) (cs' := enc ((Vector.replicate 20 (Vector.replicate 20 false)) : Vector (Vector Bool 20) 20)) (Put.here ((Enc.len _).trans (Enc.len _).symm)) (L' := (.blk b20 (enc r16) 109) :: (.blk b3 (enc ((Vector.replicate 20 (Vector.replicate 20 false)) : Vector (Vector Bool 20) 20)) 109) :: (.blk b1 (enc (PosetR.mk a0 s_a0_1)) 71) :: L) rfl ?_
    refine Lst.run rfl rfl (by decide) (Ev.assign rfl) ?_
    refine Lst.nil ?_
    refine At.then ?_
    have H := hret22 _ (some_inj H).symm
    subst H
    replace H := HKl22
    obtain rfl := some_inj H
    refine Cd.ret ?_
    refine At.in_ret ?_
    refine At.then_ret ?_
    refine At.then_ret ?_
    refine At.in_ret ?_
    refine At.then_ret ?_
    exact At.ret2 rfl (Res.cellA (i := 1) rfl rfl Try.isAgg109 Try.sizeOf109 (Enc.len _)) (Res.tmp rfl) (FLe.trans hF9 hF24) (List.Sublist.cons _ (List.Sublist.cons _ (List.Sublist.cons _ (List.Sublist.refl _)))) ⟨rfl, rfl⟩
  replace H := ite_f hb32 H
  refine Cd.condF rfl hb32 ?_
  refine Cd.skip ?_
  refine At.in_normal ?_
  refine At.then ?_
  refine Cd.region ?_
  refine Lst.run rfl rfl (by decide) (Ev.incr (by omega) rfl rfl) ?_
  refine Lst.run rfl rfl (by decide) (Ev.move rfl) ?_
  refine Lst.nil ?_
  exact At.meet (i22 + 1, k22, ()) hF24 ⟨rfl, rfl, rfl, rfl, trivial⟩ rfl ⟨⟨hgo22 _ (some_inj H).symm, by omega⟩, Nat.lt_succ_self _⟩
set_option maxRecDepth 20000 in
theorem poset_order_all_1_sim {a0 : Int} {a1 : Int} {r : Bool} (H : poset_order_all_1 a0 a1 = some r) (w0 : World) (F : Frz) (M L : List Item) (hM : M.Sublist L) : Ok Try.prog w0 78 [.int .i64 a0, .int .i64 a1] F (L) (Is (.bool r) (L)) := by
  unfold poset_order_all_1 at H
  refine Ok.enter (m := 2) (n := 5) Try.func78 rfl rfl rfl (by decide) ?_
  refine Cd.env (e' := [(0, .int .i64 a0), (1, .int .i64 a1)]) rfl ?_
  refine Cd.seq ?_
  refine Cd.region ?_
  refine Lst.run rfl rfl (by decide) (Ev.assign rfl) ?_
  refine Lst.nil ?_
  refine At.then ?_
  refine Cd.seq ?_
  refine Cd.region ?_
  refine Lst.run rfl rfl (by decide) (Ev.assign rfl) ?_
  refine Lst.nil ?_
  refine At.then ?_
  obtain rfl := some_inj H
  refine Cd.ret ?_
  exact At.ret1 rfl (Res.tmp rfl) (FLe.refl _) (List.Sublist.refl _) ⟨rfl, rfl⟩
set_option maxRecDepth 20000 in
theorem poset_order_pairs_all_1_sim {a0 : Vector (Vector Bool 20) 20} {a1 : Int} {r : (List Pair)} (H : poset_order_pairs_all_1 a0 a1 = some r) (w0 : World) (F : Frz) (M L : List Item) (hM : M.Sublist L) : Ok Try.prog w0 77 [.agg (enc a0).toArray, .int .i64 a1, .func (.func 78) #[] #[]] F (L) (fun _ L' v => ∃ (s1 : Sl), v = Sl.v s1 ∧ L' = (.own s1 46 2 (encs r)) :: L) := by
  unfold poset_order_pairs_all_1 at H
  refine Ok.enter (m := 3) (n := 38) Try.func77 rfl rfl rfl (by decide) ?_
  refine Cd.env (e' := [(0, .agg (enc a0).toArray), (1, .int .i64 a1), (2, .func (.func 78) #[] #[])]) rfl ?_
  refine Cd.seq ?_
  refine Cd.region ?_
  refine Lst.box rfl rfl (by decide) rfl (cs := enc a0) rfl (fun b1 => ?_)
  refine Lst.addNil 46 2 ?_
  refine Lst.run rfl rfl (by decide) (Ev.assign rfl) ?_
  refine Lst.nil ?_
  refine At.then ?_
  refine Cd.seq ?_
  refine Cd.region ?_
  refine Lst.addNil 46 2 ?_
  refine Lst.run rfl rfl (by decide) (Ev.assign rfl) ?_
  refine Lst.nil ?_
  refine At.then ?_
  refine Cd.seq ?_
  refine Cd.seq ?_
  refine Cd.region ?_
  refine Lst.run rfl rfl (by decide) (Ev.move rfl) ?_
  refine Lst.run rfl rfl (by decide) (Ev.move rfl) ?_
  refine Lst.nil ?_
  refine At.then ?_
  refine Cd.block ?_
  obtain ⟨nn10, hN39, H⟩ := bind_some H
  replace hN39 := upTo_some hN39
  obtain ⟨ol5, H, HKl5⟩ := bind_some H
  refine Cd.loop (σ := Nat × Nat × Sl × (List Pair)) (fun (i5, k5, s6, l7) => [(1, .int .i64 a1), (2, .func (.func 78) #[] #[]), (3, .pointer (some ⟨b1, 0, none⟩)), (7, Sl.v s6), (10, .int .i64 a1), (11, .int .i64 (i5 : Int))]) (fun (i5, k5, s6, l7) => (.own s6 46 2 (encs l7)) :: (.own Sl.nil 46 2 (encs ([] : List Pair))) :: (.blk b1 (enc a0) 109) :: L) (fun _ => (fun (i5, k5, s6, l7) => rangeF (poset_order_pairs_all_1_B0 a0 a1) k5 i5 l7 = some ol5 ∧ i5 + k5 = nn10)) (fun (i5, k5, s6, l7) => k5) (0, nn10, Sl.nil, ([] : List Pair)) ⟨rfl, rfl, rfl, rfl, rfl, rfl, trivial⟩ rfl ⟨H, by omega⟩ ?_
  rintro F8 ⟨i5, k5, s6, l7⟩ hF9 ⟨H, hik5⟩
  refine Cd.as (e' := [(1, .int .i64 a1), (2, .func (.func 78) #[] #[]), (3, .pointer (some ⟨b1, 0, none⟩)), (7, Sl.v s6), (10, .int .i64 a1), (11, .int .i64 (i5 : Int))]) (L' := (.own s6 46 2 (encs l7)) :: (.own Sl.nil 46 2 (encs ([] : List Pair))) :: (.blk b1 (enc a0) 109) :: L) ⟨rfl, rfl, rfl, rfl, rfl, rfl, trivial⟩ rfl ?_
  rcases k5 with _ | k5
  · have hc5 : decide ((i5 : Int) < a1) = false := decide_eq_false (by omega)
    replace H := rangeF_end H
    refine Cd.seq ?_
    refine Cd.region ?_
    refine Lst.run rfl rfl (by decide) (Ev.lss rfl rfl) ?_
    refine Lst.nil ?_
    refine At.then ?_
    refine Cd.seq ?_
    refine Cd.condF rfl hc5 ?_
    refine Cd.exit ?_
    refine At.then_exit ?_
    refine At.then_exit ?_
    refine At.in_exit ?_
    subst H
    replace H := HKl5
    refine At.then ?_
    refine Cd.seq ?_
    refine Cd.region ?_
    refine Lst.run rfl rfl (by decide) (Ev.move rfl) ?_
    refine Lst.run rfl rfl (by decide) (Ev.assign rfl) ?_
    refine Lst.nil ?_
    refine At.then ?_
    obtain rfl := some_inj H
    refine Cd.ret ?_
    exact At.ret1 rfl (Res.tmp rfl) hF9 (List.Sublist.cons_cons _ (List.Sublist.cons _ (List.Sublist.cons _ (List.Sublist.refl _)))) ⟨s6, rfl, rfl⟩
  have hc5 : decide ((i5 : Int) < a1) = true := decide_eq_true (by omega)
  obtain ⟨c5, H, hgo5⟩ := rangeF_go H
  unfold poset_order_pairs_all_1_B0 at H
  try dsimp only at H
  refine Cd.seq ?_
  refine Cd.region ?_
  refine Lst.run rfl rfl (by decide) (Ev.lss rfl rfl) ?_
  refine Lst.nil ?_
  refine At.then ?_
  refine Cd.seq ?_
  refine Cd.condT rfl hc5 ?_
  refine Cd.skip ?_
  refine At.then ?_
  refine Cd.seq ?_
  refine Cd.block ?_
  refine Cd.seq ?_
  refine Cd.region ?_
  refine Lst.run rfl rfl (by decide) (Ev.move rfl) ?_
  refine Lst.run rfl rfl (by decide) (Ev.assign rfl) ?_
  refine Lst.nil ?_
  refine At.then ?_
  refine Cd.seq ?_
  refine Cd.region ?_
  refine Lst.run rfl rfl (by decide) (Ev.move rfl) ?_
  refine Lst.run rfl rfl (by decide) (Ev.move rfl) ?_
  refine Lst.nil ?_
  refine At.then ?_
  refine Cd.block ?_
  obtain ⟨nn16, hN38, H⟩ := bind_some H
  replace hN38 := upTo_some hN38
  obtain ⟨ol11, H, HKl11⟩ := bind_some H
  refine Cd.loop (σ := Nat × Nat × Sl × (List Pair)) (fun (i11, k11, s12, l13) => [(1, .int .i64 a1), (2, .func (.func 78) #[] #[]), (3, .pointer (some ⟨b1, 0, none⟩)), (7, Sl.v s12), (8, .int .i64 (i5 : Int)), (10, .int .i64 a1), (11, .int .i64 (i5 : Int)), (14, .int .i64 a1), (15, .int .i64 (i11 : Int))]) (fun (i11, k11, s12, l13) => (.own s12 46 2 (encs l13)) :: (.own Sl.nil 46 2 (encs ([] : List Pair))) :: (.blk b1 (enc a0) 109) :: L) (fun _ => (fun (i11, k11, s12, l13) => rangeF (poset_order_pairs_all_1_B2 a0 i5) k11 i11 l13 = some ol11 ∧ i11 + k11 = nn16)) (fun (i11, k11, s12, l13) => k11) (0, nn16, s6, l7) ⟨rfl, rfl, rfl, rfl, rfl, rfl, rfl, rfl, rfl, trivial⟩ rfl ⟨H, by omega⟩ ?_
  rintro F14 ⟨i11, k11, s12, l13⟩ hF15 ⟨H, hik11⟩
  refine Cd.as (e' := [(1, .int .i64 a1), (2, .func (.func 78) #[] #[]), (3, .pointer (some ⟨b1, 0, none⟩)), (7, Sl.v s12), (8, .int .i64 (i5 : Int)), (10, .int .i64 a1), (11, .int .i64 (i5 : Int)), (14, .int .i64 a1), (15, .int .i64 (i11 : Int))]) (L' := (.own s12 46 2 (encs l13)) :: (.own Sl.nil 46 2 (encs ([] : List Pair))) :: (.blk b1 (enc a0) 109) :: L) ⟨rfl, rfl, rfl, rfl, rfl, rfl, rfl, rfl, rfl, trivial⟩ rfl ?_
  rcases k11 with _ | k11
  · have hc11 : decide ((i11 : Int) < a1) = false := decide_eq_false (by omega)
    replace H := rangeF_end H
    refine Cd.seq ?_
    refine Cd.region ?_
    refine Lst.run rfl rfl (by decide) (Ev.lss rfl rfl) ?_
    refine Lst.nil ?_
    refine At.then ?_
    refine Cd.seq ?_
    refine Cd.condF rfl hc11 ?_
    refine Cd.exit ?_
    refine At.then_exit ?_
    refine At.then_exit ?_
    refine At.in_exit ?_
    subst H
    replace H := HKl11
    refine At.in_normal ?_
    refine At.then ?_
    refine Cd.region ?_
    refine Lst.run rfl rfl (by decide) (Ev.incr (by omega) rfl rfl) ?_
    refine Lst.run rfl rfl (by decide) (Ev.move rfl) ?_
    refine Lst.nil ?_
    exact At.meet (i5 + 1, k5, s12, l13) (FLe.trans hF9 hF15) ⟨rfl, rfl, rfl, rfl, rfl, rfl, trivial⟩ rfl ⟨⟨hgo5 _ (some_inj H).symm, by omega⟩, Nat.lt_succ_self _⟩
  have hc11 : decide ((i11 : Int) < a1) = true := decide_eq_true (by omega)
  obtain ⟨c11, H, hgo11⟩ := rangeF_go H
  unfold poset_order_pairs_all_1_B2 at H
  try dsimp only at H
  refine Cd.seq ?_
  refine Cd.region ?_
  refine Lst.run rfl rfl (by decide) (Ev.lss rfl rfl) ?_
  refine Lst.nil ?_
  refine At.then ?_
  refine Cd.seq ?_
  refine Cd.condT rfl hc11 ?_
  refine Cd.skip ?_
  refine At.then ?_
  refine Cd.seq ?_
  refine Cd.block ?_
  refine Cd.seq ?_
  refine Cd.region ?_
  refine Lst.run rfl rfl (by decide) (Ev.move rfl) ?_
  refine Lst.run rfl rfl (by decide) (Ev.assign rfl) ?_
  refine Lst.nil ?_
  refine At.then ?_
  refine Cd.seq ?_
  refine Cd.region ?_
  refine Lst.run rfl rfl (by decide) (Ev.move rfl) ?_
  refine Lst.run rfl rfl (by decide) (Ev.move rfl) ?_
  obtain ⟨x17, h18, H⟩ := bind_some H
  have g19 := vat_some h18
  refine Lst.run rfl rfl (by decide) (Ev.indexAddr (off' := 0 + (i5 : Int).toNat * 20) rfl rfl Try.runUnderlying109 Try.sizeOf107 g19.1 g19.2.1 rfl) ?_
  obtain ⟨x20, h21, H⟩ := bind_some H
  have g22 := vat_some h21
  refine Lst.run rfl rfl (by decide) (Ev.indexAddr (off' := 0 + (i5 : Int).toNat * 20 + (i11 : Int).toNat * 1) rfl rfl Try.runUnderlying107 Try.sizeOf4 g22.1 g22.2.1 rfl) ?_
  refine Lst.run rfl rfl (by decide) (Ev.load (i := 2) rfl rfl Try.isAgg4 (v := .bool x20) ((Get.vecN (s := 20) (x := x17) rfl g19.2.2 (Get.vecN (s := 1) (x := x20) rfl g22.2.2 (Get.here _))).off (by omega))) ?_
  refine Lst.run rfl rfl (by decide) (Ev.move rfl) ?_
  obtain ⟨o23, H, HKo23⟩ := bind_some H
  refine Lst.join (σ := Bool) 5 (fun y24 => [(1, .int .i64 a1), (2, .func (.func 78) #[] #[]), (3, .pointer (some ⟨b1, 0, none⟩)), (7, Sl.v s12), (8, .int .i64 (i5 : Int)), (9, .int .i64 (i11 : Int)), (10, .int .i64 a1), (11, .int .i64 (i5 : Int)), (14, .int .i64 a1), (15, .int .i64 (i11 : Int)), (28, .bool y24)]) (fun y24 => (.own s12 46 2 (encs l13)) :: (.own Sl.nil 46 2 (encs ([] : List Pair))) :: (.blk b1 (enc a0) 109) :: L) (fun _ y24 => y24 = o23) ?_ ?_
  · rcases (Bool.eq_false_or_eq_true x20).symm with hb25 | hb25
    · replace H := ite_f hb25 H
      refine Lst.skip rfl rfl rfl hb25 rfl (by decide) ?_
      refine Lst.skip rfl rfl rfl hb25 rfl (by decide) ?_
      refine Lst.skip rfl rfl rfl hb25 rfl (by decide) ?_
      refine Lst.skip rfl rfl rfl hb25 rfl (by decide) ?_
      refine Lst.run rfl rfl (by decide) (Ev.pickF rfl hb25 rfl) ?_
      refine Lst.nil ?_
      exact At.meet false (FLe.refl _) ⟨rfl, rfl, rfl, rfl, rfl, rfl, rfl, rfl, rfl, rfl, rfl, trivial⟩ rfl (some_inj H)
    replace H := ite_t hb25 H
    refine Lst.runG rfl rfl rfl hb25 rfl (by decide) (Ev.move rfl) ?_
    refine Lst.runG rfl rfl rfl hb25 rfl (by decide) (Ev.move rfl) ?_
    refine Lst.runG rfl rfl rfl hb25 rfl (by decide) (Ev.move rfl) ?_
    obtain ⟨r26, h27, H⟩ := bind_some H
    refine Lst.callV1G rfl rfl rfl hb25 rfl (by decide) (vs := [.int .i64 (i5 : Int), .int .i64 (i11 : Int)]) (cs := []) rfl ⟨rfl, rfl, trivial⟩ Try.call78 (poset_order_all_1_sim h27 w0 _ M _ (List.Sublist.cons _ (List.Sublist.cons _ (List.Sublist.cons _ hM)))) ?_
    refine Lst.run rfl rfl (by decide) (Ev.pickT rfl hb25 rfl) ?_
    refine Lst.nil ?_
    exact At.meet r26 (FLe.refl _) ⟨rfl, rfl, rfl, rfl, rfl, rfl, rfl, rfl, rfl, rfl, rfl, trivial⟩ rfl (some_inj H)
  rintro F30 y24 hF31 hy
  subst hy
  refine Lst.as (e' := [(1, .int .i64 a1), (2, .func (.func 78) #[] #[]), (3, .pointer (some ⟨b1, 0, none⟩)), (7, Sl.v s12), (8, .int .i64 (i5 : Int)), (9, .int .i64 (i11 : Int)), (10, .int .i64 a1), (11, .int .i64 (i5 : Int)), (14, .int .i64 a1), (15, .int .i64 (i11 : Int)), (28, .bool y24)]) (L' := (.own s12 46 2 (encs l13)) :: (.own Sl.nil 46 2 (encs ([] : List Pair))) :: (.blk b1 (enc a0) 109) :: L) ⟨rfl, rfl, rfl, rfl, rfl, rfl, rfl, rfl, rfl, rfl, rfl, trivial⟩ rfl ?_
  replace H := HKo23
  refine Lst.nil ?_
  refine At.then ?_
  rcases (Bool.eq_false_or_eq_true y24).symm with hb32 | hb32
  · replace H := ite_f hb32 H
    refine Cd.condF rfl hb32 ?_
    refine Cd.skip ?_
    refine At.in_normal ?_
    refine At.then ?_
    refine Cd.region ?_
    refine Lst.run rfl rfl (by decide) (Ev.incr (by omega) rfl rfl) ?_
    refine Lst.run rfl rfl (by decide) (Ev.move rfl) ?_
    refine Lst.nil ?_
    exact At.meet (i11 + 1, k11, s12, l13) (FLe.trans hF15 hF31) ⟨rfl, rfl, rfl, rfl, rfl, rfl, rfl, rfl, rfl, trivial⟩ rfl ⟨⟨hgo11 _ (some_inj H).symm, by omega⟩, Nat.lt_succ_self _⟩
  replace H := ite_t hb32 H
  refine Cd.condT rfl hb32 ?_
  refine Cd.region ?_
  refine Lst.run rfl rfl (by decide) (Ev.move rfl) ?_
  refine Lst.run rfl rfl (by decide) (Ev.move rfl) ?_
  refine Lst.run rfl rfl (by decide) (Ev.move rfl) ?_
  refine Lst.run rfl rfl (by decide) (Ev.build (v := .agg (enc ({ Pair.zero with A := (i5 : Int), B := (i11 : Int) } : Pair)).toArray) (pv := [(0, .int .i64 (i5 : Int)), (1, .int .i64 (i11 : Int))]) ⟨rfl, rfl, ⟨rfl, rfl, trivial⟩⟩ (fun w => by kernel_rfl)) ?_
  refine Lst.buildSlice (α := Pair) (xs := ([({ Pair.zero with A := (i5 : Int), B := (i11 : Int) } : Pair)] : List Pair)) (pv := [(0, .agg (enc ({ Pair.zero with A := (i5 : Int), B := (i11 : Int) } : Pair)).toArray)]) rfl rfl (by decide) ⟨rfl, rfl, trivial⟩ (run_buildSlice (α := Pair) (z0 := Pair.zero) (xs := ([({ Pair.zero with A := (i5 : Int), B := (i11 : Int) } : Pair)] : List Pair)) Try.runUnderlying39 Try.sizeOf46 Try.zeroValue46 rfl rfl rfl (by decide) rfl (fill_cons (cs := encs (List.replicate 1 Pair.zero)) (cs' := encs ((List.replicate 1 Pair.zero).set 0 ({ Pair.zero with A := (i5 : Int), B := (i11 : Int) } : Pair))) (vs := enc ({ Pair.zero with A := (i5 : Int), B := (i11 : Int) } : Pair)) rfl rfl (Enc.len _) ((Put.elemN (s := 2) (i := 0) (x := Pair.zero) (y := ({ Pair.zero with A := (i5 : Int), B := (i11 : Int) } : Pair)) rfl rfl (Put.here ((Enc.len _).trans (Enc.len _).symm))).off rfl) fill_nil)) rfl rfl (by decide) (fun s33 _ => ?_)
  obtain ⟨u35, h36, H⟩ := bind_some H
  refine Lst.append (i := 1) (α := Pair) (xs := l13) (ys := ([({ Pair.zero with A := (i5 : Int), B := (i11 : Int) } : Pair)] : List Pair)) rfl rfl (by decide) rfl rfl Try.runUnderlying39 Try.typeInfo46 rfl rfl rfl rfl rfl rfl (Rd.own (i := 0) rfl rfl rfl) rfl (room_some h36) rfl (fun s37 => ?_)
  refine Lst.its (L' := (.own s33 46 2 (encs ([({ Pair.zero with A := (i5 : Int), B := (i11 : Int) } : Pair)] : List Pair))) :: (.own s37 46 2 (encs (l13 ++ ([({ Pair.zero with A := (i5 : Int), B := (i11 : Int) } : Pair)] : List Pair)))) :: (.own Sl.nil 46 2 (encs ([] : List Pair))) :: (.blk b1 (enc a0) 109) :: L) rfl ?_
  refine Lst.run rfl rfl (by decide) (Ev.assign rfl) ?_
  refine Lst.nil ?_
  refine At.in_normal ?_
  refine At.then ?_
  refine Cd.region ?_
  refine Lst.run rfl rfl (by decide) (Ev.incr (by omega) rfl rfl) ?_
  refine Lst.run rfl rfl (by decide) (Ev.move rfl) ?_
  refine Lst.nil ?_
  refine At.less (L' := (.own s37 46 2 (encs (l13 ++ ([({ Pair.zero with A := (i5 : Int), B := (i11 : Int) } : Pair)] : List Pair)))) :: (.own Sl.nil 46 2 (encs ([] : List Pair))) :: (.blk b1 (enc a0) 109) :: L) (List.Sublist.cons _ (List.Sublist.cons_cons _ (List.Sublist.cons_cons _ (List.Sublist.cons_cons _ (List.Sublist.refl _))))) ?_
  exact At.meet (i11 + 1, k11, s37, l13 ++ ([({ Pair.zero with A := (i5 : Int), B := (i11 : Int) } : Pair)] : List Pair)) (FLe.trans hF15 hF31) ⟨rfl, rfl, rfl, rfl, rfl, rfl, rfl, rfl, rfl, trivial⟩ rfl ⟨⟨hgo11 _ (some_inj H).symm, by omega⟩, Nat.lt_succ_self _⟩
set_option maxRecDepth 20000 in
theorem poset_order_all_sim {a0 : Vector (Vector Bool 20) 20} {a1 : Int} {r : (List Pair)} (H : poset_order_all a0 a1 = some r) (w0 : World) (F : Frz) (M L : List Item) (hM : M.Sublist L) : Ok Try.prog w0 72 [.agg (enc a0).toArray, .int .i64 a1] F (L) (fun _ L' v => ∃ (s1 : Sl), v = Sl.v s1 ∧ L' = (.own s1 46 2 (encs r)) :: L) := by
  unfold poset_order_all at H
  refine Ok.enter (m := 2) (n := 8) Try.func72 rfl rfl rfl (by decide) ?_
  refine Cd.env (e' := [(0, .agg (enc a0).toArray), (1, .int .i64 a1)]) rfl ?_
  refine Cd.seq ?_
  refine Cd.region ?_
  refine Lst.box rfl rfl (by decide) rfl (cs := enc a0) rfl (fun b1 => ?_)
  refine Lst.addNil 46 2 ?_
  refine Lst.run rfl rfl (by decide) (Ev.assign rfl) ?_
  refine Lst.nil ?_
  refine At.then ?_
  refine Cd.seq ?_
  refine Cd.region ?_
  refine Lst.run rfl rfl (by decide) (Ev.loadA (i := 1) rfl rfl Try.isAgg109 Try.sizeOf109 (ch := enc a0) (Enc.len _) (Get.here _)) ?_
  refine Lst.run rfl rfl (by decide) (Ev.move rfl) ?_
  obtain ⟨r4, h5, H⟩ := bind_some H
  refine Lst.call rfl rfl (by decide) (vs := [.agg (enc a0).toArray, .int .i64 a1, .func (.func 78) #[] #[]]) ⟨rfl, rfl, rfl, trivial⟩ Try.call77 (poset_order_pairs_all_1_sim h5 w0 _ M _ (List.Sublist.cons _ (List.Sublist.cons _ hM))) (fun F8 L' v hF9 hv => ?_)
  obtain ⟨s6, rfl, rfl⟩ := hv
  refine Lst.run rfl rfl (by decide) (Ev.assign rfl) ?_
  refine Lst.nil ?_
  refine At.then ?_
  obtain rfl := some_inj H
  refine Cd.ret ?_
  exact At.ret1 rfl (Res.tmp rfl) hF9 (List.Sublist.cons_cons _ (List.Sublist.cons _ (List.Sublist.cons _ (List.Sublist.refl _)))) ⟨s6, rfl, rfl⟩
set_option maxRecDepth 20000 in
theorem poset_Close_sim {a0 : Poset} {s_a0_1 : Sl} {r : (List Pair) × Int} (H : poset_Close a0 = some r) (w0 : World) (F : Frz) (M L : List Item) (hM : M.Sublist L) (hs_a0_1 : Rd w0 F M s_a0_1 a0.Pairs) : Ok Try.prog w0 66 [.agg (enc (PosetR.mk a0 s_a0_1)).toArray] F (L) (fun _ L' v => ∃ (s1 : Sl), v = .tuple #[Sl.v s1, .int .i64 r.2] ∧ L' = (.own s1 46 2 (encs r.1)) :: L) := by
  unfold poset_Close at H
  refine Ok.enter (m := 1) (n := 18) Try.func66 rfl rfl rfl (by decide) ?_
  refine Cd.env (e' := [(0, .agg (enc (PosetR.mk a0 s_a0_1)).toArray)]) rfl ?_
  refine Cd.seq ?_
  refine Cd.region ?_
  refine Lst.box rfl rfl (by decide) rfl (cs := enc (PosetR.mk a0 s_a0_1)) rfl (fun b1 => ?_)
  refine Lst.addNil 46 2 ?_
  refine Lst.run rfl rfl (by decide) (Ev.assign rfl) ?_
  refine Lst.run rfl rfl (by decide) (Ev.assign rfl) ?_
  refine Lst.nil ?_
  refine At.then ?_
  refine Cd.seq ?_
  refine Cd.region ?_
  refine Lst.run rfl rfl (by decide) (Ev.loadA (i := 1) rfl rfl Try.isAgg71 Try.sizeOf71 (ch := enc (PosetR.mk a0 s_a0_1)) (Enc.len _) (Get.here _)) ?_
  obtain ⟨r4, h5, H⟩ := bind_some H
  refine Lst.call1 rfl rfl (by decide) (vs := [.agg (enc (PosetR.mk a0 s_a0_1)).toArray]) ⟨rfl, trivial⟩ Try.call71 (poset_check_sim h5 w0 _ M _ (List.Sublist.cons _ (List.Sublist.cons _ hM)) (hs_a0_1.mono (FLe.refl _) (List.Sublist.refl _))) ?_
  refine Lst.run rfl rfl (by decide) (Ev.move rfl) ?_
  refine Lst.run rfl rfl (by decide) (Ev.extract rfl rfl) ?_
  refine Lst.run rfl rfl (by decide) (Ev.extract rfl rfl) ?_
  refine Lst.alloc (z := .agg (enc (Vector.replicate 20 (Vector.replicate 20 false))).toArray) (cs := enc (Vector.replicate 20 (Vector.replicate 20 false))) rfl rfl (by decide) (fun _ => by kernel_rfl) rfl (fun b8 => ?_)
  refine Lst.store (i := 0) rfl rfl rfl rfl rfl Try.sizeOf109 (vs := enc r4.1) rfl (Enc.len _) (Enc.one _) (cs' := enc r4.1) (Put.here ((Enc.len _).trans (Enc.len _).symm)) (L' := (.blk b8 (enc r4.1) 109) :: (.own Sl.nil 46 2 (encs ([] : List Pair))) :: (.blk b1 (enc (PosetR.mk a0 s_a0_1)) 71) :: L) rfl ?_
  refine Lst.run rfl rfl (by decide) (Ev.assign rfl) ?_
  refine Lst.nil ?_
  refine At.then ?_
  refine Cd.seq ?_
  refine Cd.seq ?_
  refine Cd.region ?_
  refine Lst.run rfl rfl (by decide) (Ev.move rfl) ?_
  refine Lst.run rfl rfl (by decide) (Ev.neq rfl rfl) ?_
  refine Lst.nil ?_
  refine At.then ?_
  rcases Bool.eq_false_or_eq_true (r4.2 != (0 : Int)) with hb10 | hb10
  · replace H := ite_t hb10 H
    refine Cd.condT rfl hb10 ?_
    refine Cd.seq ?_
    refine Cd.region ?_
    refine Lst.run rfl rfl (by decide) (Ev.move rfl) ?_
    refine Lst.addNil 46 2 ?_
    refine Lst.run rfl rfl (by decide) (Ev.assign rfl) ?_
    refine Lst.run rfl rfl (by decide) (Ev.assign rfl) ?_
    refine Lst.nil ?_
    refine At.then ?_
    obtain rfl := some_inj H
    refine Cd.ret ?_
    refine At.then_ret ?_
    exact At.ret2 rfl (Res.tmp rfl) (Res.tmp rfl) (FLe.refl _) (List.Sublist.cons_cons _ (List.Sublist.cons _ (List.Sublist.cons _ (List.Sublist.cons _ (List.Sublist.refl _))))) ⟨Sl.nil, rfl, rfl⟩
  replace H := ite_f hb10 H
  refine Cd.condF rfl hb10 ?_
  refine Cd.skip ?_
  refine At.then ?_
  refine Cd.seq ?_
  refine Cd.region ?_
  refine Lst.run rfl rfl (by decide) (Ev.loadA (i := 0) rfl rfl Try.isAgg109 Try.sizeOf109 (ch := enc r4.1) (Enc.len _) (Get.here _)) ?_
  refine Lst.run rfl rfl (by decide) (Ev.fieldAddr (off' := 0) rfl Try.runUnderlying71 rfl Try.sizeOf3 rfl rfl) ?_
  refine Lst.run rfl rfl (by decide) (Ev.load (i := 2) rfl rfl Try.isAgg3 (v := .int .i64 a0.N) ((PosetR.get_N (Get.here _)).off (by rfl))) ?_
  obtain ⟨r12, h13, H⟩ := bind_some H
  refine Lst.call rfl rfl (by decide) (vs := [.agg (enc r4.1).toArray, .int .i64 a0.N]) ⟨rfl, rfl, trivial⟩ Try.call72 (poset_order_all_sim h13 w0 _ M _ (List.Sublist.cons _ (List.Sublist.cons _ (List.Sublist.cons _ hM)))) (fun F16 L' v hF17 hv => ?_)
  obtain ⟨s14, rfl, rfl⟩ := hv
  refine Lst.run rfl rfl (by decide) (Ev.assign rfl) ?_
  refine Lst.run rfl rfl (by decide) (Ev.assign rfl) ?_
  refine Lst.nil ?_
  refine At.then ?_
  obtain rfl := some_inj H
  refine Cd.ret ?_
  exact At.ret2 rfl (Res.tmp rfl) (Res.tmp rfl) hF17 (List.Sublist.cons_cons _ (List.Sublist.cons _ (List.Sublist.cons _ (List.Sublist.cons _ (List.Sublist.refl _))))) ⟨s14, rfl, rfl⟩
end Go.Proofs.Ytclmlddmgccfjaa
