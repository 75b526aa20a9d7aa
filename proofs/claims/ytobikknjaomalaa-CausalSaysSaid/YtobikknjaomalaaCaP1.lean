/-
  The functions compute their specs; printed by a program.
-/
import Derived.Test.YtobikknjaomalaaCaSp
import Derived.Test.YtobikknjaomalaaGoL
import Derived.Test.YtobikknjaomalaaGoK
import Derived.Test.YtobikknjaomalaaGoI
import Derived.Test.YtobikknjaomalaaGoU
import Derived.Test.YtobikknjaomalaaProg
namespace Go.Proofs.Ytobikknjaomalaa
open Go.RowKit Enc
set_option linter.unusedVariables false
set_option linter.unusedSimpArgs false
structure CausalR where
  v : Causal
  h2 : Sl
instance : Enc CausalR := ⟨fun p => enc p.v.Me ++ (enc p.v.Seen ++ (enc p.h2)), 8, fun p => by simp only [List.length_append, Enc.len]; rfl, fun p => by simp only [List.all_append, Enc.one, Bool.and_self]⟩
theorem CausalR.get_Me {p : CausalR} {k : Nat} {ch : List Value} (h : Get (enc p.v.Me) k ch) : Get (enc p) (0 + k) ch := Get.off (Get.left h) (by omega)
theorem CausalR.put_Me {p : CausalR} {k : Nat} {vs : List Value} {y : Int} (h : Put (enc p.v.Me) k vs (enc y)) : Put (enc p) (0 + k) vs (enc ({ p with v := { p.v with Me := y } } : CausalR)) := Put.off (cs' := enc ({ p with v := { p.v with Me := y } } : CausalR)) (Put.left h) (by omega)
theorem CausalR.get_Seen {p : CausalR} {k : Nat} {ch : List Value} (h : Get (enc p.v.Seen) k ch) : Get (enc p) (1 + k) ch := Get.off (Get.right (m := 1) (Enc.len _) (Get.left h)) (by omega)
theorem CausalR.put_Seen {p : CausalR} {k : Nat} {vs : List Value} {y : Vector Int 6} (h : Put (enc p.v.Seen) k vs (enc y)) : Put (enc p) (1 + k) vs (enc ({ p with v := { p.v with Seen := y } } : CausalR)) := Put.off (cs' := enc ({ p with v := { p.v with Seen := y } } : CausalR)) (Put.right (m := 1) (Enc.len _) (Put.left h)) (by omega)
theorem CausalR.get_Hold {p : CausalR} {k : Nat} {ch : List Value} (h : Get (enc p.h2) k ch) : Get (enc p) (7 + k) ch := Get.off (Get.right (m := 1) (Enc.len _) (Get.right (m := 6) (Enc.len _) h)) (by omega)
theorem CausalR.put_Hold {p : CausalR} {k : Nat} {vs : List Value} {y : Sl} {l : List Mail} (h : Put (enc p.h2) k vs (enc y)) : Put (enc p) (7 + k) vs (enc ({ p with v := { p.v with Hold := l }, h2 := y } : CausalR)) := Put.off (cs' := enc ({ p with v := { p.v with Hold := l }, h2 := y } : CausalR)) (Put.right (m := 1) (Enc.len _) (Put.right (m := 6) (Enc.len _) h)) (by omega)
def CausalR.rel (w0 : World) (F : Frz) (L : List Item) (x : CausalR) : Prop := Rd w0 F L x.h2 x.v.Hold
theorem CausalR.mono {w0 : World} {F F' : Frz} {L L' : List Item} {x : CausalR} (h : CausalR.rel w0 F L x) (hF : FLe F F') (hL : L.Sublist L') : CausalR.rel w0 F' L' x :=
  let h2 := h
  h2.mono hF hL
theorem All.monoCausal {w0 : World} {F F' : Frz} {L L' : List Item} {rs : List CausalR} (h : All CausalR.rel w0 F L rs) (hF : FLe F F') (hL : L.Sublist L') : All CausalR.rel w0 F' L' rs := fun x hx => CausalR.mono (h x hx) hF hL
set_option maxRecDepth 20000 in
theorem eq23 (x y : Vector Int 6) : ∀ w, (Op.equal 23 (.agg (enc x).toArray) (.agg (enc y).toArray)).run Try.prog w = .ok (decide (x = y)) w :=
  EqT.top (d := 10000) Try.isAgg23 Try.sizeOf23 rfl rfl (EqT.array (inf := Try.t3) Try.isAgg23 Try.sizeOf23 rfl Try.runUnderlying23 rfl (by kernel_rfl) (EqT.int Try.isAgg3 Try.runUnderlying3)) x y
set_option maxRecDepth 20000 in
theorem eq47 (x y : Mail) : ∀ w, (Op.equal 47 (.agg (enc x).toArray) (.agg (enc y).toArray)).run Try.prog w = .ok (decide (x = y)) w :=
  EqT.top (d := 10000) Try.isAgg47 Try.sizeOf47 rfl rfl (EqT.struct Try.isAgg47 Try.sizeOf47 rfl Try.runUnderlying47 (by kernel_rfl) (fun x y w => by
  refine Eq.trans (eqField (p := x.From) (q := y.From) rfl (EqT.int Try.isAgg3 Try.runUnderlying3) rfl ((Mail.get_From (Get.here _)).off rfl) ((Mail.get_From (Get.here _)).off rfl) (eqField (p := x.At) (q := y.At) rfl (EqT.array (inf := Try.t3) Try.isAgg23 Try.sizeOf23 rfl Try.runUnderlying23 rfl (by kernel_rfl) (EqT.int Try.isAgg3 Try.runUnderlying3)) rfl ((Mail.get_At (Get.here _)).off rfl) ((Mail.get_At (Get.here _)).off rfl) (eqField (p := x.Text) (q := y.Text) rfl (EqT.str Try.isAgg9 Try.runUnderlying9) rfl ((Mail.get_Text (Get.here _)).off rfl) ((Mail.get_Text (Get.here _)).off rfl) (by rfl)))) ?_
  congr 1
  rw [Bool.eq_iff_iff]; cases x; cases y; simp)) x y
set_option maxRecDepth 20000 in
theorem slices_Min_int_int_sim {fu : Nat} {a0 : List Int} {s_a0 : Sl} {r : Int} (H : slices_Min_int_int fu a0 = some r) (w0 : World) (F : Frz) (M L : List Item) (hM : M.Sublist L) (hs_a0 : Rd w0 F M s_a0 a0) : Ok Try.prog w0 85 [Sl.v s_a0] F (L) (Is (.int .i64 r) (L)) := by
  unfold slices_Min_int_int at H
  refine Ok.enter (m := 1) (n := 25) Try.func85 rfl rfl rfl (by decide) ?_
  refine Cd.env (e' := [(0, Sl.v s_a0)]) rfl ?_
  refine Cd.seq ?_
  refine Cd.region ?_
  refine Lst.run rfl rfl (by decide) (Ev.assign rfl) ?_
  refine Lst.nil ?_
  refine At.then ?_
  refine Cd.seq ?_
  refine Cd.seq ?_
  refine Cd.region ?_
  refine Lst.run rfl rfl (by decide) (Ev.move rfl) ?_
  refine Lst.run rfl rfl (by decide) (Ev.lenS (α := Int) (xs := a0) (by decide) rfl rfl Try.runUnderlying36 (hs_a0.mono (FLe.refl _) hM)) ?_
  refine Lst.run rfl rfl (by decide) (Ev.lss rfl rfl) ?_
  refine Lst.nil ?_
  refine At.then ?_
  rcases Bool.eq_false_or_eq_true (decide ((a0.length : Int) < (1 : Int))) with hb1 | hb1
  · replace H := ite_t hb1 H
    cases H
  replace H := ite_f hb1 H
  refine Cd.condF rfl hb1 ?_
  refine Cd.skip ?_
  refine At.then ?_
  refine Cd.seq ?_
  refine Cd.region ?_
  refine Lst.run rfl rfl (by decide) (Ev.move rfl) ?_
  obtain ⟨x2, h3, H⟩ := bind_some H
  have g4 := lat_some h3
  refine Lst.run rfl rfl (by decide) (Ev.indexS (α := Int) (xs := a0) rfl rfl Try.runUnderlying36 Try.sizeOf3 rfl (by decide) (hs_a0.mono (FLe.refl _) hM) g4.1 g4.2.1) ?_
  refine Lst.run rfl rfl (by decide) (Ev.loadS (α := Int) rfl (hs_a0.mono (FLe.refl _) hM) Try.isAgg3 (v := .int .i64 x2) ((Get.elemN (s := 1) (x := x2) rfl g4.2.2 (Get.here _)).off (by omega))) ?_
  refine Lst.run rfl rfl (by decide) (Ev.assign rfl) ?_
  refine Lst.nil ?_
  refine At.then ?_
  refine Cd.seq ?_
  refine Cd.seq ?_
  refine Cd.region ?_
  refine Lst.run rfl rfl (by decide) (Ev.assign rfl) ?_
  refine Lst.nil ?_
  refine At.then ?_
  refine Cd.block ?_
  obtain ⟨ol5, H, HKl5⟩ := andThen_some H
  refine Cd.loop (σ := Nat × Int × Int) (fun (k5, y6, y7) => [(0, Sl.v s_a0), (3, .int .i64 y6), (4, .int .i64 y7)]) (fun (k5, y6, y7) => L) (fun _ => (fun (k5, y6, y7) => whileM (slices_Min_int_int_B0 a0) k5 (y6, y7) = some ol5)) (fun (k5, y6, y7) => k5) (fu, x2, (1 : Int)) ⟨rfl, rfl, rfl, trivial⟩ rfl H ?_
  rintro F8 ⟨k5, y6, y7⟩ hF9 H
  refine Cd.as (e' := [(0, Sl.v s_a0), (3, .int .i64 y6), (4, .int .i64 y7)]) (L' := L) ⟨rfl, rfl, rfl, trivial⟩ rfl ?_
  rcases k5 with _ | k5
  · cases H
  obtain ⟨c5, H, hgo5, hbrk5, hret5⟩ := whileM_go H
  unfold slices_Min_int_int_B0 at H
  try dsimp only at H
  refine Cd.seq ?_
  refine Cd.seq ?_
  refine Cd.region ?_
  refine Lst.run rfl rfl (by decide) (Ev.move rfl) ?_
  refine Lst.run rfl rfl (by decide) (Ev.move rfl) ?_
  refine Lst.run rfl rfl (by decide) (Ev.lenS (α := Int) (xs := a0) (by decide) rfl rfl Try.runUnderlying36 (hs_a0.mono hF9 hM)) ?_
  refine Lst.run rfl rfl (by decide) (Ev.lss rfl rfl) ?_
  refine Lst.nil ?_
  refine At.then ?_
  rcases (Bool.eq_false_or_eq_true (decide (y7 < (a0.length : Int)))).symm with hb10 | hb10
  · replace H := ite_f hb10 H
    refine Cd.condF rfl hb10 ?_
    refine Cd.exit ?_
    refine At.then_exit ?_
    refine At.then_exit ?_
    refine At.in_exit ?_
    have H := hbrk5 _ (some_inj H).symm
    subst H
    replace H := HKl5
    refine At.then ?_
    refine Cd.seq ?_
    refine Cd.region ?_
    refine Lst.run rfl rfl (by decide) (Ev.move rfl) ?_
    refine Lst.run rfl rfl (by decide) (Ev.assign rfl) ?_
    refine Lst.nil ?_
    refine At.then ?_
    obtain rfl := some_inj H
    refine Cd.ret ?_
    exact At.ret1 rfl (Res.tmp rfl) hF9 (List.Sublist.refl _) ⟨rfl, rfl⟩
  replace H := ite_t hb10 H
  refine Cd.condT rfl hb10 ?_
  refine Cd.skip ?_
  refine At.then ?_
  refine Cd.seq ?_
  refine Cd.block ?_
  refine Cd.region ?_
  refine Lst.run rfl rfl (by decide) (Ev.move rfl) ?_
  refine Lst.run rfl rfl (by decide) (Ev.move rfl) ?_
  refine Lst.run rfl rfl (by decide) (Ev.move rfl) ?_
  obtain ⟨x11, h12, H⟩ := bind_some H
  have g13 := lat_some h12
  refine Lst.run rfl rfl (by decide) (Ev.indexS (α := Int) (xs := a0) rfl rfl Try.runUnderlying36 Try.sizeOf3 rfl (by decide) (hs_a0.mono hF9 hM) g13.1 g13.2.1) ?_
  refine Lst.run rfl rfl (by decide) (Ev.loadS (α := Int) rfl (hs_a0.mono hF9 hM) Try.isAgg3 (v := .int .i64 x11) ((Get.elemN (s := 1) (x := x11) rfl g13.2.2 (Get.here _)).off (by omega))) ?_
  refine Lst.run rfl rfl (by decide) (Ev.min2 rfl rfl) ?_
  refine Lst.run rfl rfl (by decide) (Ev.assign rfl) ?_
  refine Lst.nil ?_
  refine At.in_normal ?_
  refine At.then ?_
  refine Cd.region ?_
  refine Lst.run rfl rfl (by decide) (Ev.move rfl) ?_
  refine Lst.run rfl rfl (by decide) (Ev.add rfl rfl) ?_
  refine Lst.run rfl rfl (by decide) (Ev.assign rfl) ?_
  refine Lst.nil ?_
  exact At.meet (k5, min y6 x11, w64 (y7 + (1 : Int))) hF9 ⟨rfl, rfl, rfl, trivial⟩ rfl ⟨hgo5 _ (some_inj H).symm, Nat.lt_succ_self _⟩
set_option maxRecDepth 20000 in
theorem partref_MailRight_sim {fu : Nat} {a0 : Mail} {r : Bool} (H : partref_MailRight fu a0 = some r) (w0 : World) (F : Frz) (M L : List Item) (hM : M.Sublist L) : Ok Try.prog w0 31 [.agg (enc a0).toArray] F (L) (Is (.bool r) (L)) := by
  unfold partref_MailRight at H
  refine Ok.enter (m := 1) (n := 25) Try.func31 rfl rfl rfl (by decide) ?_
  refine Cd.env (e' := [(0, .agg (enc a0).toArray)]) rfl ?_
  refine Cd.seq ?_
  refine Cd.region ?_
  refine Lst.box rfl rfl (by decide) rfl (cs := enc a0) rfl (fun b1 => ?_)
  refine Lst.run rfl rfl (by decide) (Ev.assign rfl) ?_
  refine Lst.nil ?_
  refine At.then ?_
  refine Cd.seq ?_
  refine Cd.region ?_
  refine Lst.run rfl rfl (by decide) (Ev.fieldAddr (off' := 0) rfl Try.runUnderlying47 rfl Try.sizeOf3 rfl rfl) ?_
  refine Lst.run rfl rfl (by decide) (Ev.load (i := 0) rfl rfl Try.isAgg3 (v := .int .i64 a0.From) ((Mail.get_From (Get.here _)).off (by rfl))) ?_
  refine Lst.run rfl rfl (by decide) (Ev.geq rfl rfl) ?_
  refine Lst.run rfl rfl (by decide) (Ev.move rfl) ?_
  obtain ⟨o3, H, HKo3⟩ := bind_some H
  refine Lst.join (σ := Bool) 4 (fun y4 => [(1, .pointer (some ⟨b1, 0, none⟩)), (10, .bool y4)]) (fun y4 => (.blk b1 (enc a0) 47) :: L) (fun _ y4 => y4 = o3) ?_ ?_
  · rcases (Bool.eq_false_or_eq_true (decide (a0.From ≥ (0 : Int)))).symm with hb5 | hb5
    · replace H := ite_f hb5 H
      refine Lst.skip rfl rfl rfl hb5 rfl (by decide) ?_
      refine Lst.skip rfl rfl rfl hb5 rfl (by decide) ?_
      refine Lst.skip rfl rfl rfl hb5 rfl (by decide) ?_
      refine Lst.run rfl rfl (by decide) (Ev.pickF rfl hb5 rfl) ?_
      refine Lst.nil ?_
      exact At.meet false (FLe.refl _) ⟨rfl, rfl, trivial⟩ rfl (some_inj H)
    replace H := ite_t hb5 H
    refine Lst.runG rfl rfl rfl hb5 rfl (by decide) (Ev.fieldAddr (off' := 0) rfl Try.runUnderlying47 rfl Try.sizeOf3 rfl rfl) ?_
    refine Lst.runG rfl rfl rfl hb5 rfl (by decide) (Ev.load (i := 0) rfl rfl Try.isAgg3 (v := .int .i64 a0.From) ((Mail.get_From (Get.here _)).off (by rfl))) ?_
    refine Lst.runG rfl rfl rfl hb5 rfl (by decide) (Ev.leq rfl rfl) ?_
    refine Lst.run rfl rfl (by decide) (Ev.pickT rfl hb5 rfl) ?_
    refine Lst.nil ?_
    exact At.meet (decide (a0.From ≤ (5 : Int))) (FLe.refl _) ⟨rfl, rfl, trivial⟩ rfl (some_inj H)
  rintro F6 y4 hF7 hy
  subst hy
  refine Lst.as (e' := [(1, .pointer (some ⟨b1, 0, none⟩)), (10, .bool y4)]) (L' := (.blk b1 (enc a0) 47) :: L) ⟨rfl, rfl, trivial⟩ rfl ?_
  replace H := HKo3
  refine Lst.run rfl rfl (by decide) (Ev.move rfl) ?_
  obtain ⟨o8, H, HKo8⟩ := bind_some H
  refine Lst.join (σ := Bool) 5 (fun y9 => [(1, .pointer (some ⟨b1, 0, none⟩)), (16, .bool y9)]) (fun y9 => (.blk b1 (enc a0) 47) :: L) (fun _ y9 => y9 = o8) ?_ ?_
  · rcases (Bool.eq_false_or_eq_true y4).symm with hb10 | hb10
    · replace H := ite_f hb10 H
      refine Lst.skip rfl rfl rfl hb10 rfl (by decide) ?_
      refine Lst.skip rfl rfl rfl hb10 rfl (by decide) ?_
      refine Lst.skip rfl rfl rfl hb10 rfl (by decide) ?_
      refine Lst.skip rfl rfl rfl hb10 rfl (by decide) ?_
      refine Lst.run rfl rfl (by decide) (Ev.pickF rfl hb10 rfl) ?_
      refine Lst.nil ?_
      exact At.meet false (FLe.refl _) ⟨rfl, rfl, trivial⟩ rfl (some_inj H)
    replace H := ite_t hb10 H
    refine Lst.runG rfl rfl rfl hb10 rfl (by decide) (Ev.fieldAddr (off' := 1) rfl Try.runUnderlying47 rfl Try.sizeOf23 rfl rfl) ?_
    refine Lst.runG rfl rfl rfl hb10 rfl (by decide) (Ev.sliceAll rfl Try.runUnderlying23 Try.sizeOf3) ?_
    obtain ⟨r11, h12, H⟩ := bind_some H
    refine Lst.call1G rfl rfl rfl hb10 rfl (by decide) (vs := [Sl.v (Sl.mk (some ⟨b1, 1, none⟩) 6 6)]) ⟨rfl, trivial⟩ Try.call85 (slices_Min_int_int_sim h12 w0 _ _ _ (List.Sublist.refl _) (Rd.blk (i := 0) (xs := a0.At.toList) rfl ((Mail.get_At (Get.here _)).off (by rfl)) (by simp) (by decide))) ?_
    refine Lst.runG rfl rfl rfl hb10 rfl (by decide) (Ev.geq rfl rfl) ?_
    refine Lst.run rfl rfl (by decide) (Ev.pickT rfl hb10 rfl) ?_
    refine Lst.nil ?_
    exact At.meet (decide (r11 ≥ (0 : Int))) (FLe.refl _) ⟨rfl, rfl, trivial⟩ rfl (some_inj H)
  rintro F15 y9 hF16 hy
  subst hy
  refine Lst.as (e' := [(1, .pointer (some ⟨b1, 0, none⟩)), (16, .bool y9)]) (L' := (.blk b1 (enc a0) 47) :: L) ⟨rfl, rfl, trivial⟩ rfl ?_
  replace H := HKo8
  refine Lst.run rfl rfl (by decide) (Ev.move rfl) ?_
  obtain ⟨o17, H, HKo17⟩ := bind_some H
  refine Lst.join (σ := Bool) 7 (fun y18 => [(24, .bool y18)]) (fun y18 => (.blk b1 (enc a0) 47) :: L) (fun _ y18 => y18 = o17) ?_ ?_
  · rcases (Bool.eq_false_or_eq_true y9).symm with hb19 | hb19
    · replace H := ite_f hb19 H
      refine Lst.skip rfl rfl rfl hb19 rfl (by decide) ?_
      refine Lst.skip rfl rfl rfl hb19 rfl (by decide) ?_
      refine Lst.skip rfl rfl rfl hb19 rfl (by decide) ?_
      refine Lst.skip rfl rfl rfl hb19 rfl (by decide) ?_
      refine Lst.skip rfl rfl rfl hb19 rfl (by decide) ?_
      refine Lst.skip rfl rfl rfl hb19 rfl (by decide) ?_
      refine Lst.run rfl rfl (by decide) (Ev.pickF rfl hb19 rfl) ?_
      refine Lst.nil ?_
      exact At.meet false (FLe.refl _) ⟨rfl, trivial⟩ rfl (some_inj H)
    replace H := ite_t hb19 H
    refine Lst.runG rfl rfl rfl hb19 rfl (by decide) (Ev.fieldAddr (off' := 0) rfl Try.runUnderlying47 rfl Try.sizeOf3 rfl rfl) ?_
    refine Lst.runG rfl rfl rfl hb19 rfl (by decide) (Ev.load (i := 0) rfl rfl Try.isAgg3 (v := .int .i64 a0.From) ((Mail.get_From (Get.here _)).off (by rfl))) ?_
    refine Lst.runG rfl rfl rfl hb19 rfl (by decide) (Ev.fieldAddr (off' := 1) rfl Try.runUnderlying47 rfl Try.sizeOf23 rfl rfl) ?_
    obtain ⟨x20, h21, H⟩ := bind_some H
    have g22 := vat_some h21
    refine Lst.runG rfl rfl rfl hb19 rfl (by decide) (Ev.indexAddr (off' := 1 + a0.From.toNat * 1) rfl rfl Try.runUnderlying23 Try.sizeOf3 g22.1 g22.2.1 rfl) ?_
    refine Lst.runG rfl rfl rfl hb19 rfl (by decide) (Ev.load (i := 0) rfl rfl Try.isAgg3 (v := .int .i64 x20) ((Mail.get_At (Get.vecN (s := 1) (x := x20) rfl g22.2.2 (Get.here _))).off (by omega))) ?_
    refine Lst.runG rfl rfl rfl hb19 rfl (by decide) (Ev.gtr rfl rfl) ?_
    refine Lst.run rfl rfl (by decide) (Ev.pickT rfl hb19 rfl) ?_
    refine Lst.nil ?_
    exact At.meet (decide (x20 > (0 : Int))) (FLe.refl _) ⟨rfl, trivial⟩ rfl (some_inj H)
  rintro F23 y18 hF24 hy
  subst hy
  refine Lst.as (e' := [(24, .bool y18)]) (L' := (.blk b1 (enc a0) 47) :: L) ⟨rfl, trivial⟩ rfl ?_
  replace H := HKo17
  refine Lst.run rfl rfl (by decide) (Ev.assign rfl) ?_
  refine Lst.nil ?_
  refine At.then ?_
  obtain rfl := some_inj H
  refine Cd.ret ?_
  exact At.ret1 rfl (Res.tmp rfl) (FLe.trans (FLe.trans hF7 hF16) hF24) (List.Sublist.cons _ (List.Sublist.refl _)) ⟨rfl, rfl⟩
set_option maxRecDepth 20000 in
theorem partref_MailReady_sim {a0 : Vector Int 6} {a1 : Mail} {r : Bool} (H : partref_MailReady a0 a1 = some r) (w0 : World) (F : Frz) (M L : List Item) (hM : M.Sublist L) : Ok Try.prog w0 100 [.agg (enc a0).toArray, .agg (enc a1).toArray] F (L) (Is (.bool r) (L)) := by
  unfold partref_MailReady at H
  refine Ok.enter (m := 2) (n := 41) Try.func100 rfl rfl rfl (by decide) ?_
  refine Cd.env (e' := [(0, .agg (enc a0).toArray), (1, .agg (enc a1).toArray)]) rfl ?_
  refine Cd.seq ?_
  refine Cd.region ?_
  refine Lst.box rfl rfl (by decide) rfl (cs := enc a0) rfl (fun b1 => ?_)
  refine Lst.box rfl rfl (by decide) rfl (cs := enc a1) rfl (fun b3 => ?_)
  refine Lst.run rfl rfl (by decide) (Ev.assign rfl) ?_
  refine Lst.nil ?_
  refine At.then ?_
  refine Cd.seq ?_
  refine Cd.seq ?_
  refine Cd.region ?_
  refine Lst.run rfl rfl (by decide) (Ev.move rfl) ?_
  refine Lst.nil ?_
  refine At.then ?_
  refine Cd.block ?_
  obtain ⟨ol5, H, HKl5⟩ := andThen_some H
  refine Cd.loop (σ := Nat × Nat × Unit) (fun (i5, k5, _u) => [(2, .pointer (some ⟨b1, 0, none⟩)), (3, .pointer (some ⟨b3, 0, none⟩)), (6, .int .i64 (i5 : Int))]) (fun (i5, k5, _u) => (.blk b3 (enc a1) 47) :: (.blk b1 (enc a0) 23) :: L) (fun _ => (fun (i5, k5, _u) => rangeM (partref_MailReady_B0 a0 a1) k5 i5 () = some ol5 ∧ i5 + k5 = 6)) (fun (i5, k5, _u) => k5) (0, 6, ()) ⟨rfl, rfl, rfl, trivial⟩ rfl ⟨H, by omega⟩ ?_
  rintro F6 ⟨i5, k5, _u⟩ hF7 ⟨H, hik5⟩
  refine Cd.as (e' := [(2, .pointer (some ⟨b1, 0, none⟩)), (3, .pointer (some ⟨b3, 0, none⟩)), (6, .int .i64 (i5 : Int))]) (L' := (.blk b3 (enc a1) 47) :: (.blk b1 (enc a0) 23) :: L) ⟨rfl, rfl, rfl, trivial⟩ rfl ?_
  rcases k5 with _ | k5
  · have hc5 : decide ((i5 : Int) < (6 : Int)) = false := decide_eq_false (by omega)
    replace H := rangeM_end H
    refine Cd.seq ?_
    refine Cd.region ?_
    refine Lst.run rfl rfl (by decide) (Ev.lss rfl rfl) ?_
    refine Lst.nil ?_
    refine At.then ?_
    refine Cd.seq ?_
    refine Cd.condF rfl hc5 ?_
    refine Cd.exit ?_
    refine At.then_exit ?_
    refine At.then_exit ?_
    refine At.in_exit ?_
    subst H
    replace H := HKl5
    refine At.then ?_
    refine Cd.seq ?_
    refine Cd.region ?_
    refine Lst.run rfl rfl (by decide) (Ev.assign rfl) ?_
    refine Lst.nil ?_
    refine At.then ?_
    obtain rfl := some_inj H
    refine Cd.ret ?_
    exact At.ret1 rfl (Res.tmp rfl) hF7 (List.Sublist.cons _ (List.Sublist.cons _ (List.Sublist.refl _))) ⟨rfl, rfl⟩
  have hc5 : decide ((i5 : Int) < (6 : Int)) = true := decide_eq_true (by omega)
  obtain ⟨c5, H, hgo5, hbrk5, hret5⟩ := rangeM_go H
  unfold partref_MailReady_B0 at H
  try dsimp only at H
  refine Cd.seq ?_
  refine Cd.region ?_
  refine Lst.run rfl rfl (by decide) (Ev.lss rfl rfl) ?_
  refine Lst.nil ?_
  refine At.then ?_
  refine Cd.seq ?_
  refine Cd.condT rfl hc5 ?_
  refine Cd.skip ?_
  refine At.then ?_
  refine Cd.seq ?_
  refine Cd.block ?_
  refine Cd.seq ?_
  refine Cd.region ?_
  refine Lst.run rfl rfl (by decide) (Ev.move rfl) ?_
  refine Lst.run rfl rfl (by decide) (Ev.assign rfl) ?_
  refine Lst.nil ?_
  refine At.then ?_
  refine Cd.seq ?_
  refine Cd.quiet (by kernel_rfl) (by kernel_rfl) ?_
  refine Qt.run rfl rfl (by decide) (Ev.move rfl) ?_
  refine Qt.run rfl rfl (by decide) (Ev.fieldAddr (off' := 0) rfl Try.runUnderlying47 rfl Try.sizeOf3 rfl rfl) ?_
  refine Qt.run rfl rfl (by decide) (Ev.load (i := 0) rfl rfl Try.isAgg3 (v := .int .i64 a1.From) ((Mail.get_From (Get.here _)).off (by rfl))) ?_
  refine Qt.run rfl rfl (by decide) (Ev.eql rfl rfl) ?_
  refine Qt.run rfl rfl (by decide) (Ev.move rfl) ?_
  obtain ⟨o8, H, HKo8⟩ := bind_some H
  refine Qt.join (σ := Bool) 10 (fun y9 => [(2, .pointer (some ⟨b1, 0, none⟩)), (3, .pointer (some ⟨b3, 0, none⟩)), (5, .int .i64 (i5 : Int)), (6, .int .i64 (i5 : Int)), (23, .bool y9)]) (fun y9 => y9 = o8) ?_ ?_
  · rcases (Bool.eq_false_or_eq_true ((i5 : Int) == a1.From)).symm with hb10 | hb10
    · replace H := ite_f hb10 H
      refine Qt.skip rfl rfl rfl hb10 rfl (by decide) ?_
      refine Qt.skip rfl rfl rfl hb10 rfl (by decide) ?_
      refine Qt.skip rfl rfl rfl hb10 rfl (by decide) ?_
      refine Qt.skip rfl rfl rfl hb10 rfl (by decide) ?_
      refine Qt.skip rfl rfl rfl hb10 rfl (by decide) ?_
      refine Qt.skip rfl rfl rfl hb10 rfl (by decide) ?_
      refine Qt.skip rfl rfl rfl hb10 rfl (by decide) ?_
      refine Qt.skip rfl rfl rfl hb10 rfl (by decide) ?_
      refine Qt.skip rfl rfl rfl hb10 rfl (by decide) ?_
      refine Qt.run rfl rfl (by decide) (Ev.pickF rfl hb10 rfl) ?_
      exact Qt.meet false ⟨rfl, rfl, rfl, rfl, rfl, trivial⟩ (some_inj H)
    replace H := ite_t hb10 H
    refine Qt.runG rfl rfl rfl hb10 rfl (by decide) (Ev.move rfl) ?_
    refine Qt.runG rfl rfl rfl hb10 rfl (by decide) (Ev.fieldAddr (off' := 1) rfl Try.runUnderlying47 rfl Try.sizeOf23 rfl rfl) ?_
    obtain ⟨x11, h12, H⟩ := bind_some H
    have g13 := vat_some h12
    refine Qt.runG rfl rfl rfl hb10 rfl (by decide) (Ev.indexAddr (off' := 1 + (i5 : Int).toNat * 1) rfl rfl Try.runUnderlying23 Try.sizeOf3 g13.1 g13.2.1 rfl) ?_
    refine Qt.runG rfl rfl rfl hb10 rfl (by decide) (Ev.load (i := 0) rfl rfl Try.isAgg3 (v := .int .i64 x11) ((Mail.get_At (Get.vecN (s := 1) (x := x11) rfl g13.2.2 (Get.here _))).off (by omega))) ?_
    refine Qt.runG rfl rfl rfl hb10 rfl (by decide) (Ev.move rfl) ?_
    obtain ⟨x14, h15, H⟩ := bind_some H
    have g16 := vat_some h15
    refine Qt.runG rfl rfl rfl hb10 rfl (by decide) (Ev.indexAddr (off' := 0 + (i5 : Int).toNat * 1) rfl rfl Try.runUnderlying23 Try.sizeOf3 g16.1 g16.2.1 rfl) ?_
    refine Qt.runG rfl rfl rfl hb10 rfl (by decide) (Ev.load (i := 1) rfl rfl Try.isAgg3 (v := .int .i64 x14) ((Get.vecN (s := 1) (x := x14) rfl g16.2.2 (Get.here _)).off (by omega))) ?_
    refine Qt.runG rfl rfl rfl hb10 rfl (by decide) (Ev.add rfl rfl) ?_
    refine Qt.runG rfl rfl rfl hb10 rfl (by decide) (Ev.neq rfl rfl) ?_
    refine Qt.run rfl rfl (by decide) (Ev.pickT rfl hb10 rfl) ?_
    exact Qt.meet (x11 != (w64 (x14 + (1 : Int)))) ⟨rfl, rfl, rfl, rfl, rfl, trivial⟩ (some_inj H)
  rintro y9 hy
  subst hy
  refine Qt.as (e' := [(2, .pointer (some ⟨b1, 0, none⟩)), (3, .pointer (some ⟨b3, 0, none⟩)), (5, .int .i64 (i5 : Int)), (6, .int .i64 (i5 : Int)), (23, .bool y9)]) ⟨rfl, rfl, rfl, rfl, rfl, trivial⟩ ?_
  replace H := HKo8
  refine Qt.run rfl rfl (by decide) (Ev.move rfl) ?_
  obtain ⟨o17, H, HKo17⟩ := bind_some H
  refine Qt.join (σ := Bool) 15 (fun y18 => [(2, .pointer (some ⟨b1, 0, none⟩)), (3, .pointer (some ⟨b3, 0, none⟩)), (6, .int .i64 (i5 : Int)), (39, .bool y18)]) (fun y18 => y18 = o17) ?_ ?_
  · rcases Bool.eq_false_or_eq_true y9 with hb19 | hb19
    · replace H := ite_t hb19 H
      refine Qt.skip rfl rfl rfl hb19 rfl (by decide) ?_
      refine Qt.skip rfl rfl rfl hb19 rfl (by decide) ?_
      refine Qt.skip rfl rfl rfl hb19 rfl (by decide) ?_
      refine Qt.skip rfl rfl rfl hb19 rfl (by decide) ?_
      refine Qt.skip rfl rfl rfl hb19 rfl (by decide) ?_
      refine Qt.skipU rfl rfl rfl rfl (by decide) ?_
      refine Qt.skipU rfl rfl rfl rfl (by decide) ?_
      refine Qt.skipU rfl rfl rfl rfl (by decide) ?_
      refine Qt.skipU rfl rfl rfl rfl (by decide) ?_
      refine Qt.skipU rfl rfl rfl rfl (by decide) ?_
      refine Qt.skipU rfl rfl rfl rfl (by decide) ?_
      refine Qt.skipU rfl rfl rfl rfl (by decide) ?_
      refine Qt.skipU rfl rfl rfl rfl (by decide) ?_
      refine Qt.skip rfl rfl rfl hb19 rfl (by decide) ?_
      refine Qt.run rfl rfl (by decide) (Ev.pickT rfl hb19 rfl) ?_
      exact Qt.meet true ⟨rfl, rfl, rfl, rfl, trivial⟩ (some_inj H)
    replace H := ite_f hb19 H
    refine Qt.runG rfl rfl rfl hb19 rfl (by decide) (Ev.move rfl) ?_
    refine Qt.runG rfl rfl rfl hb19 rfl (by decide) (Ev.fieldAddr (off' := 0) rfl Try.runUnderlying47 rfl Try.sizeOf3 rfl rfl) ?_
    refine Qt.runG rfl rfl rfl hb19 rfl (by decide) (Ev.load (i := 0) rfl rfl Try.isAgg3 (v := .int .i64 a1.From) ((Mail.get_From (Get.here _)).off (by rfl))) ?_
    refine Qt.runG rfl rfl rfl hb19 rfl (by decide) (Ev.neq rfl rfl) ?_
    refine Qt.runG rfl rfl rfl hb19 rfl (by decide) (Ev.move rfl) ?_
    obtain ⟨o20, H, HKo20⟩ := bind_some H
    refine Qt.join (σ := Bool) 9 (fun y21 => [(2, .pointer (some ⟨b1, 0, none⟩)), (3, .pointer (some ⟨b3, 0, none⟩)), (6, .int .i64 (i5 : Int)), (24, .bool y9), (38, .bool y21)]) (fun y21 => y21 = o20) ?_ ?_
    · rcases (Bool.eq_false_or_eq_true ((i5 : Int) != a1.From)).symm with hb22 | hb22
      · replace H := ite_f hb22 H
        refine Qt.skip rfl rfl rfl hb22 rfl (by decide) ?_
        refine Qt.skip rfl rfl rfl hb22 rfl (by decide) ?_
        refine Qt.skip rfl rfl rfl hb22 rfl (by decide) ?_
        refine Qt.skip rfl rfl rfl hb22 rfl (by decide) ?_
        refine Qt.skip rfl rfl rfl hb22 rfl (by decide) ?_
        refine Qt.skip rfl rfl rfl hb22 rfl (by decide) ?_
        refine Qt.skip rfl rfl rfl hb22 rfl (by decide) ?_
        refine Qt.skip rfl rfl rfl hb22 rfl (by decide) ?_
        refine Qt.runG rfl rfl rfl hb19 rfl (by decide) (Ev.pickF rfl hb22 rfl) ?_
        exact Qt.meet false ⟨rfl, rfl, rfl, rfl, rfl, trivial⟩ (some_inj H)
      replace H := ite_t hb22 H
      refine Qt.runG rfl rfl rfl hb22 rfl (by decide) (Ev.move rfl) ?_
      refine Qt.runG rfl rfl rfl hb22 rfl (by decide) (Ev.fieldAddr (off' := 1) rfl Try.runUnderlying47 rfl Try.sizeOf23 rfl rfl) ?_
      obtain ⟨x23, h24, H⟩ := bind_some H
      have g25 := vat_some h24
      refine Qt.runG rfl rfl rfl hb22 rfl (by decide) (Ev.indexAddr (off' := 1 + (i5 : Int).toNat * 1) rfl rfl Try.runUnderlying23 Try.sizeOf3 g25.1 g25.2.1 rfl) ?_
      refine Qt.runG rfl rfl rfl hb22 rfl (by decide) (Ev.load (i := 0) rfl rfl Try.isAgg3 (v := .int .i64 x23) ((Mail.get_At (Get.vecN (s := 1) (x := x23) rfl g25.2.2 (Get.here _))).off (by omega))) ?_
      refine Qt.runG rfl rfl rfl hb22 rfl (by decide) (Ev.move rfl) ?_
      obtain ⟨x26, h27, H⟩ := bind_some H
      have g28 := vat_some h27
      refine Qt.runG rfl rfl rfl hb22 rfl (by decide) (Ev.indexAddr (off' := 0 + (i5 : Int).toNat * 1) rfl rfl Try.runUnderlying23 Try.sizeOf3 g28.1 g28.2.1 rfl) ?_
      refine Qt.runG rfl rfl rfl hb22 rfl (by decide) (Ev.load (i := 1) rfl rfl Try.isAgg3 (v := .int .i64 x26) ((Get.vecN (s := 1) (x := x26) rfl g28.2.2 (Get.here _)).off (by omega))) ?_
      refine Qt.runG rfl rfl rfl hb22 rfl (by decide) (Ev.gtr rfl rfl) ?_
      refine Qt.runG rfl rfl rfl hb19 rfl (by decide) (Ev.pickT rfl hb22 rfl) ?_
      exact Qt.meet (decide (x23 > x26)) ⟨rfl, rfl, rfl, rfl, rfl, trivial⟩ (some_inj H)
    rintro y21 hy
    subst hy
    refine Qt.as (e' := [(2, .pointer (some ⟨b1, 0, none⟩)), (3, .pointer (some ⟨b3, 0, none⟩)), (6, .int .i64 (i5 : Int)), (24, .bool y9), (38, .bool y21)]) ⟨rfl, rfl, rfl, rfl, rfl, trivial⟩ ?_
    replace H := HKo20
    refine Qt.run rfl rfl (by decide) (Ev.pickF rfl hb19 rfl) ?_
    exact Qt.meet y21 ⟨rfl, rfl, rfl, rfl, trivial⟩ (some_inj H)
  rintro y18 hy
  subst hy
  refine Qt.as (e' := [(2, .pointer (some ⟨b1, 0, none⟩)), (3, .pointer (some ⟨b3, 0, none⟩)), (6, .int .i64 (i5 : Int)), (39, .bool y18)]) ⟨rfl, rfl, rfl, rfl, trivial⟩ ?_
  replace H := HKo17
  refine Qt.done ?_
  refine At.then ?_
  rcases Bool.eq_false_or_eq_true y18 with hb29 | hb29
  · replace H := ite_t hb29 H
    refine Cd.condT rfl hb29 ?_
    refine Cd.seq ?_
    refine Cd.region ?_
    refine Lst.run rfl rfl (by decide) (Ev.assign rfl) ?_
    refine Lst.nil ?_
    refine At.then ?_
    have H := hret5 _ (some_inj H).symm
    subst H
    replace H := HKl5
    obtain rfl := some_inj H
    refine Cd.ret ?_
    refine At.in_ret ?_
    refine At.then_ret ?_
    refine At.then_ret ?_
    refine At.in_ret ?_
    refine At.then_ret ?_
    exact At.ret1 rfl (Res.tmp rfl) hF7 (List.Sublist.cons _ (List.Sublist.cons _ (List.Sublist.refl _))) ⟨rfl, rfl⟩
  replace H := ite_f hb29 H
  refine Cd.condF rfl hb29 ?_
  refine Cd.skip ?_
  refine At.in_normal ?_
  refine At.then ?_
  refine Cd.region ?_
  refine Lst.run rfl rfl (by decide) (Ev.incr (by omega) rfl rfl) ?_
  refine Lst.run rfl rfl (by decide) (Ev.move rfl) ?_
  refine Lst.nil ?_
  exact At.meet (i5 + 1, k5, ()) hF7 ⟨rfl, rfl, rfl, trivial⟩ rfl ⟨⟨hgo5 _ (some_inj H).symm, by omega⟩, Nat.lt_succ_self _⟩
set_option maxRecDepth 20000 in
theorem partref_sameMail_sim {a0 : Mail} {a1 : Mail} {r : Bool} (H : partref_sameMail a0 a1 = some r) (w0 : World) (F : Frz) (M L : List Item) (hM : M.Sublist L) : Ok Try.prog w0 103 [.agg (enc a0).toArray, .agg (enc a1).toArray] F (L) (Is (.bool r) (L)) := by
  unfold partref_sameMail at H
  refine Ok.enter (m := 2) (n := 23) Try.func103 rfl rfl rfl (by decide) ?_
  refine Cd.env (e' := [(0, .agg (enc a0).toArray), (1, .agg (enc a1).toArray)]) rfl ?_
  refine Cd.seq ?_
  refine Cd.region ?_
  refine Lst.box rfl rfl (by decide) rfl (cs := enc a0) rfl (fun b1 => ?_)
  refine Lst.box rfl rfl (by decide) rfl (cs := enc a1) rfl (fun b3 => ?_)
  refine Lst.run rfl rfl (by decide) (Ev.assign rfl) ?_
  refine Lst.nil ?_
  refine At.then ?_
  refine Cd.seq ?_
  refine Cd.quiet (by kernel_rfl) (by kernel_rfl) ?_
  refine Qt.run rfl rfl (by decide) (Ev.fieldAddr (off' := 0) rfl Try.runUnderlying47 rfl Try.sizeOf3 rfl rfl) ?_
  refine Qt.run rfl rfl (by decide) (Ev.load (i := 1) rfl rfl Try.isAgg3 (v := .int .i64 a0.From) ((Mail.get_From (Get.here _)).off (by rfl))) ?_
  refine Qt.run rfl rfl (by decide) (Ev.fieldAddr (off' := 0) rfl Try.runUnderlying47 rfl Try.sizeOf3 rfl rfl) ?_
  refine Qt.run rfl rfl (by decide) (Ev.load (i := 0) rfl rfl Try.isAgg3 (v := .int .i64 a1.From) ((Mail.get_From (Get.here _)).off (by rfl))) ?_
  refine Qt.run rfl rfl (by decide) (Ev.eql rfl rfl) ?_
  refine Qt.run rfl rfl (by decide) (Ev.move rfl) ?_
  obtain ⟨o5, H, HKo5⟩ := bind_some H
  refine Qt.join (σ := Bool) 12 (fun y6 => [(22, .bool y6)]) (fun y6 => y6 = o5) ?_ ?_
  · rcases (Bool.eq_false_or_eq_true (a0.From == a1.From)).symm with hb7 | hb7
    · replace H := ite_f hb7 H
      refine Qt.skip rfl rfl rfl hb7 rfl (by decide) ?_
      refine Qt.skip rfl rfl rfl hb7 rfl (by decide) ?_
      refine Qt.skip rfl rfl rfl hb7 rfl (by decide) ?_
      refine Qt.skip rfl rfl rfl hb7 rfl (by decide) ?_
      refine Qt.skip rfl rfl rfl hb7 rfl (by decide) ?_
      refine Qt.skip rfl rfl rfl hb7 rfl (by decide) ?_
      refine Qt.skip rfl rfl rfl hb7 rfl (by decide) ?_
      refine Qt.skip rfl rfl rfl hb7 rfl (by decide) ?_
      refine Qt.skip rfl rfl rfl hb7 rfl (by decide) ?_
      refine Qt.skip rfl rfl rfl hb7 rfl (by decide) ?_
      refine Qt.skip rfl rfl rfl hb7 rfl (by decide) ?_
      refine Qt.run rfl rfl (by decide) (Ev.pickF rfl hb7 rfl) ?_
      exact Qt.meet false ⟨rfl, trivial⟩ (some_inj H)
    replace H := ite_t hb7 H
    refine Qt.runG rfl rfl rfl hb7 rfl (by decide) (Ev.fieldAddr (off' := 0) rfl Try.runUnderlying47 rfl Try.sizeOf3 rfl rfl) ?_
    refine Qt.runG rfl rfl rfl hb7 rfl (by decide) (Ev.load (i := 1) rfl rfl Try.isAgg3 (v := .int .i64 a0.From) ((Mail.get_From (Get.here _)).off (by rfl))) ?_
    refine Qt.runG rfl rfl rfl hb7 rfl (by decide) (Ev.fieldAddr (off' := 1) rfl Try.runUnderlying47 rfl Try.sizeOf23 rfl rfl) ?_
    obtain ⟨x8, h9, H⟩ := bind_some H
    have g10 := vat_some h9
    refine Qt.runG rfl rfl rfl hb7 rfl (by decide) (Ev.indexAddr (off' := 1 + a0.From.toNat * 1) rfl rfl Try.runUnderlying23 Try.sizeOf3 g10.1 g10.2.1 rfl) ?_
    refine Qt.runG rfl rfl rfl hb7 rfl (by decide) (Ev.load (i := 1) rfl rfl Try.isAgg3 (v := .int .i64 x8) ((Mail.get_At (Get.vecN (s := 1) (x := x8) rfl g10.2.2 (Get.here _))).off (by omega))) ?_
    refine Qt.runG rfl rfl rfl hb7 rfl (by decide) (Ev.fieldAddr (off' := 0) rfl Try.runUnderlying47 rfl Try.sizeOf3 rfl rfl) ?_
    refine Qt.runG rfl rfl rfl hb7 rfl (by decide) (Ev.load (i := 0) rfl rfl Try.isAgg3 (v := .int .i64 a1.From) ((Mail.get_From (Get.here _)).off (by rfl))) ?_
    refine Qt.runG rfl rfl rfl hb7 rfl (by decide) (Ev.fieldAddr (off' := 1) rfl Try.runUnderlying47 rfl Try.sizeOf23 rfl rfl) ?_
    obtain ⟨x11, h12, H⟩ := bind_some H
    have g13 := vat_some h12
    refine Qt.runG rfl rfl rfl hb7 rfl (by decide) (Ev.indexAddr (off' := 1 + a1.From.toNat * 1) rfl rfl Try.runUnderlying23 Try.sizeOf3 g13.1 g13.2.1 rfl) ?_
    refine Qt.runG rfl rfl rfl hb7 rfl (by decide) (Ev.load (i := 0) rfl rfl Try.isAgg3 (v := .int .i64 x11) ((Mail.get_At (Get.vecN (s := 1) (x := x11) rfl g13.2.2 (Get.here _))).off (by omega))) ?_
    refine Qt.runG rfl rfl rfl hb7 rfl (by decide) (Ev.eql rfl rfl) ?_
    refine Qt.run rfl rfl (by decide) (Ev.pickT rfl hb7 rfl) ?_
    exact Qt.meet (x8 == x11) ⟨rfl, trivial⟩ (some_inj H)
  rintro y6 hy
  subst hy
  refine Qt.as (e' := [(22, .bool y6)]) ⟨rfl, trivial⟩ ?_
  replace H := HKo5
  refine Qt.run rfl rfl (by decide) (Ev.assign rfl) ?_
  refine Qt.done ?_
  refine At.then ?_
  obtain rfl := some_inj H
  refine Cd.ret ?_
  exact At.ret1 rfl (Res.tmp rfl) (FLe.refl _) (List.Sublist.cons _ (List.Sublist.cons _ (List.Sublist.refl _))) ⟨rfl, rfl⟩
set_option maxRecDepth 20000 in
theorem partref_CausalErr_1_sim {a0 : Mail} {a1 : Mail} {b_a1 : Nat} {r : Bool} (H : partref_CausalErr_1 a0 a1 = some r) (w0 : World) (F : Frz) (M L : List Item) (hM : M.Sublist L) : Ok Try.prog w0 102 [.agg (enc a0).toArray, .pointer (some ⟨b_a1, 0, none⟩)] F ((.blk b_a1 (enc a1) 47) :: L) (Is (.bool r) ((.blk b_a1 (enc a1) 47) :: L)) := by
  unfold partref_CausalErr_1 at H
  refine Ok.enter (m := 2) (n := 7) Try.func102 rfl rfl rfl (by decide) ?_
  refine Cd.env (e' := [(0, .agg (enc a0).toArray), (1, .pointer (some ⟨b_a1, 0, none⟩))]) rfl ?_
  refine Cd.seq ?_
  refine Cd.region ?_
  refine Lst.box rfl rfl (by decide) rfl (cs := enc a0) rfl (fun b2 => ?_)
  refine Lst.run rfl rfl (by decide) (Ev.assign rfl) ?_
  refine Lst.nil ?_
  refine At.then ?_
  refine Cd.seq ?_
  refine Cd.region ?_
  refine Lst.run rfl rfl (by decide) (Ev.loadA (i := 0) rfl rfl Try.isAgg47 Try.sizeOf47 (ch := enc a0) (Enc.len _) (Get.here _)) ?_
  refine Lst.run rfl rfl (by decide) (Ev.loadA (i := 1) rfl rfl Try.isAgg47 Try.sizeOf47 (ch := enc a1) (Enc.len _) (Get.here _)) ?_
  obtain ⟨r4, h5, H⟩ := bind_some H
  refine Lst.call1 rfl rfl (by decide) (vs := [.agg (enc a0).toArray, .agg (enc a1).toArray]) ⟨rfl, rfl, trivial⟩ Try.call103 (partref_sameMail_sim h5 w0 _ M _ (List.Sublist.cons _ (List.Sublist.cons _ hM))) ?_
  refine Lst.run rfl rfl (by decide) (Ev.assign rfl) ?_
  refine Lst.nil ?_
  refine At.then ?_
  obtain rfl := some_inj H
  refine Cd.ret ?_
  exact At.ret1 rfl (Res.tmp rfl) (FLe.refl _) (List.Sublist.cons _ (List.Sublist.cons_cons _ (List.Sublist.refl _))) ⟨rfl, rfl⟩
set_option maxRecDepth 20000 in
theorem slices_IndexFunc_api_Mail_api_Mail_CausalErr_1_sim {a0 : List Mail} {a1_c0 : Mail} {s_a0 : Sl} {b_a1_c0 : Nat} {r : Int} (H : slices_IndexFunc_api_Mail_api_Mail_CausalErr_1 a0 a1_c0 = some r) (w0 : World) (F : Frz) (M L : List Item) (hM : M.Sublist L) (hs_a0 : Rd w0 F M s_a0 a0) : Ok Try.prog w0 109 [Sl.v s_a0, .func (.func 102) #[] #[.pointer (some ⟨b_a1_c0, 0, none⟩)]] F ((.blk b_a1_c0 (enc a1_c0) 47) :: L) (Is (.int .i64 r) ((.blk b_a1_c0 (enc a1_c0) 47) :: L)) := by
  unfold slices_IndexFunc_api_Mail_api_Mail_CausalErr_1 at H
  refine Ok.enter (m := 2) (n := 19) Try.func109 rfl rfl rfl (by decide) ?_
  refine Cd.env (e' := [(0, Sl.v s_a0), (1, .func (.func 102) #[] #[.pointer (some ⟨b_a1_c0, 0, none⟩)])]) rfl ?_
  refine Cd.seq ?_
  refine Cd.region ?_
  refine Lst.run rfl rfl (by decide) (Ev.assign rfl) ?_
  refine Lst.nil ?_
  refine At.then ?_
  refine Cd.seq ?_
  refine Cd.seq ?_
  refine Cd.region ?_
  refine Lst.run rfl rfl (by decide) (Ev.move rfl) ?_
  refine Lst.run rfl rfl (by decide) (Ev.lenS (α := Mail) (xs := a0) (by decide) rfl rfl Try.runUnderlying43 (hs_a0.mono (FLe.refl _) (List.Sublist.cons _ hM))) ?_
  refine Lst.run rfl rfl (by decide) (Ev.move rfl) ?_
  refine Lst.nil ?_
  refine At.then ?_
  refine Cd.block ?_
  refine Cd.bound (Rd.le (α := Mail) (xs := a0) (by decide) (hs_a0.mono (FLe.refl _) (List.Sublist.cons _ hM))) (fun hN13 => ?_)
  obtain ⟨ol2, H, HKl2⟩ := andThen_some H
  refine Cd.loop (σ := Nat × Nat × Unit) (fun (i2, k2, _u) => [(0, Sl.v s_a0), (1, .func (.func 102) #[] #[.pointer (some ⟨b_a1_c0, 0, none⟩)]), (7, .int .i64 (a0.length : Int)), (8, .int .i64 (i2 : Int))]) (fun (i2, k2, _u) => (.blk b_a1_c0 (enc a1_c0) 47) :: L) (fun _ => (fun (i2, k2, _u) => rangeM (slices_IndexFunc_api_Mail_api_Mail_CausalErr_1_B0 a0 a1_c0) k2 i2 () = some ol2 ∧ i2 + k2 = a0.length)) (fun (i2, k2, _u) => k2) (0, a0.length, ()) ⟨rfl, rfl, rfl, rfl, trivial⟩ rfl ⟨H, by omega⟩ ?_
  rintro F3 ⟨i2, k2, _u⟩ hF4 ⟨H, hik2⟩
  refine Cd.as (e' := [(0, Sl.v s_a0), (1, .func (.func 102) #[] #[.pointer (some ⟨b_a1_c0, 0, none⟩)]), (7, .int .i64 (a0.length : Int)), (8, .int .i64 (i2 : Int))]) (L' := (.blk b_a1_c0 (enc a1_c0) 47) :: L) ⟨rfl, rfl, rfl, rfl, trivial⟩ rfl ?_
  rcases k2 with _ | k2
  · have hc2 : decide ((i2 : Int) < (a0.length : Int)) = false := decide_eq_false (by omega)
    replace H := rangeM_end H
    refine Cd.seq ?_
    refine Cd.region ?_
    refine Lst.run rfl rfl (by decide) (Ev.lss rfl rfl) ?_
    refine Lst.nil ?_
    refine At.then ?_
    refine Cd.seq ?_
    refine Cd.condF rfl hc2 ?_
    refine Cd.exit ?_
    refine At.then_exit ?_
    refine At.then_exit ?_
    refine At.in_exit ?_
    subst H
    replace H := HKl2
    refine At.then ?_
    refine Cd.seq ?_
    refine Cd.region ?_
    refine Lst.run rfl rfl (by decide) (Ev.assign rfl) ?_
    refine Lst.nil ?_
    refine At.then ?_
    obtain rfl := some_inj H
    refine Cd.ret ?_
    exact At.ret1 rfl (Res.tmp rfl) hF4 (List.Sublist.cons_cons _ (List.Sublist.refl _)) ⟨rfl, rfl⟩
  have hc2 : decide ((i2 : Int) < (a0.length : Int)) = true := decide_eq_true (by omega)
  obtain ⟨c2, H, hgo2, hbrk2, hret2⟩ := rangeM_go H
  unfold slices_IndexFunc_api_Mail_api_Mail_CausalErr_1_B0 at H
  try dsimp only at H
  refine Cd.seq ?_
  refine Cd.region ?_
  refine Lst.run rfl rfl (by decide) (Ev.lss rfl rfl) ?_
  refine Lst.nil ?_
  refine At.then ?_
  refine Cd.seq ?_
  refine Cd.condT rfl hc2 ?_
  refine Cd.skip ?_
  refine At.then ?_
  refine Cd.seq ?_
  refine Cd.block ?_
  refine Cd.seq ?_
  refine Cd.region ?_
  refine Lst.run rfl rfl (by decide) (Ev.move rfl) ?_
  refine Lst.run rfl rfl (by decide) (Ev.assign rfl) ?_
  refine Lst.nil ?_
  refine At.then ?_
  refine Cd.seq ?_
  refine Cd.region ?_
  refine Lst.run rfl rfl (by decide) (Ev.move rfl) ?_
  refine Lst.run rfl rfl (by decide) (Ev.move rfl) ?_
  refine Lst.run rfl rfl (by decide) (Ev.move rfl) ?_
  obtain ⟨x5, h6, H⟩ := bind_some H
  have g7 := lat_some h6
  refine Lst.run rfl rfl (by decide) (Ev.indexS (α := Mail) (xs := a0) rfl rfl Try.runUnderlying43 Try.sizeOf47 rfl (by decide) (hs_a0.mono hF4 (List.Sublist.cons _ hM)) g7.1 g7.2.1) ?_
  refine Lst.run rfl rfl (by decide) (Ev.loadSA (α := Mail) rfl (hs_a0.mono hF4 (List.Sublist.cons _ hM)) Try.isAgg47 Try.sizeOf47 (ch := enc x5) (Enc.len _) (by decide) ((Get.elemN (s := 8) (x := x5) rfl g7.2.2 (Get.here _)).off (by omega))) ?_
  obtain ⟨r8, h9, H⟩ := bind_some H
  refine Lst.callV1 rfl rfl (by decide) (vs := [.agg (enc x5).toArray]) (cs := [.pointer (some ⟨b_a1_c0, 0, none⟩)]) rfl ⟨rfl, trivial⟩ Try.call102 (partref_CausalErr_1_sim h9 w0 _ M _ hM) ?_
  refine Lst.nil ?_
  refine At.then ?_
  rcases Bool.eq_false_or_eq_true r8 with hb12 | hb12
  · replace H := ite_t hb12 H
    refine Cd.condT rfl hb12 ?_
    refine Cd.seq ?_
    refine Cd.region ?_
    refine Lst.run rfl rfl (by decide) (Ev.move rfl) ?_
    refine Lst.run rfl rfl (by decide) (Ev.assign rfl) ?_
    refine Lst.nil ?_
    refine At.then ?_
    have H := hret2 _ (some_inj H).symm
    subst H
    replace H := HKl2
    obtain rfl := some_inj H
    refine Cd.ret ?_
    refine At.in_ret ?_
    refine At.then_ret ?_
    refine At.then_ret ?_
    refine At.in_ret ?_
    refine At.then_ret ?_
    exact At.ret1 rfl (Res.tmp rfl) hF4 (List.Sublist.cons_cons _ (List.Sublist.refl _)) ⟨rfl, rfl⟩
  replace H := ite_f hb12 H
  refine Cd.condF rfl hb12 ?_
  refine Cd.skip ?_
  refine At.in_normal ?_
  refine At.then ?_
  refine Cd.region ?_
  refine Lst.run rfl rfl (by decide) (Ev.incr (by omega) rfl rfl) ?_
  refine Lst.run rfl rfl (by decide) (Ev.move rfl) ?_
  refine Lst.nil ?_
  exact At.meet (i2 + 1, k2, ()) hF4 ⟨rfl, rfl, rfl, rfl, trivial⟩ rfl ⟨⟨hgo2 _ (some_inj H).symm, by omega⟩, Nat.lt_succ_self _⟩
set_option maxRecDepth 20000 in
theorem slices_ContainsFunc_api_Mail_api_Mail_CausalErr_1_sim {a0 : List Mail} {a1_c0 : Mail} {s_a0 : Sl} {b_a1_c0 : Nat} {r : Bool} (H : slices_ContainsFunc_api_Mail_api_Mail_CausalErr_1 a0 a1_c0 = some r) (w0 : World) (F : Frz) (M L : List Item) (hM : M.Sublist L) (hs_a0 : Rd w0 F M s_a0 a0) : Ok Try.prog w0 101 [Sl.v s_a0, .func (.func 102) #[] #[.pointer (some ⟨b_a1_c0, 0, none⟩)]] F ((.blk b_a1_c0 (enc a1_c0) 47) :: L) (Is (.bool r) ((.blk b_a1_c0 (enc a1_c0) 47) :: L)) := by
  unfold slices_ContainsFunc_api_Mail_api_Mail_CausalErr_1 at H
  refine Ok.enter (m := 2) (n := 9) Try.func101 rfl rfl rfl (by decide) ?_
  refine Cd.env (e' := [(0, Sl.v s_a0), (1, .func (.func 102) #[] #[.pointer (some ⟨b_a1_c0, 0, none⟩)])]) rfl ?_
  refine Cd.seq ?_
  refine Cd.region ?_
  refine Lst.run rfl rfl (by decide) (Ev.assign rfl) ?_
  refine Lst.nil ?_
  refine At.then ?_
  refine Cd.seq ?_
  refine Cd.region ?_
  refine Lst.run rfl rfl (by decide) (Ev.move rfl) ?_
  refine Lst.run rfl rfl (by decide) (Ev.move rfl) ?_
  obtain ⟨r2, h3, H⟩ := bind_some H
  refine Lst.call1 rfl rfl (by decide) (vs := [Sl.v s_a0, .func (.func 102) #[] #[.pointer (some ⟨b_a1_c0, 0, none⟩)]]) ⟨rfl, rfl, trivial⟩ Try.call109 (slices_IndexFunc_api_Mail_api_Mail_CausalErr_1_sim h3 w0 _ M _ hM (hs_a0.mono (FLe.refl _) (List.Sublist.refl _))) ?_
  refine Lst.run rfl rfl (by decide) (Ev.geq rfl rfl) ?_
  refine Lst.run rfl rfl (by decide) (Ev.assign rfl) ?_
  refine Lst.nil ?_
  refine At.then ?_
  obtain rfl := some_inj H
  refine Cd.ret ?_
  exact At.ret1 rfl (Res.tmp rfl) (FLe.refl _) (List.Sublist.cons_cons _ (List.Sublist.refl _)) ⟨rfl, rfl⟩
set_option maxRecDepth 20000 in
theorem partref_CausalErr_sim {fu : Nat} {a0 : Causal} {s_a0_2 : Sl} {r : Int} (H : partref_CausalErr fu a0 = some r) (w0 : World) (F : Frz) (M L : List Item) (hM : M.Sublist L) (hs_a0_2 : Rd w0 F M s_a0_2 a0.Hold) : Ok Try.prog w0 26 [.agg (enc (CausalR.mk a0 s_a0_2)).toArray] F (L) (Is (.int .i64 r) (L)) := by
  unfold partref_CausalErr at H
  refine Ok.enter (m := 1) (n := 69) Try.func26 rfl rfl rfl (by decide) ?_
  refine Cd.env (e' := [(0, .agg (enc (CausalR.mk a0 s_a0_2)).toArray)]) rfl ?_
  refine Cd.seq ?_
  refine Cd.region ?_
  refine Lst.box rfl rfl (by decide) rfl (cs := enc (CausalR.mk a0 s_a0_2)) rfl (fun b1 => ?_)
  refine Lst.run rfl rfl (by decide) (Ev.assign rfl) ?_
  refine Lst.nil ?_
  refine At.then ?_
  refine Cd.seq ?_
  refine Cd.seq ?_
  refine Cd.region ?_
  refine Lst.run rfl rfl (by decide) (Ev.fieldAddr (off' := 0) rfl Try.runUnderlying45 rfl Try.sizeOf3 rfl rfl) ?_
  refine Lst.run rfl rfl (by decide) (Ev.load (i := 0) rfl rfl Try.isAgg3 (v := .int .i64 a0.Me) ((CausalR.get_Me (Get.here _)).off (by rfl))) ?_
  refine Lst.run rfl rfl (by decide) (Ev.lss rfl rfl) ?_
  refine Lst.run rfl rfl (by decide) (Ev.move rfl) ?_
  obtain ⟨o3, H, HKo3⟩ := bind_some H
  refine Lst.join (σ := Bool) 4 (fun y4 => [(1, .pointer (some ⟨b1, 0, none⟩)), (12, .bool y4)]) (fun y4 => (.blk b1 (enc (CausalR.mk a0 s_a0_2)) 45) :: L) (fun _ y4 => y4 = o3) ?_ ?_
  · rcases Bool.eq_false_or_eq_true (decide (a0.Me < (0 : Int))) with hb5 | hb5
    · replace H := ite_t hb5 H
      refine Lst.skip rfl rfl rfl hb5 rfl (by decide) ?_
      refine Lst.skip rfl rfl rfl hb5 rfl (by decide) ?_
      refine Lst.skip rfl rfl rfl hb5 rfl (by decide) ?_
      refine Lst.run rfl rfl (by decide) (Ev.pickT rfl hb5 rfl) ?_
      refine Lst.nil ?_
      exact At.meet true (FLe.refl _) ⟨rfl, rfl, trivial⟩ rfl (some_inj H)
    replace H := ite_f hb5 H
    refine Lst.runG rfl rfl rfl hb5 rfl (by decide) (Ev.fieldAddr (off' := 0) rfl Try.runUnderlying45 rfl Try.sizeOf3 rfl rfl) ?_
    refine Lst.runG rfl rfl rfl hb5 rfl (by decide) (Ev.load (i := 0) rfl rfl Try.isAgg3 (v := .int .i64 a0.Me) ((CausalR.get_Me (Get.here _)).off (by rfl))) ?_
    refine Lst.runG rfl rfl rfl hb5 rfl (by decide) (Ev.gtr rfl rfl) ?_
    refine Lst.run rfl rfl (by decide) (Ev.pickF rfl hb5 rfl) ?_
    refine Lst.nil ?_
    exact At.meet (decide (a0.Me > (5 : Int))) (FLe.refl _) ⟨rfl, rfl, trivial⟩ rfl (some_inj H)
  rintro F6 y4 hF7 hy
  subst hy
  refine Lst.as (e' := [(1, .pointer (some ⟨b1, 0, none⟩)), (12, .bool y4)]) (L' := (.blk b1 (enc (CausalR.mk a0 s_a0_2)) 45) :: L) ⟨rfl, rfl, trivial⟩ rfl ?_
  replace H := HKo3
  refine Lst.run rfl rfl (by decide) (Ev.move rfl) ?_
  obtain ⟨o8, H, HKo8⟩ := bind_some H
  refine Lst.join (σ := Bool) 5 (fun y9 => [(1, .pointer (some ⟨b1, 0, none⟩)), (18, .bool y9)]) (fun y9 => (.blk b1 (enc (CausalR.mk a0 s_a0_2)) 45) :: L) (fun _ y9 => y9 = o8) ?_ ?_
  · rcases Bool.eq_false_or_eq_true y4 with hb10 | hb10
    · replace H := ite_t hb10 H
      refine Lst.skip rfl rfl rfl hb10 rfl (by decide) ?_
      refine Lst.skip rfl rfl rfl hb10 rfl (by decide) ?_
      refine Lst.skip rfl rfl rfl hb10 rfl (by decide) ?_
      refine Lst.skip rfl rfl rfl hb10 rfl (by decide) ?_
      refine Lst.run rfl rfl (by decide) (Ev.pickT rfl hb10 rfl) ?_
      refine Lst.nil ?_
      exact At.meet true (FLe.refl _) ⟨rfl, rfl, trivial⟩ rfl (some_inj H)
    replace H := ite_f hb10 H
    refine Lst.runG rfl rfl rfl hb10 rfl (by decide) (Ev.fieldAddr (off' := 1) rfl Try.runUnderlying45 rfl Try.sizeOf23 rfl rfl) ?_
    refine Lst.runG rfl rfl rfl hb10 rfl (by decide) (Ev.sliceAll rfl Try.runUnderlying23 Try.sizeOf3) ?_
    obtain ⟨r11, h12, H⟩ := bind_some H
    refine Lst.call1G rfl rfl rfl hb10 rfl (by decide) (vs := [Sl.v (Sl.mk (some ⟨b1, 1, none⟩) 6 6)]) ⟨rfl, trivial⟩ Try.call85 (slices_Min_int_int_sim h12 w0 _ _ _ (List.Sublist.refl _) (Rd.blk (i := 0) (xs := a0.Seen.toList) rfl ((CausalR.get_Seen (Get.here _)).off (by rfl)) (by simp) (by decide))) ?_
    refine Lst.runG rfl rfl rfl hb10 rfl (by decide) (Ev.lss rfl rfl) ?_
    refine Lst.run rfl rfl (by decide) (Ev.pickF rfl hb10 rfl) ?_
    refine Lst.nil ?_
    exact At.meet (decide (r11 < (0 : Int))) (FLe.refl _) ⟨rfl, rfl, trivial⟩ rfl (some_inj H)
  rintro F15 y9 hF16 hy
  subst hy
  refine Lst.as (e' := [(1, .pointer (some ⟨b1, 0, none⟩)), (18, .bool y9)]) (L' := (.blk b1 (enc (CausalR.mk a0 s_a0_2)) 45) :: L) ⟨rfl, rfl, trivial⟩ rfl ?_
  replace H := HKo8
  refine Lst.nil ?_
  refine At.then ?_
  rcases Bool.eq_false_or_eq_true y9 with hb17 | hb17
  · replace H := ite_t hb17 H
    refine Cd.condT rfl hb17 ?_
    refine Cd.seq ?_
    refine Cd.region ?_
    refine Lst.run rfl rfl (by decide) (Ev.assign rfl) ?_
    refine Lst.nil ?_
    refine At.then ?_
    obtain rfl := some_inj H
    refine Cd.ret ?_
    refine At.then_ret ?_
    exact At.ret1 rfl (Res.tmp rfl) (FLe.trans hF7 hF16) (List.Sublist.cons _ (List.Sublist.refl _)) ⟨rfl, rfl⟩
  replace H := ite_f hb17 H
  refine Cd.condF rfl hb17 ?_
  refine Cd.skip ?_
  refine At.then ?_
  refine Cd.seq ?_
  refine Cd.seq ?_
  refine Cd.region ?_
  refine Lst.run rfl rfl (by decide) (Ev.fieldAddr (off' := 7) rfl Try.runUnderlying45 rfl Try.sizeOf43 rfl rfl) ?_
  refine Lst.run rfl rfl (by decide) (Ev.load (i := 0) rfl rfl Try.isAgg43 (v := Sl.v s_a0_2) ((CausalR.get_Hold (Get.here _)).off (by rfl))) ?_
  refine Lst.run rfl rfl (by decide) (Ev.lenS (α := Mail) (xs := a0.Hold) (by decide) rfl rfl Try.runUnderlying43 (hs_a0_2.mono (FLe.trans hF7 hF16) (List.Sublist.cons _ hM))) ?_
  refine Lst.run rfl rfl (by decide) (Ev.gtr rfl rfl) ?_
  refine Lst.nil ?_
  refine At.then ?_
  rcases Bool.eq_false_or_eq_true (decide ((a0.Hold.length : Int) > (40 : Int))) with hb18 | hb18
  · replace H := ite_t hb18 H
    refine Cd.condT rfl hb18 ?_
    refine Cd.seq ?_
    refine Cd.region ?_
    refine Lst.run rfl rfl (by decide) (Ev.assign rfl) ?_
    refine Lst.nil ?_
    refine At.then ?_
    obtain rfl := some_inj H
    refine Cd.ret ?_
    refine At.then_ret ?_
    exact At.ret1 rfl (Res.tmp rfl) (FLe.trans hF7 hF16) (List.Sublist.cons _ (List.Sublist.refl _)) ⟨rfl, rfl⟩
  replace H := ite_f hb18 H
  refine Cd.condF rfl hb18 ?_
  refine Cd.skip ?_
  refine At.then ?_
  refine Cd.seq ?_
  refine Cd.seq ?_
  refine Cd.region ?_
  refine Lst.run rfl rfl (by decide) (Ev.fieldAddr (off' := 7) rfl Try.runUnderlying45 rfl Try.sizeOf43 rfl rfl) ?_
  refine Lst.run rfl rfl (by decide) (Ev.load (i := 0) rfl rfl Try.isAgg43 (v := Sl.v s_a0_2) ((CausalR.get_Hold (Get.here _)).off (by rfl))) ?_
  refine Lst.run rfl rfl (by decide) (Ev.lenS (α := Mail) (xs := a0.Hold) (by decide) rfl rfl Try.runUnderlying43 (hs_a0_2.mono (FLe.trans hF7 hF16) (List.Sublist.cons _ hM))) ?_
  refine Lst.run rfl rfl (by decide) (Ev.move rfl) ?_
  refine Lst.nil ?_
  refine At.then ?_
  refine Cd.block ?_
  refine Cd.bound (Rd.le (α := Mail) (xs := a0.Hold) (by decide) (hs_a0_2.mono (FLe.trans hF7 hF16) (List.Sublist.cons _ hM))) (fun hN63 => ?_)
  obtain ⟨ol19, H, HKl19⟩ := andThen_some H
  refine Cd.loop (σ := Nat × Nat × Unit) (fun (i19, k19, _u) => [(1, .pointer (some ⟨b1, 0, none⟩)), (24, Sl.v s_a0_2), (25, .int .i64 (a0.Hold.length : Int)), (26, .int .i64 (i19 : Int))]) (fun (i19, k19, _u) => (.blk b1 (enc (CausalR.mk a0 s_a0_2)) 45) :: L) (fun _ => (fun (i19, k19, _u) => rangeM (partref_CausalErr_B0 fu a0) k19 i19 () = some ol19 ∧ i19 + k19 = a0.Hold.length)) (fun (i19, k19, _u) => k19) (0, a0.Hold.length, ()) ⟨rfl, rfl, rfl, rfl, trivial⟩ rfl ⟨H, by omega⟩ ?_
  rintro F20 ⟨i19, k19, _u⟩ hF21 ⟨H, hik19⟩
  refine Cd.as (e' := [(1, .pointer (some ⟨b1, 0, none⟩)), (24, Sl.v s_a0_2), (25, .int .i64 (a0.Hold.length : Int)), (26, .int .i64 (i19 : Int))]) (L' := (.blk b1 (enc (CausalR.mk a0 s_a0_2)) 45) :: L) ⟨rfl, rfl, rfl, rfl, trivial⟩ rfl ?_
  rcases k19 with _ | k19
  · have hc19 : decide ((i19 : Int) < (a0.Hold.length : Int)) = false := decide_eq_false (by omega)
    replace H := rangeM_end H
    refine Cd.seq ?_
    refine Cd.region ?_
    refine Lst.run rfl rfl (by decide) (Ev.lss rfl rfl) ?_
    refine Lst.nil ?_
    refine At.then ?_
    refine Cd.seq ?_
    refine Cd.condF rfl hc19 ?_
    refine Cd.exit ?_
    refine At.then_exit ?_
    refine At.then_exit ?_
    refine At.in_exit ?_
    subst H
    replace H := HKl19
    refine At.then ?_
    refine Cd.seq ?_
    refine Cd.region ?_
    refine Lst.run rfl rfl (by decide) (Ev.assign rfl) ?_
    refine Lst.nil ?_
    refine At.then ?_
    obtain rfl := some_inj H
    refine Cd.ret ?_
    exact At.ret1 rfl (Res.tmp rfl) (FLe.trans (FLe.trans hF7 hF16) hF21) (List.Sublist.cons _ (List.Sublist.refl _)) ⟨rfl, rfl⟩
  have hc19 : decide ((i19 : Int) < (a0.Hold.length : Int)) = true := decide_eq_true (by omega)
  obtain ⟨c19, H, hgo19, hbrk19, hret19⟩ := rangeM_go H
  unfold partref_CausalErr_B0 at H
  try dsimp only at H
  refine Cd.seq ?_
  refine Cd.region ?_
  refine Lst.run rfl rfl (by decide) (Ev.lss rfl rfl) ?_
  refine Lst.nil ?_
  refine At.then ?_
  refine Cd.seq ?_
  refine Cd.condT rfl hc19 ?_
  refine Cd.skip ?_
  refine At.then ?_
  refine Cd.seq ?_
  refine Cd.block ?_
  refine Cd.seq ?_
  refine Cd.region ?_
  refine Lst.run rfl rfl (by decide) (Ev.move rfl) ?_
  obtain ⟨x22, h23, H⟩ := bind_some H
  have g24 := lat_some h23
  refine Lst.run rfl rfl (by decide) (Ev.indexS (α := Mail) (xs := a0.Hold) rfl rfl Try.runUnderlying43 Try.sizeOf47 rfl (by decide) (hs_a0_2.mono (FLe.trans (FLe.trans hF7 hF16) hF21) (List.Sublist.cons _ hM)) g24.1 g24.2.1) ?_
  refine Lst.run rfl rfl (by decide) (Ev.loadSA (α := Mail) rfl (hs_a0_2.mono (FLe.trans (FLe.trans hF7 hF16) hF21) (List.Sublist.cons _ hM)) Try.isAgg47 Try.sizeOf47 (ch := enc x22) (Enc.len _) (by decide) ((Get.elemN (s := 8) (x := x22) rfl g24.2.2 (Get.here _)).off (by omega))) ?_
  refine Lst.alloc (cs := enc Mail.zero) rfl rfl (by decide) Try.zeroValue47 rfl (fun b25 => ?_)
  refine Lst.run rfl rfl (by decide) (Ev.assign rfl) ?_
  refine Lst.store (i := 0) rfl rfl rfl rfl rfl Try.sizeOf47 (vs := enc x22) rfl (Enc.len _) (Enc.one _) (cs' := enc x22) (Put.here ((Enc.len _).trans (Enc.len _).symm)) (L' := (.blk b25 (enc x22) 47) :: (.blk b1 (enc (CausalR.mk a0 s_a0_2)) 45) :: L) rfl ?_
  refine Lst.nil ?_
  refine At.then ?_
  refine Cd.seq ?_
  refine Cd.quiet (by kernel_rfl) (by kernel_rfl) ?_
  refine Qt.run rfl rfl (by decide) (Ev.loadA (i := 0) rfl rfl Try.isAgg47 Try.sizeOf47 (ch := enc x22) (Enc.len _) (Get.here _)) ?_
  obtain ⟨r27, h28, H⟩ := bind_some H
  refine Qt.call rfl rfl (by decide) (vs := [.agg (enc x22).toArray]) ⟨rfl, trivial⟩ Try.call31 (partref_MailRight_sim h28 w0 _ M _ (List.Sublist.cons _ (List.Sublist.cons _ hM))) ?_
  refine Qt.run rfl rfl (by decide) (Ev.not rfl) ?_
  refine Qt.run rfl rfl (by decide) (Ev.move rfl) ?_
  obtain ⟨o31, H, HKo31⟩ := bind_some H
  refine Qt.join (σ := Bool) 6 (fun y32 => [(1, .pointer (some ⟨b1, 0, none⟩)), (3, .int .i64 (i19 : Int)), (4, .pointer (some ⟨b25, 0, none⟩)), (24, Sl.v s_a0_2), (25, .int .i64 (a0.Hold.length : Int)), (26, .int .i64 (i19 : Int)), (40, .bool y32)]) (fun y32 => y32 = o31) ?_ ?_
  · rcases Bool.eq_false_or_eq_true (!r27) with hb33 | hb33
    · replace H := ite_t hb33 H
      refine Qt.skip rfl rfl rfl hb33 rfl (by decide) ?_
      refine Qt.skip rfl rfl rfl hb33 rfl (by decide) ?_
      refine Qt.skip rfl rfl rfl hb33 rfl (by decide) ?_
      refine Qt.skip rfl rfl rfl hb33 rfl (by decide) ?_
      refine Qt.skip rfl rfl rfl hb33 rfl (by decide) ?_
      refine Qt.run rfl rfl (by decide) (Ev.pickT rfl hb33 rfl) ?_
      exact Qt.meet true ⟨rfl, rfl, rfl, rfl, rfl, rfl, rfl, trivial⟩ (some_inj H)
    replace H := ite_f hb33 H
    refine Qt.runG rfl rfl rfl hb33 rfl (by decide) (Ev.fieldAddr (off' := 0) rfl Try.runUnderlying47 rfl Try.sizeOf3 rfl rfl) ?_
    refine Qt.runG rfl rfl rfl hb33 rfl (by decide) (Ev.load (i := 0) rfl rfl Try.isAgg3 (v := .int .i64 x22.From) ((Mail.get_From (Get.here _)).off (by rfl))) ?_
    refine Qt.runG rfl rfl rfl hb33 rfl (by decide) (Ev.fieldAddr (off' := 0) rfl Try.runUnderlying45 rfl Try.sizeOf3 rfl rfl) ?_
    refine Qt.runG rfl rfl rfl hb33 rfl (by decide) (Ev.load (i := 1) rfl rfl Try.isAgg3 (v := .int .i64 a0.Me) ((CausalR.get_Me (Get.here _)).off (by rfl))) ?_
    refine Qt.runG rfl rfl rfl hb33 rfl (by decide) (Ev.eql rfl rfl) ?_
    refine Qt.run rfl rfl (by decide) (Ev.pickF rfl hb33 rfl) ?_
    exact Qt.meet (x22.From == a0.Me) ⟨rfl, rfl, rfl, rfl, rfl, rfl, rfl, trivial⟩ (some_inj H)
  rintro y32 hy
  subst hy
  refine Qt.as (e' := [(1, .pointer (some ⟨b1, 0, none⟩)), (3, .int .i64 (i19 : Int)), (4, .pointer (some ⟨b25, 0, none⟩)), (24, Sl.v s_a0_2), (25, .int .i64 (a0.Hold.length : Int)), (26, .int .i64 (i19 : Int)), (40, .bool y32)]) ⟨rfl, rfl, rfl, rfl, rfl, rfl, rfl, trivial⟩ ?_
  replace H := HKo31
  refine Qt.run rfl rfl (by decide) (Ev.move rfl) ?_
  obtain ⟨o34, H, HKo34⟩ := bind_some H
  refine Qt.join (σ := Bool) 12 (fun y35 => [(1, .pointer (some ⟨b1, 0, none⟩)), (3, .int .i64 (i19 : Int)), (4, .pointer (some ⟨b25, 0, none⟩)), (24, Sl.v s_a0_2), (25, .int .i64 (a0.Hold.length : Int)), (26, .int .i64 (i19 : Int)), (53, .bool y35)]) (fun y35 => y35 = o34) ?_ ?_
  · rcases Bool.eq_false_or_eq_true y32 with hb36 | hb36
    · replace H := ite_t hb36 H
      refine Qt.skip rfl rfl rfl hb36 rfl (by decide) ?_
      refine Qt.skip rfl rfl rfl hb36 rfl (by decide) ?_
      refine Qt.skip rfl rfl rfl hb36 rfl (by decide) ?_
      refine Qt.skip rfl rfl rfl hb36 rfl (by decide) ?_
      refine Qt.skip rfl rfl rfl hb36 rfl (by decide) ?_
      refine Qt.skip rfl rfl rfl hb36 rfl (by decide) ?_
      refine Qt.skip rfl rfl rfl hb36 rfl (by decide) ?_
      refine Qt.skip rfl rfl rfl hb36 rfl (by decide) ?_
      refine Qt.skip rfl rfl rfl hb36 rfl (by decide) ?_
      refine Qt.skip rfl rfl rfl hb36 rfl (by decide) ?_
      refine Qt.skip rfl rfl rfl hb36 rfl (by decide) ?_
      refine Qt.run rfl rfl (by decide) (Ev.pickT rfl hb36 rfl) ?_
      exact Qt.meet true ⟨rfl, rfl, rfl, rfl, rfl, rfl, rfl, trivial⟩ (some_inj H)
    replace H := ite_f hb36 H
    refine Qt.runG rfl rfl rfl hb36 rfl (by decide) (Ev.fieldAddr (off' := 0) rfl Try.runUnderlying47 rfl Try.sizeOf3 rfl rfl) ?_
    refine Qt.runG rfl rfl rfl hb36 rfl (by decide) (Ev.load (i := 0) rfl rfl Try.isAgg3 (v := .int .i64 x22.From) ((Mail.get_From (Get.here _)).off (by rfl))) ?_
    refine Qt.runG rfl rfl rfl hb36 rfl (by decide) (Ev.fieldAddr (off' := 1) rfl Try.runUnderlying47 rfl Try.sizeOf23 rfl rfl) ?_
    obtain ⟨x37, h38, H⟩ := bind_some H
    have g39 := vat_some h38
    refine Qt.runG rfl rfl rfl hb36 rfl (by decide) (Ev.indexAddr (off' := 1 + x22.From.toNat * 1) rfl rfl Try.runUnderlying23 Try.sizeOf3 g39.1 g39.2.1 rfl) ?_
    refine Qt.runG rfl rfl rfl hb36 rfl (by decide) (Ev.load (i := 0) rfl rfl Try.isAgg3 (v := .int .i64 x37) ((Mail.get_At (Get.vecN (s := 1) (x := x37) rfl g39.2.2 (Get.here _))).off (by omega))) ?_
    refine Qt.runG rfl rfl rfl hb36 rfl (by decide) (Ev.fieldAddr (off' := 0) rfl Try.runUnderlying47 rfl Try.sizeOf3 rfl rfl) ?_
    refine Qt.runG rfl rfl rfl hb36 rfl (by decide) (Ev.load (i := 0) rfl rfl Try.isAgg3 (v := .int .i64 x22.From) ((Mail.get_From (Get.here _)).off (by rfl))) ?_
    refine Qt.runG rfl rfl rfl hb36 rfl (by decide) (Ev.fieldAddr (off' := 1) rfl Try.runUnderlying45 rfl Try.sizeOf23 rfl rfl) ?_
    obtain ⟨x40, h41, H⟩ := bind_some H
    have g42 := vat_some h41
    refine Qt.runG rfl rfl rfl hb36 rfl (by decide) (Ev.indexAddr (off' := 1 + x22.From.toNat * 1) rfl rfl Try.runUnderlying23 Try.sizeOf3 g42.1 g42.2.1 rfl) ?_
    refine Qt.runG rfl rfl rfl hb36 rfl (by decide) (Ev.load (i := 1) rfl rfl Try.isAgg3 (v := .int .i64 x40) ((CausalR.get_Seen (Get.vecN (s := 1) (x := x40) rfl g42.2.2 (Get.here _))).off (by omega))) ?_
    refine Qt.runG rfl rfl rfl hb36 rfl (by decide) (Ev.leq rfl rfl) ?_
    refine Qt.run rfl rfl (by decide) (Ev.pickF rfl hb36 rfl) ?_
    exact Qt.meet (decide (x37 ≤ x40)) ⟨rfl, rfl, rfl, rfl, rfl, rfl, rfl, trivial⟩ (some_inj H)
  rintro y35 hy
  subst hy
  refine Qt.as (e' := [(1, .pointer (some ⟨b1, 0, none⟩)), (3, .int .i64 (i19 : Int)), (4, .pointer (some ⟨b25, 0, none⟩)), (24, Sl.v s_a0_2), (25, .int .i64 (a0.Hold.length : Int)), (26, .int .i64 (i19 : Int)), (53, .bool y35)]) ⟨rfl, rfl, rfl, rfl, rfl, rfl, rfl, trivial⟩ ?_
  replace H := HKo34
  refine Qt.run rfl rfl (by decide) (Ev.move rfl) ?_
  obtain ⟨o43, H, HKo43⟩ := bind_some H
  refine Qt.join (σ := Bool) 5 (fun y44 => [(1, .pointer (some ⟨b1, 0, none⟩)), (3, .int .i64 (i19 : Int)), (4, .pointer (some ⟨b25, 0, none⟩)), (24, Sl.v s_a0_2), (25, .int .i64 (a0.Hold.length : Int)), (26, .int .i64 (i19 : Int)), (59, .bool y44)]) (fun y44 => y44 = o43) ?_ ?_
  · rcases Bool.eq_false_or_eq_true y35 with hb45 | hb45
    · replace H := ite_t hb45 H
      refine Qt.skip rfl rfl rfl hb45 rfl (by decide) ?_
      refine Qt.skip rfl rfl rfl hb45 rfl (by decide) ?_
      refine Qt.skip rfl rfl rfl hb45 rfl (by decide) ?_
      refine Qt.skip rfl rfl rfl hb45 rfl (by decide) ?_
      refine Qt.run rfl rfl (by decide) (Ev.pickT rfl hb45 rfl) ?_
      exact Qt.meet true ⟨rfl, rfl, rfl, rfl, rfl, rfl, rfl, trivial⟩ (some_inj H)
    replace H := ite_f hb45 H
    refine Qt.runG rfl rfl rfl hb45 rfl (by decide) (Ev.fieldAddr (off' := 1) rfl Try.runUnderlying45 rfl Try.sizeOf23 rfl rfl) ?_
    refine Qt.runG rfl rfl rfl hb45 rfl (by decide) (Ev.loadA (i := 1) rfl rfl Try.isAgg23 Try.sizeOf23 (ch := enc a0.Seen) (Enc.len _) ((CausalR.get_Seen (Get.here _)).off (by rfl))) ?_
    refine Qt.runG rfl rfl rfl hb45 rfl (by decide) (Ev.loadA (i := 0) rfl rfl Try.isAgg47 Try.sizeOf47 (ch := enc x22) (Enc.len _) (Get.here _)) ?_
    obtain ⟨r46, h47, H⟩ := bind_some H
    refine Qt.callG rfl rfl rfl hb45 rfl (by decide) (vs := [.agg (enc a0.Seen).toArray, .agg (enc x22).toArray]) ⟨rfl, rfl, trivial⟩ Try.call100 (partref_MailReady_sim h47 w0 _ M _ (List.Sublist.cons _ (List.Sublist.cons _ hM))) ?_
    refine Qt.run rfl rfl (by decide) (Ev.pickF rfl hb45 rfl) ?_
    exact Qt.meet r46 ⟨rfl, rfl, rfl, rfl, rfl, rfl, rfl, trivial⟩ (some_inj H)
  rintro y44 hy
  subst hy
  refine Qt.as (e' := [(1, .pointer (some ⟨b1, 0, none⟩)), (3, .int .i64 (i19 : Int)), (4, .pointer (some ⟨b25, 0, none⟩)), (24, Sl.v s_a0_2), (25, .int .i64 (a0.Hold.length : Int)), (26, .int .i64 (i19 : Int)), (59, .bool y44)]) ⟨rfl, rfl, rfl, rfl, rfl, rfl, rfl, trivial⟩ ?_
  replace H := HKo43
  refine Qt.run rfl rfl (by decide) (Ev.move rfl) ?_
  obtain ⟨o50, H, HKo50⟩ := bind_some H
  refine Qt.join (σ := Bool) 7 (fun y51 => [(1, .pointer (some ⟨b1, 0, none⟩)), (24, Sl.v s_a0_2), (25, .int .i64 (a0.Hold.length : Int)), (26, .int .i64 (i19 : Int)), (67, .bool y51)]) (fun y51 => y51 = o50) ?_ ?_
  · rcases Bool.eq_false_or_eq_true y44 with hb52 | hb52
    · replace H := ite_t hb52 H
      refine Qt.skip rfl rfl rfl hb52 rfl (by decide) ?_
      refine Qt.skip rfl rfl rfl hb52 rfl (by decide) ?_
      refine Qt.skip rfl rfl rfl hb52 rfl (by decide) ?_
      refine Qt.skip rfl rfl rfl hb52 rfl (by decide) ?_
      refine Qt.skip rfl rfl rfl hb52 rfl (by decide) ?_
      refine Qt.skip rfl rfl rfl hb52 rfl (by decide) ?_
      refine Qt.run rfl rfl (by decide) (Ev.pickT rfl hb52 rfl) ?_
      exact Qt.meet true ⟨rfl, rfl, rfl, rfl, rfl, trivial⟩ (some_inj H)
    replace H := ite_f hb52 H
    refine Qt.runG rfl rfl rfl hb52 rfl (by decide) (Ev.fieldAddr (off' := 7) rfl Try.runUnderlying45 rfl Try.sizeOf43 rfl rfl) ?_
    refine Qt.runG rfl rfl rfl hb52 rfl (by decide) (Ev.load (i := 1) rfl rfl Try.isAgg43 (v := Sl.v s_a0_2) ((CausalR.get_Hold (Get.here _)).off (by rfl))) ?_
    refine Qt.runG rfl rfl rfl hb52 rfl (by decide) (Ev.move rfl) ?_
    obtain ⟨m53, h54, H⟩ := bind_some H
    obtain ⟨g55, gl56⟩ := cutL_some h54
    have hq57 : Rd w0 F M (s_a0_2.cut (0 : Int).toNat ((i19 : Int) : Int).toNat 8) m53 := by rw [← gl56]; exact Rd.cut (by decide) hs_a0_2 (by omega) (by omega)
    refine Qt.runG rfl rfl rfl hb52 rfl (by decide) (Ev.cut (α := Mail) (xs := a0.Hold) (i := 0) (j := (i19 : Int)) rfl rfl rfl Try.runUnderlying43 Try.sizeOf47 rfl (by decide) (hs_a0_2.mono (FLe.trans (FLe.trans hF7 hF16) hF21) (List.Sublist.cons _ (List.Sublist.cons _ hM))) g55.1 g55.2.1 g55.2.2) ?_
    refine Qt.runG rfl rfl rfl hb52 rfl (by decide) (Ev.makeFunc (us := []) (vs := [.pointer (some ⟨b25, 0, none⟩)]) trivial ⟨rfl, trivial⟩) ?_
    obtain ⟨r58, h59, H⟩ := bind_some H
    refine Qt.callG rfl rfl rfl hb52 rfl (by decide) (vs := [Sl.v (s_a0_2.cut (0 : Int).toNat ((i19 : Int) : Int).toNat 8), .func (.func 102) #[] #[.pointer (some ⟨b25, 0, none⟩)]]) ⟨rfl, rfl, trivial⟩ Try.call101 (slices_ContainsFunc_api_Mail_api_Mail_CausalErr_1_sim h59 w0 _ M _ (List.Sublist.cons _ hM) (hq57.mono (FLe.trans (FLe.trans hF7 hF16) hF21) (List.Sublist.refl _))) ?_
    refine Qt.run rfl rfl (by decide) (Ev.pickF rfl hb52 rfl) ?_
    exact Qt.meet r58 ⟨rfl, rfl, rfl, rfl, rfl, trivial⟩ (some_inj H)
  rintro y51 hy
  subst hy
  refine Qt.as (e' := [(1, .pointer (some ⟨b1, 0, none⟩)), (24, Sl.v s_a0_2), (25, .int .i64 (a0.Hold.length : Int)), (26, .int .i64 (i19 : Int)), (67, .bool y51)]) ⟨rfl, rfl, rfl, rfl, rfl, trivial⟩ ?_
  replace H := HKo50
  refine Qt.done ?_
  refine At.then ?_
  rcases Bool.eq_false_or_eq_true y51 with hb62 | hb62
  · replace H := ite_t hb62 H
    refine Cd.condT rfl hb62 ?_
    refine Cd.seq ?_
    refine Cd.region ?_
    refine Lst.run rfl rfl (by decide) (Ev.assign rfl) ?_
    refine Lst.nil ?_
    refine At.then ?_
    have H := hret19 _ (some_inj H).symm
    subst H
    replace H := HKl19
    obtain rfl := some_inj H
    refine Cd.ret ?_
    refine At.in_ret ?_
    refine At.then_ret ?_
    refine At.then_ret ?_
    refine At.in_ret ?_
    refine At.then_ret ?_
    exact At.ret1 rfl (Res.tmp rfl) (FLe.trans (FLe.trans hF7 hF16) hF21) (List.Sublist.cons _ (List.Sublist.cons _ (List.Sublist.refl _))) ⟨rfl, rfl⟩
  replace H := ite_f hb62 H
  refine Cd.condF rfl hb62 ?_
  refine Cd.skip ?_
  refine At.in_normal ?_
  refine At.then ?_
  refine Cd.region ?_
  refine Lst.run rfl rfl (by decide) (Ev.incr (by omega) rfl rfl) ?_
  refine Lst.run rfl rfl (by decide) (Ev.move rfl) ?_
  refine Lst.nil ?_
  refine At.less (L' := (.blk b1 (enc (CausalR.mk a0 s_a0_2)) 45) :: L) (List.Sublist.cons _ (List.Sublist.cons_cons _ (List.Sublist.refl _))) ?_
  exact At.meet (i19 + 1, k19, ()) hF21 ⟨rfl, rfl, rfl, rfl, trivial⟩ rfl ⟨⟨hgo19 _ (some_inj H).symm, by omega⟩, Nat.lt_succ_self _⟩
set_option maxRecDepth 20000 in
theorem causal_in_sim {a0 : Int} {a1 : Int} {a2 : Int} {r : Bool} (H : causal_in a0 a1 a2 = some r) (w0 : World) (F : Frz) (M L : List Item) (hM : M.Sublist L) : Ok Try.prog w0 114 [.int .i64 a0, .int .i64 a1, .int .i64 a2] F (L) (Is (.bool r) (L)) := by
  unfold causal_in at H
  refine Ok.enter (m := 3) (n := 15) Try.func114 rfl rfl rfl (by decide) ?_
  refine Cd.env (e' := [(0, .int .i64 a0), (1, .int .i64 a1), (2, .int .i64 a2)]) rfl ?_
  refine Cd.seq ?_
  refine Cd.region ?_
  refine Lst.run rfl rfl (by decide) (Ev.assign rfl) ?_
  refine Lst.nil ?_
  refine At.then ?_
  refine Cd.seq ?_
  refine Cd.region ?_
  refine Lst.run rfl rfl (by decide) (Ev.move rfl) ?_
  refine Lst.run rfl rfl (by decide) (Ev.move rfl) ?_
  refine Lst.run rfl rfl (by decide) (Ev.geq rfl rfl) ?_
  refine Lst.run rfl rfl (by decide) (Ev.move rfl) ?_
  obtain ⟨o1, H, HKo1⟩ := bind_some H
  refine Lst.join (σ := Bool) 4 (fun y2 => [(14, .bool y2)]) (fun y2 => L) (fun _ y2 => y2 = o1) ?_ ?_
  · rcases (Bool.eq_false_or_eq_true (decide (a0 ≥ a1))).symm with hb3 | hb3
    · replace H := ite_f hb3 H
      refine Lst.skip rfl rfl rfl hb3 rfl (by decide) ?_
      refine Lst.skip rfl rfl rfl hb3 rfl (by decide) ?_
      refine Lst.skip rfl rfl rfl hb3 rfl (by decide) ?_
      refine Lst.run rfl rfl (by decide) (Ev.pickF rfl hb3 rfl) ?_
      refine Lst.nil ?_
      exact At.meet false (FLe.refl _) ⟨rfl, trivial⟩ rfl (some_inj H)
    replace H := ite_t hb3 H
    refine Lst.runG rfl rfl rfl hb3 rfl (by decide) (Ev.move rfl) ?_
    refine Lst.runG rfl rfl rfl hb3 rfl (by decide) (Ev.move rfl) ?_
    refine Lst.runG rfl rfl rfl hb3 rfl (by decide) (Ev.leq rfl rfl) ?_
    refine Lst.run rfl rfl (by decide) (Ev.pickT rfl hb3 rfl) ?_
    refine Lst.nil ?_
    exact At.meet (decide (a0 ≤ a2)) (FLe.refl _) ⟨rfl, trivial⟩ rfl (some_inj H)
  rintro F4 y2 hF5 hy
  subst hy
  refine Lst.as (e' := [(14, .bool y2)]) (L' := L) ⟨rfl, trivial⟩ rfl ?_
  replace H := HKo1
  refine Lst.run rfl rfl (by decide) (Ev.assign rfl) ?_
  refine Lst.nil ?_
  refine At.then ?_
  obtain rfl := some_inj H
  refine Cd.ret ?_
  exact At.ret1 rfl (Res.tmp rfl) hF5 (List.Sublist.refl _) ⟨rfl, rfl⟩
set_option maxRecDepth 20000 in
theorem causal_Check_1_sim {a0 : Int} {r : Bool} (H : causal_Check_1 a0 = some r) (w0 : World) (F : Frz) (M L : List Item) (hM : M.Sublist L) : Ok Try.prog w0 115 [.int .i64 a0] F (L) (Is (.bool r) (L)) := by
  unfold causal_Check_1 at H
  refine Ok.enter (m := 1) (n := 5) Try.func115 rfl rfl rfl (by decide) ?_
  refine Cd.env (e' := [(0, .int .i64 a0)]) rfl ?_
  refine Cd.seq ?_
  refine Cd.region ?_
  refine Lst.run rfl rfl (by decide) (Ev.assign rfl) ?_
  refine Lst.nil ?_
  refine At.then ?_
  refine Cd.seq ?_
  refine Cd.region ?_
  refine Lst.run rfl rfl (by decide) (Ev.move rfl) ?_
  refine Lst.run rfl rfl (by decide) (Ev.lss rfl rfl) ?_
  refine Lst.run rfl rfl (by decide) (Ev.assign rfl) ?_
  refine Lst.nil ?_
  refine At.then ?_
  obtain rfl := some_inj H
  refine Cd.ret ?_
  exact At.ret1 rfl (Res.tmp rfl) (FLe.refl _) (List.Sublist.refl _) ⟨rfl, rfl⟩
set_option maxRecDepth 20000 in
theorem slices_IndexFunc_int_int_Check_1_sim {a0 : List Int} {s_a0 : Sl} {r : Int} (H : slices_IndexFunc_int_int_Check_1 a0 = some r) (w0 : World) (F : Frz) (M L : List Item) (hM : M.Sublist L) (hs_a0 : Rd w0 F M s_a0 a0) : Ok Try.prog w0 174 [Sl.v s_a0, .func (.func 115) #[] #[]] F (L) (Is (.int .i64 r) (L)) := by
  unfold slices_IndexFunc_int_int_Check_1 at H
  refine Ok.enter (m := 2) (n := 19) Try.func174 rfl rfl rfl (by decide) ?_
  refine Cd.env (e' := [(0, Sl.v s_a0), (1, .func (.func 115) #[] #[])]) rfl ?_
  refine Cd.seq ?_
  refine Cd.region ?_
  refine Lst.run rfl rfl (by decide) (Ev.assign rfl) ?_
  refine Lst.nil ?_
  refine At.then ?_
  refine Cd.seq ?_
  refine Cd.seq ?_
  refine Cd.region ?_
  refine Lst.run rfl rfl (by decide) (Ev.move rfl) ?_
  refine Lst.run rfl rfl (by decide) (Ev.lenS (α := Int) (xs := a0) (by decide) rfl rfl Try.runUnderlying36 (hs_a0.mono (FLe.refl _) hM)) ?_
  refine Lst.run rfl rfl (by decide) (Ev.move rfl) ?_
  refine Lst.nil ?_
  refine At.then ?_
  refine Cd.block ?_
  refine Cd.bound (Rd.le (α := Int) (xs := a0) (by decide) (hs_a0.mono (FLe.refl _) hM)) (fun hN12 => ?_)
  obtain ⟨ol1, H, HKl1⟩ := andThen_some H
  refine Cd.loop (σ := Nat × Nat × Unit) (fun (i1, k1, _u) => [(0, Sl.v s_a0), (1, .func (.func 115) #[] #[]), (7, .int .i64 (a0.length : Int)), (8, .int .i64 (i1 : Int))]) (fun (i1, k1, _u) => L) (fun _ => (fun (i1, k1, _u) => rangeM (slices_IndexFunc_int_int_Check_1_B0 a0) k1 i1 () = some ol1 ∧ i1 + k1 = a0.length)) (fun (i1, k1, _u) => k1) (0, a0.length, ()) ⟨rfl, rfl, rfl, rfl, trivial⟩ rfl ⟨H, by omega⟩ ?_
  rintro F2 ⟨i1, k1, _u⟩ hF3 ⟨H, hik1⟩
  refine Cd.as (e' := [(0, Sl.v s_a0), (1, .func (.func 115) #[] #[]), (7, .int .i64 (a0.length : Int)), (8, .int .i64 (i1 : Int))]) (L' := L) ⟨rfl, rfl, rfl, rfl, trivial⟩ rfl ?_
  rcases k1 with _ | k1
  · have hc1 : decide ((i1 : Int) < (a0.length : Int)) = false := decide_eq_false (by omega)
    replace H := rangeM_end H
    refine Cd.seq ?_
    refine Cd.region ?_
    refine Lst.run rfl rfl (by decide) (Ev.lss rfl rfl) ?_
    refine Lst.nil ?_
    refine At.then ?_
    refine Cd.seq ?_
    refine Cd.condF rfl hc1 ?_
    refine Cd.exit ?_
    refine At.then_exit ?_
    refine At.then_exit ?_
    refine At.in_exit ?_
    subst H
    replace H := HKl1
    refine At.then ?_
    refine Cd.seq ?_
    refine Cd.region ?_
    refine Lst.run rfl rfl (by decide) (Ev.assign rfl) ?_
    refine Lst.nil ?_
    refine At.then ?_
    obtain rfl := some_inj H
    refine Cd.ret ?_
    exact At.ret1 rfl (Res.tmp rfl) hF3 (List.Sublist.refl _) ⟨rfl, rfl⟩
  have hc1 : decide ((i1 : Int) < (a0.length : Int)) = true := decide_eq_true (by omega)
  obtain ⟨c1, H, hgo1, hbrk1, hret1⟩ := rangeM_go H
  unfold slices_IndexFunc_int_int_Check_1_B0 at H
  try dsimp only at H
  refine Cd.seq ?_
  refine Cd.region ?_
  refine Lst.run rfl rfl (by decide) (Ev.lss rfl rfl) ?_
  refine Lst.nil ?_
  refine At.then ?_
  refine Cd.seq ?_
  refine Cd.condT rfl hc1 ?_
  refine Cd.skip ?_
  refine At.then ?_
  refine Cd.seq ?_
  refine Cd.block ?_
  refine Cd.seq ?_
  refine Cd.region ?_
  refine Lst.run rfl rfl (by decide) (Ev.move rfl) ?_
  refine Lst.run rfl rfl (by decide) (Ev.assign rfl) ?_
  refine Lst.nil ?_
  refine At.then ?_
  refine Cd.seq ?_
  refine Cd.region ?_
  refine Lst.run rfl rfl (by decide) (Ev.move rfl) ?_
  refine Lst.run rfl rfl (by decide) (Ev.move rfl) ?_
  refine Lst.run rfl rfl (by decide) (Ev.move rfl) ?_
  obtain ⟨x4, h5, H⟩ := bind_some H
  have g6 := lat_some h5
  refine Lst.run rfl rfl (by decide) (Ev.indexS (α := Int) (xs := a0) rfl rfl Try.runUnderlying36 Try.sizeOf3 rfl (by decide) (hs_a0.mono hF3 hM) g6.1 g6.2.1) ?_
  refine Lst.run rfl rfl (by decide) (Ev.loadS (α := Int) rfl (hs_a0.mono hF3 hM) Try.isAgg3 (v := .int .i64 x4) ((Get.elemN (s := 1) (x := x4) rfl g6.2.2 (Get.here _)).off (by omega))) ?_
  obtain ⟨r7, h8, H⟩ := bind_some H
  refine Lst.callV1 rfl rfl (by decide) (vs := [.int .i64 x4]) (cs := []) rfl ⟨rfl, trivial⟩ Try.call115 (causal_Check_1_sim h8 w0 _ M _ hM) ?_
  refine Lst.nil ?_
  refine At.then ?_
  rcases Bool.eq_false_or_eq_true r7 with hb11 | hb11
  · replace H := ite_t hb11 H
    refine Cd.condT rfl hb11 ?_
    refine Cd.seq ?_
    refine Cd.region ?_
    refine Lst.run rfl rfl (by decide) (Ev.move rfl) ?_
    refine Lst.run rfl rfl (by decide) (Ev.assign rfl) ?_
    refine Lst.nil ?_
    refine At.then ?_
    have H := hret1 _ (some_inj H).symm
    subst H
    replace H := HKl1
    obtain rfl := some_inj H
    refine Cd.ret ?_
    refine At.in_ret ?_
    refine At.then_ret ?_
    refine At.then_ret ?_
    refine At.in_ret ?_
    refine At.then_ret ?_
    exact At.ret1 rfl (Res.tmp rfl) hF3 (List.Sublist.refl _) ⟨rfl, rfl⟩
  replace H := ite_f hb11 H
  refine Cd.condF rfl hb11 ?_
  refine Cd.skip ?_
  refine At.in_normal ?_
  refine At.then ?_
  refine Cd.region ?_
  refine Lst.run rfl rfl (by decide) (Ev.incr (by omega) rfl rfl) ?_
  refine Lst.run rfl rfl (by decide) (Ev.move rfl) ?_
  refine Lst.nil ?_
  exact At.meet (i1 + 1, k1, ()) hF3 ⟨rfl, rfl, rfl, rfl, trivial⟩ rfl ⟨⟨hgo1 _ (some_inj H).symm, by omega⟩, Nat.lt_succ_self _⟩
set_option maxRecDepth 20000 in
theorem slices_ContainsFunc_int_int_Check_1_sim {a0 : List Int} {s_a0 : Sl} {r : Bool} (H : slices_ContainsFunc_int_int_Check_1 a0 = some r) (w0 : World) (F : Frz) (M L : List Item) (hM : M.Sublist L) (hs_a0 : Rd w0 F M s_a0 a0) : Ok Try.prog w0 93 [Sl.v s_a0, .func (.func 115) #[] #[]] F (L) (Is (.bool r) (L)) := by
  unfold slices_ContainsFunc_int_int_Check_1 at H
  refine Ok.enter (m := 2) (n := 9) Try.func93 rfl rfl rfl (by decide) ?_
  refine Cd.env (e' := [(0, Sl.v s_a0), (1, .func (.func 115) #[] #[])]) rfl ?_
  refine Cd.seq ?_
  refine Cd.region ?_
  refine Lst.run rfl rfl (by decide) (Ev.assign rfl) ?_
  refine Lst.nil ?_
  refine At.then ?_
  refine Cd.seq ?_
  refine Cd.region ?_
  refine Lst.run rfl rfl (by decide) (Ev.move rfl) ?_
  refine Lst.run rfl rfl (by decide) (Ev.move rfl) ?_
  obtain ⟨r1, h2, H⟩ := bind_some H
  refine Lst.call1 rfl rfl (by decide) (vs := [Sl.v s_a0, .func (.func 115) #[] #[]]) ⟨rfl, rfl, trivial⟩ Try.call174 (slices_IndexFunc_int_int_Check_1_sim h2 w0 _ M _ hM (hs_a0.mono (FLe.refl _) (List.Sublist.refl _))) ?_
  refine Lst.run rfl rfl (by decide) (Ev.geq rfl rfl) ?_
  refine Lst.run rfl rfl (by decide) (Ev.assign rfl) ?_
  refine Lst.nil ?_
  refine At.then ?_
  obtain rfl := some_inj H
  refine Cd.ret ?_
  exact At.ret1 rfl (Res.tmp rfl) (FLe.refl _) (List.Sublist.refl _) ⟨rfl, rfl⟩
set_option maxRecDepth 20000 in
theorem causal_formed_1_sim {a0 : Int} {r : Bool} (H : causal_formed_1 a0 = some r) (w0 : World) (F : Frz) (M L : List Item) (hM : M.Sublist L) : Ok Try.prog w0 175 [.int .i64 a0] F (L) (Is (.bool r) (L)) := by
  unfold causal_formed_1 at H
  refine Ok.enter (m := 1) (n := 5) Try.func175 rfl rfl rfl (by decide) ?_
  refine Cd.env (e' := [(0, .int .i64 a0)]) rfl ?_
  refine Cd.seq ?_
  refine Cd.region ?_
  refine Lst.run rfl rfl (by decide) (Ev.assign rfl) ?_
  refine Lst.nil ?_
  refine At.then ?_
  refine Cd.seq ?_
  refine Cd.region ?_
  refine Lst.run rfl rfl (by decide) (Ev.move rfl) ?_
  refine Lst.run rfl rfl (by decide) (Ev.lss rfl rfl) ?_
  refine Lst.run rfl rfl (by decide) (Ev.assign rfl) ?_
  refine Lst.nil ?_
  refine At.then ?_
  obtain rfl := some_inj H
  refine Cd.ret ?_
  exact At.ret1 rfl (Res.tmp rfl) (FLe.refl _) (List.Sublist.refl _) ⟨rfl, rfl⟩
set_option maxRecDepth 20000 in
theorem slices_IndexFunc_int_int_formed_1_sim {a0 : List Int} {s_a0 : Sl} {r : Int} (H : slices_IndexFunc_int_int_formed_1 a0 = some r) (w0 : World) (F : Frz) (M L : List Item) (hM : M.Sublist L) (hs_a0 : Rd w0 F M s_a0 a0) : Ok Try.prog w0 174 [Sl.v s_a0, .func (.func 175) #[] #[]] F (L) (Is (.int .i64 r) (L)) := by
  unfold slices_IndexFunc_int_int_formed_1 at H
  refine Ok.enter (m := 2) (n := 19) Try.func174 rfl rfl rfl (by decide) ?_
  refine Cd.env (e' := [(0, Sl.v s_a0), (1, .func (.func 175) #[] #[])]) rfl ?_
  refine Cd.seq ?_
  refine Cd.region ?_
  refine Lst.run rfl rfl (by decide) (Ev.assign rfl) ?_
  refine Lst.nil ?_
  refine At.then ?_
  refine Cd.seq ?_
  refine Cd.seq ?_
  refine Cd.region ?_
  refine Lst.run rfl rfl (by decide) (Ev.move rfl) ?_
  refine Lst.run rfl rfl (by decide) (Ev.lenS (α := Int) (xs := a0) (by decide) rfl rfl Try.runUnderlying36 (hs_a0.mono (FLe.refl _) hM)) ?_
  refine Lst.run rfl rfl (by decide) (Ev.move rfl) ?_
  refine Lst.nil ?_
  refine At.then ?_
  refine Cd.block ?_
  refine Cd.bound (Rd.le (α := Int) (xs := a0) (by decide) (hs_a0.mono (FLe.refl _) hM)) (fun hN12 => ?_)
  obtain ⟨ol1, H, HKl1⟩ := andThen_some H
  refine Cd.loop (σ := Nat × Nat × Unit) (fun (i1, k1, _u) => [(0, Sl.v s_a0), (1, .func (.func 175) #[] #[]), (7, .int .i64 (a0.length : Int)), (8, .int .i64 (i1 : Int))]) (fun (i1, k1, _u) => L) (fun _ => (fun (i1, k1, _u) => rangeM (slices_IndexFunc_int_int_formed_1_B0 a0) k1 i1 () = some ol1 ∧ i1 + k1 = a0.length)) (fun (i1, k1, _u) => k1) (0, a0.length, ()) ⟨rfl, rfl, rfl, rfl, trivial⟩ rfl ⟨H, by omega⟩ ?_
  rintro F2 ⟨i1, k1, _u⟩ hF3 ⟨H, hik1⟩
  refine Cd.as (e' := [(0, Sl.v s_a0), (1, .func (.func 175) #[] #[]), (7, .int .i64 (a0.length : Int)), (8, .int .i64 (i1 : Int))]) (L' := L) ⟨rfl, rfl, rfl, rfl, trivial⟩ rfl ?_
  rcases k1 with _ | k1
  · have hc1 : decide ((i1 : Int) < (a0.length : Int)) = false := decide_eq_false (by omega)
    replace H := rangeM_end H
    refine Cd.seq ?_
    refine Cd.region ?_
    refine Lst.run rfl rfl (by decide) (Ev.lss rfl rfl) ?_
    refine Lst.nil ?_
    refine At.then ?_
    refine Cd.seq ?_
    refine Cd.condF rfl hc1 ?_
    refine Cd.exit ?_
    refine At.then_exit ?_
    refine At.then_exit ?_
    refine At.in_exit ?_
    subst H
    replace H := HKl1
    refine At.then ?_
    refine Cd.seq ?_
    refine Cd.region ?_
    refine Lst.run rfl rfl (by decide) (Ev.assign rfl) ?_
    refine Lst.nil ?_
    refine At.then ?_
    obtain rfl := some_inj H
    refine Cd.ret ?_
    exact At.ret1 rfl (Res.tmp rfl) hF3 (List.Sublist.refl _) ⟨rfl, rfl⟩
  have hc1 : decide ((i1 : Int) < (a0.length : Int)) = true := decide_eq_true (by omega)
  obtain ⟨c1, H, hgo1, hbrk1, hret1⟩ := rangeM_go H
  unfold slices_IndexFunc_int_int_formed_1_B0 at H
  try dsimp only at H
  refine Cd.seq ?_
  refine Cd.region ?_
  refine Lst.run rfl rfl (by decide) (Ev.lss rfl rfl) ?_
  refine Lst.nil ?_
  refine At.then ?_
  refine Cd.seq ?_
  refine Cd.condT rfl hc1 ?_
  refine Cd.skip ?_
  refine At.then ?_
  refine Cd.seq ?_
  refine Cd.block ?_
  refine Cd.seq ?_
  refine Cd.region ?_
  refine Lst.run rfl rfl (by decide) (Ev.move rfl) ?_
  refine Lst.run rfl rfl (by decide) (Ev.assign rfl) ?_
  refine Lst.nil ?_
  refine At.then ?_
  refine Cd.seq ?_
  refine Cd.region ?_
  refine Lst.run rfl rfl (by decide) (Ev.move rfl) ?_
  refine Lst.run rfl rfl (by decide) (Ev.move rfl) ?_
  refine Lst.run rfl rfl (by decide) (Ev.move rfl) ?_
  obtain ⟨x4, h5, H⟩ := bind_some H
  have g6 := lat_some h5
  refine Lst.run rfl rfl (by decide) (Ev.indexS (α := Int) (xs := a0) rfl rfl Try.runUnderlying36 Try.sizeOf3 rfl (by decide) (hs_a0.mono hF3 hM) g6.1 g6.2.1) ?_
  refine Lst.run rfl rfl (by decide) (Ev.loadS (α := Int) rfl (hs_a0.mono hF3 hM) Try.isAgg3 (v := .int .i64 x4) ((Get.elemN (s := 1) (x := x4) rfl g6.2.2 (Get.here _)).off (by omega))) ?_
  obtain ⟨r7, h8, H⟩ := bind_some H
  refine Lst.callV1 rfl rfl (by decide) (vs := [.int .i64 x4]) (cs := []) rfl ⟨rfl, trivial⟩ Try.call175 (causal_formed_1_sim h8 w0 _ M _ hM) ?_
  refine Lst.nil ?_
  refine At.then ?_
  rcases Bool.eq_false_or_eq_true r7 with hb11 | hb11
  · replace H := ite_t hb11 H
    refine Cd.condT rfl hb11 ?_
    refine Cd.seq ?_
    refine Cd.region ?_
    refine Lst.run rfl rfl (by decide) (Ev.move rfl) ?_
    refine Lst.run rfl rfl (by decide) (Ev.assign rfl) ?_
    refine Lst.nil ?_
    refine At.then ?_
    have H := hret1 _ (some_inj H).symm
    subst H
    replace H := HKl1
    obtain rfl := some_inj H
    refine Cd.ret ?_
    refine At.in_ret ?_
    refine At.then_ret ?_
    refine At.then_ret ?_
    refine At.in_ret ?_
    refine At.then_ret ?_
    exact At.ret1 rfl (Res.tmp rfl) hF3 (List.Sublist.refl _) ⟨rfl, rfl⟩
  replace H := ite_f hb11 H
  refine Cd.condF rfl hb11 ?_
  refine Cd.skip ?_
  refine At.in_normal ?_
  refine At.then ?_
  refine Cd.region ?_
  refine Lst.run rfl rfl (by decide) (Ev.incr (by omega) rfl rfl) ?_
  refine Lst.run rfl rfl (by decide) (Ev.move rfl) ?_
  refine Lst.nil ?_
  exact At.meet (i1 + 1, k1, ()) hF3 ⟨rfl, rfl, rfl, rfl, trivial⟩ rfl ⟨⟨hgo1 _ (some_inj H).symm, by omega⟩, Nat.lt_succ_self _⟩
set_option maxRecDepth 20000 in
theorem slices_ContainsFunc_int_int_formed_1_sim {a0 : List Int} {s_a0 : Sl} {r : Bool} (H : slices_ContainsFunc_int_int_formed_1 a0 = some r) (w0 : World) (F : Frz) (M L : List Item) (hM : M.Sublist L) (hs_a0 : Rd w0 F M s_a0 a0) : Ok Try.prog w0 93 [Sl.v s_a0, .func (.func 175) #[] #[]] F (L) (Is (.bool r) (L)) := by
  unfold slices_ContainsFunc_int_int_formed_1 at H
  refine Ok.enter (m := 2) (n := 9) Try.func93 rfl rfl rfl (by decide) ?_
  refine Cd.env (e' := [(0, Sl.v s_a0), (1, .func (.func 175) #[] #[])]) rfl ?_
  refine Cd.seq ?_
  refine Cd.region ?_
  refine Lst.run rfl rfl (by decide) (Ev.assign rfl) ?_
  refine Lst.nil ?_
  refine At.then ?_
  refine Cd.seq ?_
  refine Cd.region ?_
  refine Lst.run rfl rfl (by decide) (Ev.move rfl) ?_
  refine Lst.run rfl rfl (by decide) (Ev.move rfl) ?_
  obtain ⟨r1, h2, H⟩ := bind_some H
  refine Lst.call1 rfl rfl (by decide) (vs := [Sl.v s_a0, .func (.func 175) #[] #[]]) ⟨rfl, rfl, trivial⟩ Try.call174 (slices_IndexFunc_int_int_formed_1_sim h2 w0 _ M _ hM (hs_a0.mono (FLe.refl _) (List.Sublist.refl _))) ?_
  refine Lst.run rfl rfl (by decide) (Ev.geq rfl rfl) ?_
  refine Lst.run rfl rfl (by decide) (Ev.assign rfl) ?_
  refine Lst.nil ?_
  refine At.then ?_
  obtain rfl := some_inj H
  refine Cd.ret ?_
  exact At.ret1 rfl (Res.tmp rfl) (FLe.refl _) (List.Sublist.refl _) ⟨rfl, rfl⟩
set_option maxRecDepth 20000 in
theorem causal_formed_sim {a0 : Mail} {r : Bool} (H : causal_formed a0 = some r) (w0 : World) (F : Frz) (M L : List Item) (hM : M.Sublist L) : Ok Try.prog w0 105 [.agg (enc a0).toArray] F (L) (Is (.bool r) (L)) := by
  unfold causal_formed at H
  refine Ok.enter (m := 1) (n := 20) Try.func105 rfl rfl rfl (by decide) ?_
  refine Cd.env (e' := [(0, .agg (enc a0).toArray)]) rfl ?_
  refine Cd.seq ?_
  refine Cd.region ?_
  refine Lst.box rfl rfl (by decide) rfl (cs := enc a0) rfl (fun b1 => ?_)
  refine Lst.run rfl rfl (by decide) (Ev.assign rfl) ?_
  refine Lst.nil ?_
  refine At.then ?_
  refine Cd.seq ?_
  refine Cd.region ?_
  refine Lst.run rfl rfl (by decide) (Ev.fieldAddr (off' := 0) rfl Try.runUnderlying47 rfl Try.sizeOf3 rfl rfl) ?_
  refine Lst.run rfl rfl (by decide) (Ev.load (i := 0) rfl rfl Try.isAgg3 (v := .int .i64 a0.From) ((Mail.get_From (Get.here _)).off (by rfl))) ?_
  obtain ⟨r3, h4, H⟩ := bind_some H
  refine Lst.call1 rfl rfl (by decide) (vs := [.int .i64 a0.From, .int .i64 (0 : Int), .int .i64 (5 : Int)]) ⟨rfl, rfl, rfl, trivial⟩ Try.call114 (causal_in_sim h4 w0 _ M _ (List.Sublist.cons _ hM)) ?_
  refine Lst.run rfl rfl (by decide) (Ev.move rfl) ?_
  obtain ⟨o7, H, HKo7⟩ := bind_some H
  refine Lst.join (σ := Bool) 5 (fun y8 => [(1, .pointer (some ⟨b1, 0, none⟩)), (11, .bool y8)]) (fun y8 => (.blk b1 (enc a0) 47) :: L) (fun _ y8 => y8 = o7) ?_ ?_
  · rcases (Bool.eq_false_or_eq_true r3).symm with hb9 | hb9
    · replace H := ite_f hb9 H
      refine Lst.skip rfl rfl rfl hb9 rfl (by decide) ?_
      refine Lst.skip rfl rfl rfl hb9 rfl (by decide) ?_
      refine Lst.skip rfl rfl rfl hb9 rfl (by decide) ?_
      refine Lst.skip rfl rfl rfl hb9 rfl (by decide) ?_
      refine Lst.run rfl rfl (by decide) (Ev.pickF rfl hb9 rfl) ?_
      refine Lst.nil ?_
      exact At.meet false (FLe.refl _) ⟨rfl, rfl, trivial⟩ rfl (some_inj H)
    replace H := ite_t hb9 H
    refine Lst.runG rfl rfl rfl hb9 rfl (by decide) (Ev.fieldAddr (off' := 1) rfl Try.runUnderlying47 rfl Try.sizeOf23 rfl rfl) ?_
    refine Lst.runG rfl rfl rfl hb9 rfl (by decide) (Ev.sliceAll rfl Try.runUnderlying23 Try.sizeOf3) ?_
    obtain ⟨r10, h11, H⟩ := bind_some H
    refine Lst.call1G rfl rfl rfl hb9 rfl (by decide) (vs := [Sl.v (Sl.mk (some ⟨b1, 1, none⟩) 6 6), .func (.func 175) #[] #[]]) ⟨rfl, rfl, trivial⟩ Try.call93 (slices_ContainsFunc_int_int_formed_1_sim h11 w0 _ _ _ (List.Sublist.refl _) (Rd.blk (i := 0) (xs := a0.At.toList) rfl ((Mail.get_At (Get.here _)).off (by rfl)) (by simp) (by decide))) ?_
    refine Lst.runG rfl rfl rfl hb9 rfl (by decide) (Ev.not rfl) ?_
    refine Lst.run rfl rfl (by decide) (Ev.pickT rfl hb9 rfl) ?_
    refine Lst.nil ?_
    exact At.meet (!r10) (FLe.refl _) ⟨rfl, rfl, trivial⟩ rfl (some_inj H)
  rintro F14 y8 hF15 hy
  subst hy
  refine Lst.as (e' := [(1, .pointer (some ⟨b1, 0, none⟩)), (11, .bool y8)]) (L' := (.blk b1 (enc a0) 47) :: L) ⟨rfl, rfl, trivial⟩ rfl ?_
  replace H := HKo7
  refine Lst.run rfl rfl (by decide) (Ev.move rfl) ?_
  obtain ⟨o16, H, HKo16⟩ := bind_some H
  refine Lst.join (σ := Bool) 7 (fun y17 => [(19, .bool y17)]) (fun y17 => (.blk b1 (enc a0) 47) :: L) (fun _ y17 => y17 = o16) ?_ ?_
  · rcases (Bool.eq_false_or_eq_true y8).symm with hb18 | hb18
    · replace H := ite_f hb18 H
      refine Lst.skip rfl rfl rfl hb18 rfl (by decide) ?_
      refine Lst.skip rfl rfl rfl hb18 rfl (by decide) ?_
      refine Lst.skip rfl rfl rfl hb18 rfl (by decide) ?_
      refine Lst.skip rfl rfl rfl hb18 rfl (by decide) ?_
      refine Lst.skip rfl rfl rfl hb18 rfl (by decide) ?_
      refine Lst.skip rfl rfl rfl hb18 rfl (by decide) ?_
      refine Lst.run rfl rfl (by decide) (Ev.pickF rfl hb18 rfl) ?_
      refine Lst.nil ?_
      exact At.meet false (FLe.refl _) ⟨rfl, trivial⟩ rfl (some_inj H)
    replace H := ite_t hb18 H
    refine Lst.runG rfl rfl rfl hb18 rfl (by decide) (Ev.fieldAddr (off' := 0) rfl Try.runUnderlying47 rfl Try.sizeOf3 rfl rfl) ?_
    refine Lst.runG rfl rfl rfl hb18 rfl (by decide) (Ev.load (i := 0) rfl rfl Try.isAgg3 (v := .int .i64 a0.From) ((Mail.get_From (Get.here _)).off (by rfl))) ?_
    refine Lst.runG rfl rfl rfl hb18 rfl (by decide) (Ev.fieldAddr (off' := 1) rfl Try.runUnderlying47 rfl Try.sizeOf23 rfl rfl) ?_
    obtain ⟨x19, h20, H⟩ := bind_some H
    have g21 := vat_some h20
    refine Lst.runG rfl rfl rfl hb18 rfl (by decide) (Ev.indexAddr (off' := 1 + a0.From.toNat * 1) rfl rfl Try.runUnderlying23 Try.sizeOf3 g21.1 g21.2.1 rfl) ?_
    refine Lst.runG rfl rfl rfl hb18 rfl (by decide) (Ev.load (i := 0) rfl rfl Try.isAgg3 (v := .int .i64 x19) ((Mail.get_At (Get.vecN (s := 1) (x := x19) rfl g21.2.2 (Get.here _))).off (by omega))) ?_
    refine Lst.runG rfl rfl rfl hb18 rfl (by decide) (Ev.gtr rfl rfl) ?_
    refine Lst.run rfl rfl (by decide) (Ev.pickT rfl hb18 rfl) ?_
    refine Lst.nil ?_
    exact At.meet (decide (x19 > (0 : Int))) (FLe.refl _) ⟨rfl, trivial⟩ rfl (some_inj H)
  rintro F22 y17 hF23 hy
  subst hy
  refine Lst.as (e' := [(19, .bool y17)]) (L' := (.blk b1 (enc a0) 47) :: L) ⟨rfl, trivial⟩ rfl ?_
  replace H := HKo16
  refine Lst.run rfl rfl (by decide) (Ev.assign rfl) ?_
  refine Lst.nil ?_
  refine At.then ?_
  obtain rfl := some_inj H
  refine Cd.ret ?_
  exact At.ret1 rfl (Res.tmp rfl) (FLe.trans hF15 hF23) (List.Sublist.cons _ (List.Sublist.refl _)) ⟨rfl, rfl⟩
set_option maxRecDepth 20000 in
theorem causal_deliverable_sim {a0 : Vector Int 6} {a1 : Mail} {r : Bool} (H : causal_deliverable a0 a1 = some r) (w0 : World) (F : Frz) (M L : List Item) (hM : M.Sublist L) : Ok Try.prog w0 108 [.agg (enc a0).toArray, .agg (enc a1).toArray] F (L) (Is (.bool r) (L)) := by
  unfold causal_deliverable at H
  refine Ok.enter (m := 2) (n := 39) Try.func108 rfl rfl rfl (by decide) ?_
  refine Cd.env (e' := [(0, .agg (enc a0).toArray), (1, .agg (enc a1).toArray)]) rfl ?_
  refine Cd.seq ?_
  refine Cd.region ?_
  refine Lst.box rfl rfl (by decide) rfl (cs := enc a0) rfl (fun b1 => ?_)
  refine Lst.box rfl rfl (by decide) rfl (cs := enc a1) rfl (fun b3 => ?_)
  refine Lst.run rfl rfl (by decide) (Ev.assign rfl) ?_
  refine Lst.nil ?_
  refine At.then ?_
  refine Cd.seq ?_
  refine Cd.seq ?_
  refine Cd.region ?_
  refine Lst.run rfl rfl (by decide) (Ev.fieldAddr (off' := 1) rfl Try.runUnderlying47 rfl Try.sizeOf23 rfl rfl) ?_
  refine Lst.run rfl rfl (by decide) (Ev.loadA (i := 0) rfl rfl Try.isAgg23 Try.sizeOf23 (ch := enc a1.At) (Enc.len _) ((Mail.get_At (Get.here _)).off (by rfl))) ?_
  refine Lst.run rfl rfl (by decide) (Ev.move rfl) ?_
  refine Lst.nil ?_
  refine At.then ?_
  refine Cd.block ?_
  obtain ⟨ol5, H, HKl5⟩ := andThen_some H
  refine Cd.loop (σ := Nat × Nat × Unit) (fun (i5, k5, _u) => [(2, .pointer (some ⟨b1, 0, none⟩)), (3, .pointer (some ⟨b3, 0, none⟩)), (8, .agg (enc a1.At).toArray), (9, .int .i64 (i5 : Int))]) (fun (i5, k5, _u) => (.blk b3 (enc a1) 47) :: (.blk b1 (enc a0) 23) :: L) (fun _ => (fun (i5, k5, _u) => rangeM (causal_deliverable_B0 a0 a1) k5 i5 () = some ol5 ∧ i5 + k5 = 6)) (fun (i5, k5, _u) => k5) (0, 6, ()) ⟨rfl, rfl, rfl, rfl, trivial⟩ rfl ⟨H, by omega⟩ ?_
  rintro F6 ⟨i5, k5, _u⟩ hF7 ⟨H, hik5⟩
  refine Cd.as (e' := [(2, .pointer (some ⟨b1, 0, none⟩)), (3, .pointer (some ⟨b3, 0, none⟩)), (8, .agg (enc a1.At).toArray), (9, .int .i64 (i5 : Int))]) (L' := (.blk b3 (enc a1) 47) :: (.blk b1 (enc a0) 23) :: L) ⟨rfl, rfl, rfl, rfl, trivial⟩ rfl ?_
  rcases k5 with _ | k5
  · have hc5 : decide ((i5 : Int) < (6 : Int)) = false := decide_eq_false (by omega)
    replace H := rangeM_end H
    refine Cd.seq ?_
    refine Cd.region ?_
    refine Lst.run rfl rfl (by decide) (Ev.lss rfl rfl) ?_
    refine Lst.nil ?_
    refine At.then ?_
    refine Cd.seq ?_
    refine Cd.condF rfl hc5 ?_
    refine Cd.exit ?_
    refine At.then_exit ?_
    refine At.then_exit ?_
    refine At.in_exit ?_
    subst H
    replace H := HKl5
    refine At.then ?_
    refine Cd.seq ?_
    refine Cd.region ?_
    refine Lst.run rfl rfl (by decide) (Ev.assign rfl) ?_
    refine Lst.nil ?_
    refine At.then ?_
    obtain rfl := some_inj H
    refine Cd.ret ?_
    exact At.ret1 rfl (Res.tmp rfl) hF7 (List.Sublist.cons _ (List.Sublist.cons _ (List.Sublist.refl _))) ⟨rfl, rfl⟩
  have hc5 : decide ((i5 : Int) < (6 : Int)) = true := decide_eq_true (by omega)
  obtain ⟨c5, H, hgo5, hbrk5, hret5⟩ := rangeM_go H
  unfold causal_deliverable_B0 at H
  try dsimp only at H
  refine Cd.seq ?_
  refine Cd.region ?_
  refine Lst.run rfl rfl (by decide) (Ev.lss rfl rfl) ?_
  refine Lst.nil ?_
  refine At.then ?_
  refine Cd.seq ?_
  refine Cd.condT rfl hc5 ?_
  refine Cd.skip ?_
  refine At.then ?_
  refine Cd.seq ?_
  refine Cd.block ?_
  refine Cd.seq ?_
  refine Cd.region ?_
  refine Lst.run rfl rfl (by decide) (Ev.move rfl) ?_
  obtain ⟨x8, h9, H⟩ := bind_some H
  have g10 := vat_some h9
  refine Lst.run rfl rfl (by decide) (Ev.index1 rfl rfl Try.runUnderlying23 Try.isAgg3 Try.sizeOf3 g10.1 g10.2.1 rfl ((Get.vecN (s := 1) rfl g10.2.2 (Get.here _)).off (by omega))) ?_
  refine Lst.run rfl rfl (by decide) (Ev.assign rfl) ?_
  refine Lst.run rfl rfl (by decide) (Ev.assign rfl) ?_
  refine Lst.nil ?_
  refine At.then ?_
  refine Cd.seq ?_
  refine Cd.region ?_
  refine Lst.run rfl rfl (by decide) (Ev.move rfl) ?_
  refine Lst.run rfl rfl (by decide) (Ev.fieldAddr (off' := 0) rfl Try.runUnderlying47 rfl Try.sizeOf3 rfl rfl) ?_
  refine Lst.run rfl rfl (by decide) (Ev.load (i := 0) rfl rfl Try.isAgg3 (v := .int .i64 a1.From) ((Mail.get_From (Get.here _)).off (by rfl))) ?_
  refine Lst.run rfl rfl (by decide) (Ev.eql rfl rfl) ?_
  refine Lst.run rfl rfl (by decide) (Ev.move rfl) ?_
  obtain ⟨o11, H, HKo11⟩ := bind_some H
  refine Lst.join (σ := Bool) 7 (fun y12 => [(2, .pointer (some ⟨b1, 0, none⟩)), (3, .pointer (some ⟨b3, 0, none⟩)), (5, .int .i64 (i5 : Int)), (6, .int .i64 x8), (8, .agg (enc a1.At).toArray), (9, .int .i64 (i5 : Int)), (24, .bool y12)]) (fun y12 => (.blk b3 (enc a1) 47) :: (.blk b1 (enc a0) 23) :: L) (fun _ y12 => y12 = o11) ?_ ?_
  · rcases (Bool.eq_false_or_eq_true ((i5 : Int) == a1.From)).symm with hb13 | hb13
    · replace H := ite_f hb13 H
      refine Lst.skip rfl rfl rfl hb13 rfl (by decide) ?_
      refine Lst.skip rfl rfl rfl hb13 rfl (by decide) ?_
      refine Lst.skip rfl rfl rfl hb13 rfl (by decide) ?_
      refine Lst.skip rfl rfl rfl hb13 rfl (by decide) ?_
      refine Lst.skip rfl rfl rfl hb13 rfl (by decide) ?_
      refine Lst.skip rfl rfl rfl hb13 rfl (by decide) ?_
      refine Lst.run rfl rfl (by decide) (Ev.pickF rfl hb13 rfl) ?_
      refine Lst.nil ?_
      exact At.meet false (FLe.refl _) ⟨rfl, rfl, rfl, rfl, rfl, rfl, rfl, trivial⟩ rfl (some_inj H)
    replace H := ite_t hb13 H
    refine Lst.runG rfl rfl rfl hb13 rfl (by decide) (Ev.move rfl) ?_
    refine Lst.runG rfl rfl rfl hb13 rfl (by decide) (Ev.move rfl) ?_
    obtain ⟨x14, h15, H⟩ := bind_some H
    have g16 := vat_some h15
    refine Lst.runG rfl rfl rfl hb13 rfl (by decide) (Ev.indexAddr (off' := 0 + (i5 : Int).toNat * 1) rfl rfl Try.runUnderlying23 Try.sizeOf3 g16.1 g16.2.1 rfl) ?_
    refine Lst.runG rfl rfl rfl hb13 rfl (by decide) (Ev.load (i := 1) rfl rfl Try.isAgg3 (v := .int .i64 x14) ((Get.vecN (s := 1) (x := x14) rfl g16.2.2 (Get.here _)).off (by omega))) ?_
    refine Lst.runG rfl rfl rfl hb13 rfl (by decide) (Ev.add rfl rfl) ?_
    refine Lst.runG rfl rfl rfl hb13 rfl (by decide) (Ev.neq rfl rfl) ?_
    refine Lst.run rfl rfl (by decide) (Ev.pickT rfl hb13 rfl) ?_
    refine Lst.nil ?_
    exact At.meet (x8 != (w64 (x14 + (1 : Int)))) (FLe.refl _) ⟨rfl, rfl, rfl, rfl, rfl, rfl, rfl, trivial⟩ rfl (some_inj H)
  rintro F17 y12 hF18 hy
  subst hy
  refine Lst.as (e' := [(2, .pointer (some ⟨b1, 0, none⟩)), (3, .pointer (some ⟨b3, 0, none⟩)), (5, .int .i64 (i5 : Int)), (6, .int .i64 x8), (8, .agg (enc a1.At).toArray), (9, .int .i64 (i5 : Int)), (24, .bool y12)]) (L' := (.blk b3 (enc a1) 47) :: (.blk b1 (enc a0) 23) :: L) ⟨rfl, rfl, rfl, rfl, rfl, rfl, rfl, trivial⟩ rfl ?_
  replace H := HKo11
  refine Lst.run rfl rfl (by decide) (Ev.move rfl) ?_
  rcases Bool.eq_false_or_eq_true y12 with hb19 | hb19
  · replace H := ite_t hb19 H
    refine Lst.skip rfl rfl rfl hb19 rfl (by decide) ?_
    refine Lst.skip rfl rfl rfl hb19 rfl (by decide) ?_
    refine Lst.skip rfl rfl rfl hb19 rfl (by decide) ?_
    refine Lst.skip rfl rfl rfl hb19 rfl (by decide) ?_
    refine Lst.skip rfl rfl rfl hb19 rfl (by decide) ?_
    refine Lst.skipU rfl rfl rfl rfl (by decide) ?_
    refine Lst.skipU rfl rfl rfl rfl (by decide) ?_
    refine Lst.skipU rfl rfl rfl rfl (by decide) ?_
    refine Lst.skipU rfl rfl rfl rfl (by decide) ?_
    refine Lst.skipU rfl rfl rfl rfl (by decide) ?_
    refine Lst.skip rfl rfl rfl hb19 rfl (by decide) ?_
    refine Lst.run rfl rfl (by decide) (Ev.pickT rfl hb19 rfl) ?_
    refine Lst.nil ?_
    refine At.then ?_
    refine Cd.condT rfl rfl ?_
    refine Cd.seq ?_
    refine Cd.as (e' := []) (L' := (.blk b3 (enc a1) 47) :: (.blk b1 (enc a0) 23) :: L) trivial rfl ?_
    refine Cd.region ?_
    refine Lst.run rfl rfl (by decide) (Ev.assign rfl) ?_
    refine Lst.nil ?_
    refine At.then ?_
    have H := hret5 _ (some_inj H).symm
    subst H
    replace H := HKl5
    obtain rfl := some_inj H
    refine Cd.ret ?_
    refine At.in_ret ?_
    refine At.then_ret ?_
    refine At.then_ret ?_
    refine At.in_ret ?_
    refine At.then_ret ?_
    exact At.ret1 rfl (Res.tmp rfl) (FLe.trans hF7 hF18) (List.Sublist.cons _ (List.Sublist.cons _ (List.Sublist.refl _))) ⟨rfl, rfl⟩
  replace H := ite_f hb19 H
  refine Lst.runG rfl rfl rfl hb19 rfl (by decide) (Ev.move rfl) ?_
  refine Lst.runG rfl rfl rfl hb19 rfl (by decide) (Ev.fieldAddr (off' := 0) rfl Try.runUnderlying47 rfl Try.sizeOf3 rfl rfl) ?_
  refine Lst.runG rfl rfl rfl hb19 rfl (by decide) (Ev.load (i := 0) rfl rfl Try.isAgg3 (v := .int .i64 a1.From) ((Mail.get_From (Get.here _)).off (by rfl))) ?_
  refine Lst.runG rfl rfl rfl hb19 rfl (by decide) (Ev.neq rfl rfl) ?_
  refine Lst.runG rfl rfl rfl hb19 rfl (by decide) (Ev.move rfl) ?_
  obtain ⟨o20, H, HKo20⟩ := bind_some H
  refine Lst.join (σ := Bool) 6 (fun y21 => [(2, .pointer (some ⟨b1, 0, none⟩)), (3, .pointer (some ⟨b3, 0, none⟩)), (8, .agg (enc a1.At).toArray), (9, .int .i64 (i5 : Int)), (25, .bool y12), (36, .bool y21)]) (fun y21 => (.blk b3 (enc a1) 47) :: (.blk b1 (enc a0) 23) :: L) (fun _ y21 => y21 = o20) ?_ ?_
  · rcases (Bool.eq_false_or_eq_true ((i5 : Int) != a1.From)).symm with hb22 | hb22
    · replace H := ite_f hb22 H
      refine Lst.skip rfl rfl rfl hb22 rfl (by decide) ?_
      refine Lst.skip rfl rfl rfl hb22 rfl (by decide) ?_
      refine Lst.skip rfl rfl rfl hb22 rfl (by decide) ?_
      refine Lst.skip rfl rfl rfl hb22 rfl (by decide) ?_
      refine Lst.skip rfl rfl rfl hb22 rfl (by decide) ?_
      refine Lst.runG rfl rfl rfl hb19 rfl (by decide) (Ev.pickF rfl hb22 rfl) ?_
      refine Lst.nil ?_
      exact At.meet false (FLe.refl _) ⟨rfl, rfl, rfl, rfl, rfl, rfl, trivial⟩ rfl (some_inj H)
    replace H := ite_t hb22 H
    refine Lst.runG rfl rfl rfl hb22 rfl (by decide) (Ev.move rfl) ?_
    refine Lst.runG rfl rfl rfl hb22 rfl (by decide) (Ev.move rfl) ?_
    obtain ⟨x23, h24, H⟩ := bind_some H
    have g25 := vat_some h24
    refine Lst.runG rfl rfl rfl hb22 rfl (by decide) (Ev.indexAddr (off' := 0 + (i5 : Int).toNat * 1) rfl rfl Try.runUnderlying23 Try.sizeOf3 g25.1 g25.2.1 rfl) ?_
    refine Lst.runG rfl rfl rfl hb22 rfl (by decide) (Ev.load (i := 1) rfl rfl Try.isAgg3 (v := .int .i64 x23) ((Get.vecN (s := 1) (x := x23) rfl g25.2.2 (Get.here _)).off (by omega))) ?_
    refine Lst.runG rfl rfl rfl hb22 rfl (by decide) (Ev.gtr rfl rfl) ?_
    refine Lst.runG rfl rfl rfl hb19 rfl (by decide) (Ev.pickT rfl hb22 rfl) ?_
    refine Lst.nil ?_
    exact At.meet (decide (x8 > x23)) (FLe.refl _) ⟨rfl, rfl, rfl, rfl, rfl, rfl, trivial⟩ rfl (some_inj H)
  rintro F26 y21 hF27 hy
  subst hy
  refine Lst.as (e' := [(2, .pointer (some ⟨b1, 0, none⟩)), (3, .pointer (some ⟨b3, 0, none⟩)), (8, .agg (enc a1.At).toArray), (9, .int .i64 (i5 : Int)), (25, .bool y12), (36, .bool y21)]) (L' := (.blk b3 (enc a1) 47) :: (.blk b1 (enc a0) 23) :: L) ⟨rfl, rfl, rfl, rfl, rfl, rfl, trivial⟩ rfl ?_
  replace H := HKo20
  refine Lst.run rfl rfl (by decide) (Ev.pickF rfl hb19 rfl) ?_
  refine Lst.nil ?_
  refine At.then ?_
  rcases Bool.eq_false_or_eq_true y21 with hb28 | hb28
  · replace H := ite_t hb28 H
    refine Cd.condT rfl hb28 ?_
    refine Cd.seq ?_
    refine Cd.region ?_
    refine Lst.run rfl rfl (by decide) (Ev.assign rfl) ?_
    refine Lst.nil ?_
    refine At.then ?_
    have H := hret5 _ (some_inj H).symm
    subst H
    replace H := HKl5
    obtain rfl := some_inj H
    refine Cd.ret ?_
    refine At.in_ret ?_
    refine At.then_ret ?_
    refine At.then_ret ?_
    refine At.in_ret ?_
    refine At.then_ret ?_
    exact At.ret1 rfl (Res.tmp rfl) (FLe.trans (FLe.trans hF7 hF18) hF27) (List.Sublist.cons _ (List.Sublist.cons _ (List.Sublist.refl _))) ⟨rfl, rfl⟩
  replace H := ite_f hb28 H
  refine Cd.condF rfl hb28 ?_
  refine Cd.skip ?_
  refine At.in_normal ?_
  refine At.then ?_
  refine Cd.region ?_
  refine Lst.run rfl rfl (by decide) (Ev.incr (by omega) rfl rfl) ?_
  refine Lst.run rfl rfl (by decide) (Ev.move rfl) ?_
  refine Lst.nil ?_
  exact At.meet (i5 + 1, k5, ()) (FLe.trans (FLe.trans hF7 hF18) hF27) ⟨rfl, rfl, rfl, rfl, trivial⟩ rfl ⟨⟨hgo5 _ (some_inj H).symm, by omega⟩, Nat.lt_succ_self _⟩
set_option maxRecDepth 20000 in
theorem causal_same_sim {a0 : Mail} {a1 : Mail} {r : Bool} (H : causal_same a0 a1 = some r) (w0 : World) (F : Frz) (M L : List Item) (hM : M.Sublist L) : Ok Try.prog w0 107 [.agg (enc a0).toArray, .agg (enc a1).toArray] F (L) (Is (.bool r) (L)) := by
  unfold causal_same at H
  refine Ok.enter (m := 2) (n := 23) Try.func107 rfl rfl rfl (by decide) ?_
  refine Cd.env (e' := [(0, .agg (enc a0).toArray), (1, .agg (enc a1).toArray)]) rfl ?_
  refine Cd.seq ?_
  refine Cd.region ?_
  refine Lst.box rfl rfl (by decide) rfl (cs := enc a0) rfl (fun b1 => ?_)
  refine Lst.box rfl rfl (by decide) rfl (cs := enc a1) rfl (fun b3 => ?_)
  refine Lst.run rfl rfl (by decide) (Ev.assign rfl) ?_
  refine Lst.nil ?_
  refine At.then ?_
  refine Cd.seq ?_
  refine Cd.quiet (by kernel_rfl) (by kernel_rfl) ?_
  refine Qt.run rfl rfl (by decide) (Ev.fieldAddr (off' := 0) rfl Try.runUnderlying47 rfl Try.sizeOf3 rfl rfl) ?_
  refine Qt.run rfl rfl (by decide) (Ev.load (i := 1) rfl rfl Try.isAgg3 (v := .int .i64 a0.From) ((Mail.get_From (Get.here _)).off (by rfl))) ?_
  refine Qt.run rfl rfl (by decide) (Ev.fieldAddr (off' := 0) rfl Try.runUnderlying47 rfl Try.sizeOf3 rfl rfl) ?_
  refine Qt.run rfl rfl (by decide) (Ev.load (i := 0) rfl rfl Try.isAgg3 (v := .int .i64 a1.From) ((Mail.get_From (Get.here _)).off (by rfl))) ?_
  refine Qt.run rfl rfl (by decide) (Ev.eql rfl rfl) ?_
  refine Qt.run rfl rfl (by decide) (Ev.move rfl) ?_
  obtain ⟨o5, H, HKo5⟩ := bind_some H
  refine Qt.join (σ := Bool) 12 (fun y6 => [(22, .bool y6)]) (fun y6 => y6 = o5) ?_ ?_
  · rcases (Bool.eq_false_or_eq_true (a0.From == a1.From)).symm with hb7 | hb7
    · replace H := ite_f hb7 H
      refine Qt.skip rfl rfl rfl hb7 rfl (by decide) ?_
      refine Qt.skip rfl rfl rfl hb7 rfl (by decide) ?_
      refine Qt.skip rfl rfl rfl hb7 rfl (by decide) ?_
      refine Qt.skip rfl rfl rfl hb7 rfl (by decide) ?_
      refine Qt.skip rfl rfl rfl hb7 rfl (by decide) ?_
      refine Qt.skip rfl rfl rfl hb7 rfl (by decide) ?_
      refine Qt.skip rfl rfl rfl hb7 rfl (by decide) ?_
      refine Qt.skip rfl rfl rfl hb7 rfl (by decide) ?_
      refine Qt.skip rfl rfl rfl hb7 rfl (by decide) ?_
      refine Qt.skip rfl rfl rfl hb7 rfl (by decide) ?_
      refine Qt.skip rfl rfl rfl hb7 rfl (by decide) ?_
      refine Qt.run rfl rfl (by decide) (Ev.pickF rfl hb7 rfl) ?_
      exact Qt.meet false ⟨rfl, trivial⟩ (some_inj H)
    replace H := ite_t hb7 H
    refine Qt.runG rfl rfl rfl hb7 rfl (by decide) (Ev.fieldAddr (off' := 0) rfl Try.runUnderlying47 rfl Try.sizeOf3 rfl rfl) ?_
    refine Qt.runG rfl rfl rfl hb7 rfl (by decide) (Ev.load (i := 1) rfl rfl Try.isAgg3 (v := .int .i64 a0.From) ((Mail.get_From (Get.here _)).off (by rfl))) ?_
    refine Qt.runG rfl rfl rfl hb7 rfl (by decide) (Ev.fieldAddr (off' := 1) rfl Try.runUnderlying47 rfl Try.sizeOf23 rfl rfl) ?_
    obtain ⟨x8, h9, H⟩ := bind_some H
    have g10 := vat_some h9
    refine Qt.runG rfl rfl rfl hb7 rfl (by decide) (Ev.indexAddr (off' := 1 + a0.From.toNat * 1) rfl rfl Try.runUnderlying23 Try.sizeOf3 g10.1 g10.2.1 rfl) ?_
    refine Qt.runG rfl rfl rfl hb7 rfl (by decide) (Ev.load (i := 1) rfl rfl Try.isAgg3 (v := .int .i64 x8) ((Mail.get_At (Get.vecN (s := 1) (x := x8) rfl g10.2.2 (Get.here _))).off (by omega))) ?_
    refine Qt.runG rfl rfl rfl hb7 rfl (by decide) (Ev.fieldAddr (off' := 0) rfl Try.runUnderlying47 rfl Try.sizeOf3 rfl rfl) ?_
    refine Qt.runG rfl rfl rfl hb7 rfl (by decide) (Ev.load (i := 0) rfl rfl Try.isAgg3 (v := .int .i64 a1.From) ((Mail.get_From (Get.here _)).off (by rfl))) ?_
    refine Qt.runG rfl rfl rfl hb7 rfl (by decide) (Ev.fieldAddr (off' := 1) rfl Try.runUnderlying47 rfl Try.sizeOf23 rfl rfl) ?_
    obtain ⟨x11, h12, H⟩ := bind_some H
    have g13 := vat_some h12
    refine Qt.runG rfl rfl rfl hb7 rfl (by decide) (Ev.indexAddr (off' := 1 + a1.From.toNat * 1) rfl rfl Try.runUnderlying23 Try.sizeOf3 g13.1 g13.2.1 rfl) ?_
    refine Qt.runG rfl rfl rfl hb7 rfl (by decide) (Ev.load (i := 0) rfl rfl Try.isAgg3 (v := .int .i64 x11) ((Mail.get_At (Get.vecN (s := 1) (x := x11) rfl g13.2.2 (Get.here _))).off (by omega))) ?_
    refine Qt.runG rfl rfl rfl hb7 rfl (by decide) (Ev.eql rfl rfl) ?_
    refine Qt.run rfl rfl (by decide) (Ev.pickT rfl hb7 rfl) ?_
    exact Qt.meet (x8 == x11) ⟨rfl, trivial⟩ (some_inj H)
  rintro y6 hy
  subst hy
  refine Qt.as (e' := [(22, .bool y6)]) ⟨rfl, trivial⟩ ?_
  replace H := HKo5
  refine Qt.run rfl rfl (by decide) (Ev.assign rfl) ?_
  refine Qt.done ?_
  refine At.then ?_
  obtain rfl := some_inj H
  refine Cd.ret ?_
  exact At.ret1 rfl (Res.tmp rfl) (FLe.refl _) (List.Sublist.cons _ (List.Sublist.cons _ (List.Sublist.refl _))) ⟨rfl, rfl⟩
set_option maxRecDepth 20000 in
theorem causal_Check_2_sim {a0 : Mail} {a1 : Mail} {b_a1 : Nat} {r : Bool} (H : causal_Check_2 a0 a1 = some r) (w0 : World) (F : Frz) (M L : List Item) (hM : M.Sublist L) : Ok Try.prog w0 116 [.agg (enc a0).toArray, .pointer (some ⟨b_a1, 0, none⟩)] F ((.blk b_a1 (enc a1) 47) :: L) (Is (.bool r) ((.blk b_a1 (enc a1) 47) :: L)) := by
  unfold causal_Check_2 at H
  refine Ok.enter (m := 2) (n := 7) Try.func116 rfl rfl rfl (by decide) ?_
  refine Cd.env (e' := [(0, .agg (enc a0).toArray), (1, .pointer (some ⟨b_a1, 0, none⟩))]) rfl ?_
  refine Cd.seq ?_
  refine Cd.region ?_
  refine Lst.box rfl rfl (by decide) rfl (cs := enc a0) rfl (fun b2 => ?_)
  refine Lst.run rfl rfl (by decide) (Ev.assign rfl) ?_
  refine Lst.nil ?_
  refine At.then ?_
  refine Cd.seq ?_
  refine Cd.region ?_
  refine Lst.run rfl rfl (by decide) (Ev.loadA (i := 0) rfl rfl Try.isAgg47 Try.sizeOf47 (ch := enc a0) (Enc.len _) (Get.here _)) ?_
  refine Lst.run rfl rfl (by decide) (Ev.loadA (i := 1) rfl rfl Try.isAgg47 Try.sizeOf47 (ch := enc a1) (Enc.len _) (Get.here _)) ?_
  obtain ⟨r4, h5, H⟩ := bind_some H
  refine Lst.call1 rfl rfl (by decide) (vs := [.agg (enc a0).toArray, .agg (enc a1).toArray]) ⟨rfl, rfl, trivial⟩ Try.call107 (causal_same_sim h5 w0 _ M _ (List.Sublist.cons _ (List.Sublist.cons _ hM))) ?_
  refine Lst.run rfl rfl (by decide) (Ev.assign rfl) ?_
  refine Lst.nil ?_
  refine At.then ?_
  obtain rfl := some_inj H
  refine Cd.ret ?_
  exact At.ret1 rfl (Res.tmp rfl) (FLe.refl _) (List.Sublist.cons _ (List.Sublist.cons_cons _ (List.Sublist.refl _))) ⟨rfl, rfl⟩
set_option maxRecDepth 20000 in
theorem slices_IndexFunc_api_Mail_api_Mail_Check_2_sim {a0 : List Mail} {a1_c0 : Mail} {s_a0 : Sl} {b_a1_c0 : Nat} {r : Int} (H : slices_IndexFunc_api_Mail_api_Mail_Check_2 a0 a1_c0 = some r) (w0 : World) (F : Frz) (M L : List Item) (hM : M.Sublist L) (hs_a0 : Rd w0 F M s_a0 a0) : Ok Try.prog w0 109 [Sl.v s_a0, .func (.func 116) #[] #[.pointer (some ⟨b_a1_c0, 0, none⟩)]] F ((.blk b_a1_c0 (enc a1_c0) 47) :: L) (Is (.int .i64 r) ((.blk b_a1_c0 (enc a1_c0) 47) :: L)) := by
  unfold slices_IndexFunc_api_Mail_api_Mail_Check_2 at H
  refine Ok.enter (m := 2) (n := 19) Try.func109 rfl rfl rfl (by decide) ?_
  refine Cd.env (e' := [(0, Sl.v s_a0), (1, .func (.func 116) #[] #[.pointer (some ⟨b_a1_c0, 0, none⟩)])]) rfl ?_
  refine Cd.seq ?_
  refine Cd.region ?_
  refine Lst.run rfl rfl (by decide) (Ev.assign rfl) ?_
  refine Lst.nil ?_
  refine At.then ?_
  refine Cd.seq ?_
  refine Cd.seq ?_
  refine Cd.region ?_
  refine Lst.run rfl rfl (by decide) (Ev.move rfl) ?_
  refine Lst.run rfl rfl (by decide) (Ev.lenS (α := Mail) (xs := a0) (by decide) rfl rfl Try.runUnderlying43 (hs_a0.mono (FLe.refl _) (List.Sublist.cons _ hM))) ?_
  refine Lst.run rfl rfl (by decide) (Ev.move rfl) ?_
  refine Lst.nil ?_
  refine At.then ?_
  refine Cd.block ?_
  refine Cd.bound (Rd.le (α := Mail) (xs := a0) (by decide) (hs_a0.mono (FLe.refl _) (List.Sublist.cons _ hM))) (fun hN13 => ?_)
  obtain ⟨ol2, H, HKl2⟩ := andThen_some H
  refine Cd.loop (σ := Nat × Nat × Unit) (fun (i2, k2, _u) => [(0, Sl.v s_a0), (1, .func (.func 116) #[] #[.pointer (some ⟨b_a1_c0, 0, none⟩)]), (7, .int .i64 (a0.length : Int)), (8, .int .i64 (i2 : Int))]) (fun (i2, k2, _u) => (.blk b_a1_c0 (enc a1_c0) 47) :: L) (fun _ => (fun (i2, k2, _u) => rangeM (slices_IndexFunc_api_Mail_api_Mail_Check_2_B0 a0 a1_c0) k2 i2 () = some ol2 ∧ i2 + k2 = a0.length)) (fun (i2, k2, _u) => k2) (0, a0.length, ()) ⟨rfl, rfl, rfl, rfl, trivial⟩ rfl ⟨H, by omega⟩ ?_
  rintro F3 ⟨i2, k2, _u⟩ hF4 ⟨H, hik2⟩
  refine Cd.as (e' := [(0, Sl.v s_a0), (1, .func (.func 116) #[] #[.pointer (some ⟨b_a1_c0, 0, none⟩)]), (7, .int .i64 (a0.length : Int)), (8, .int .i64 (i2 : Int))]) (L' := (.blk b_a1_c0 (enc a1_c0) 47) :: L) ⟨rfl, rfl, rfl, rfl, trivial⟩ rfl ?_
  rcases k2 with _ | k2
  · have hc2 : decide ((i2 : Int) < (a0.length : Int)) = false := decide_eq_false (by omega)
    replace H := rangeM_end H
    refine Cd.seq ?_
    refine Cd.region ?_
    refine Lst.run rfl rfl (by decide) (Ev.lss rfl rfl) ?_
    refine Lst.nil ?_
    refine At.then ?_
    refine Cd.seq ?_
    refine Cd.condF rfl hc2 ?_
    refine Cd.exit ?_
    refine At.then_exit ?_
    refine At.then_exit ?_
    refine At.in_exit ?_
    subst H
    replace H := HKl2
    refine At.then ?_
    refine Cd.seq ?_
    refine Cd.region ?_
    refine Lst.run rfl rfl (by decide) (Ev.assign rfl) ?_
    refine Lst.nil ?_
    refine At.then ?_
    obtain rfl := some_inj H
    refine Cd.ret ?_
    exact At.ret1 rfl (Res.tmp rfl) hF4 (List.Sublist.cons_cons _ (List.Sublist.refl _)) ⟨rfl, rfl⟩
  have hc2 : decide ((i2 : Int) < (a0.length : Int)) = true := decide_eq_true (by omega)
  obtain ⟨c2, H, hgo2, hbrk2, hret2⟩ := rangeM_go H
  unfold slices_IndexFunc_api_Mail_api_Mail_Check_2_B0 at H
  try dsimp only at H
  refine Cd.seq ?_
  refine Cd.region ?_
  refine Lst.run rfl rfl (by decide) (Ev.lss rfl rfl) ?_
  refine Lst.nil ?_
  refine At.then ?_
  refine Cd.seq ?_
  refine Cd.condT rfl hc2 ?_
  refine Cd.skip ?_
  refine At.then ?_
  refine Cd.seq ?_
  refine Cd.block ?_
  refine Cd.seq ?_
  refine Cd.region ?_
  refine Lst.run rfl rfl (by decide) (Ev.move rfl) ?_
  refine Lst.run rfl rfl (by decide) (Ev.assign rfl) ?_
  refine Lst.nil ?_
  refine At.then ?_
  refine Cd.seq ?_
  refine Cd.region ?_
  refine Lst.run rfl rfl (by decide) (Ev.move rfl) ?_
  refine Lst.run rfl rfl (by decide) (Ev.move rfl) ?_
  refine Lst.run rfl rfl (by decide) (Ev.move rfl) ?_
  obtain ⟨x5, h6, H⟩ := bind_some H
  have g7 := lat_some h6
  refine Lst.run rfl rfl (by decide) (Ev.indexS (α := Mail) (xs := a0) rfl rfl Try.runUnderlying43 Try.sizeOf47 rfl (by decide) (hs_a0.mono hF4 (List.Sublist.cons _ hM)) g7.1 g7.2.1) ?_
  refine Lst.run rfl rfl (by decide) (Ev.loadSA (α := Mail) rfl (hs_a0.mono hF4 (List.Sublist.cons _ hM)) Try.isAgg47 Try.sizeOf47 (ch := enc x5) (Enc.len _) (by decide) ((Get.elemN (s := 8) (x := x5) rfl g7.2.2 (Get.here _)).off (by omega))) ?_
  obtain ⟨r8, h9, H⟩ := bind_some H
  refine Lst.callV1 rfl rfl (by decide) (vs := [.agg (enc x5).toArray]) (cs := [.pointer (some ⟨b_a1_c0, 0, none⟩)]) rfl ⟨rfl, trivial⟩ Try.call116 (causal_Check_2_sim h9 w0 _ M _ hM) ?_
  refine Lst.nil ?_
  refine At.then ?_
  rcases Bool.eq_false_or_eq_true r8 with hb12 | hb12
  · replace H := ite_t hb12 H
    refine Cd.condT rfl hb12 ?_
    refine Cd.seq ?_
    refine Cd.region ?_
    refine Lst.run rfl rfl (by decide) (Ev.move rfl) ?_
    refine Lst.run rfl rfl (by decide) (Ev.assign rfl) ?_
    refine Lst.nil ?_
    refine At.then ?_
    have H := hret2 _ (some_inj H).symm
    subst H
    replace H := HKl2
    obtain rfl := some_inj H
    refine Cd.ret ?_
    refine At.in_ret ?_
    refine At.then_ret ?_
    refine At.then_ret ?_
    refine At.in_ret ?_
    refine At.then_ret ?_
    exact At.ret1 rfl (Res.tmp rfl) hF4 (List.Sublist.cons_cons _ (List.Sublist.refl _)) ⟨rfl, rfl⟩
  replace H := ite_f hb12 H
  refine Cd.condF rfl hb12 ?_
  refine Cd.skip ?_
  refine At.in_normal ?_
  refine At.then ?_
  refine Cd.region ?_
  refine Lst.run rfl rfl (by decide) (Ev.incr (by omega) rfl rfl) ?_
  refine Lst.run rfl rfl (by decide) (Ev.move rfl) ?_
  refine Lst.nil ?_
  exact At.meet (i2 + 1, k2, ()) hF4 ⟨rfl, rfl, rfl, rfl, trivial⟩ rfl ⟨⟨hgo2 _ (some_inj H).symm, by omega⟩, Nat.lt_succ_self _⟩
set_option maxRecDepth 20000 in
theorem slices_ContainsFunc_api_Mail_api_Mail_Check_2_sim {a0 : List Mail} {a1_c0 : Mail} {s_a0 : Sl} {b_a1_c0 : Nat} {r : Bool} (H : slices_ContainsFunc_api_Mail_api_Mail_Check_2 a0 a1_c0 = some r) (w0 : World) (F : Frz) (M L : List Item) (hM : M.Sublist L) (hs_a0 : Rd w0 F M s_a0 a0) : Ok Try.prog w0 101 [Sl.v s_a0, .func (.func 116) #[] #[.pointer (some ⟨b_a1_c0, 0, none⟩)]] F ((.blk b_a1_c0 (enc a1_c0) 47) :: L) (Is (.bool r) ((.blk b_a1_c0 (enc a1_c0) 47) :: L)) := by
  unfold slices_ContainsFunc_api_Mail_api_Mail_Check_2 at H
  refine Ok.enter (m := 2) (n := 9) Try.func101 rfl rfl rfl (by decide) ?_
  refine Cd.env (e' := [(0, Sl.v s_a0), (1, .func (.func 116) #[] #[.pointer (some ⟨b_a1_c0, 0, none⟩)])]) rfl ?_
  refine Cd.seq ?_
  refine Cd.region ?_
  refine Lst.run rfl rfl (by decide) (Ev.assign rfl) ?_
  refine Lst.nil ?_
  refine At.then ?_
  refine Cd.seq ?_
  refine Cd.region ?_
  refine Lst.run rfl rfl (by decide) (Ev.move rfl) ?_
  refine Lst.run rfl rfl (by decide) (Ev.move rfl) ?_
  obtain ⟨r2, h3, H⟩ := bind_some H
  refine Lst.call1 rfl rfl (by decide) (vs := [Sl.v s_a0, .func (.func 116) #[] #[.pointer (some ⟨b_a1_c0, 0, none⟩)]]) ⟨rfl, rfl, trivial⟩ Try.call109 (slices_IndexFunc_api_Mail_api_Mail_Check_2_sim h3 w0 _ M _ hM (hs_a0.mono (FLe.refl _) (List.Sublist.refl _))) ?_
  refine Lst.run rfl rfl (by decide) (Ev.geq rfl rfl) ?_
  refine Lst.run rfl rfl (by decide) (Ev.assign rfl) ?_
  refine Lst.nil ?_
  refine At.then ?_
  obtain rfl := some_inj H
  refine Cd.ret ?_
  exact At.ret1 rfl (Res.tmp rfl) (FLe.refl _) (List.Sublist.cons_cons _ (List.Sublist.refl _)) ⟨rfl, rfl⟩
set_option maxRecDepth 20000 in
theorem causal_Check_sim {a0 : Causal} {s_a0_2 : Sl} {r : Int} (H : causal_Check a0 = some r) (w0 : World) (F : Frz) (M L : List Item) (hM : M.Sublist L) (hs_a0_2 : Rd w0 F M s_a0_2 a0.Hold) : Ok Try.prog w0 29 [.agg (enc (CausalR.mk a0 s_a0_2)).toArray] F (L) (Is (.int .i64 r) (L)) := by
  unfold causal_Check at H
  refine Ok.enter (m := 1) (n := 66) Try.func29 rfl rfl rfl (by decide) ?_
  refine Cd.env (e' := [(0, .agg (enc (CausalR.mk a0 s_a0_2)).toArray)]) rfl ?_
  refine Cd.seq ?_
  refine Cd.region ?_
  refine Lst.box rfl rfl (by decide) rfl (cs := enc (CausalR.mk a0 s_a0_2)) rfl (fun b1 => ?_)
  refine Lst.run rfl rfl (by decide) (Ev.assign rfl) ?_
  refine Lst.nil ?_
  refine At.then ?_
  refine Cd.seq ?_
  refine Cd.block ?_
  refine Cd.seq ?_
  refine Cd.region ?_
  refine Lst.run rfl rfl (by decide) (Ev.fieldAddr (off' := 0) rfl Try.runUnderlying45 rfl Try.sizeOf3 rfl rfl) ?_
  refine Lst.run rfl rfl (by decide) (Ev.load (i := 0) rfl rfl Try.isAgg3 (v := .int .i64 a0.Me) ((CausalR.get_Me (Get.here _)).off (by rfl))) ?_
  obtain ⟨r3, h4, H⟩ := bind_some H
  refine Lst.call1 rfl rfl (by decide) (vs := [.int .i64 a0.Me, .int .i64 (0 : Int), .int .i64 (5 : Int)]) ⟨rfl, rfl, rfl, trivial⟩ Try.call114 (causal_in_sim h4 w0 _ M _ (List.Sublist.cons _ hM)) ?_
  refine Lst.run rfl rfl (by decide) (Ev.not rfl) ?_
  refine Lst.run rfl rfl (by decide) (Ev.move rfl) ?_
  obtain ⟨o7, H, HKo7⟩ := bind_some H
  refine Lst.join (σ := Bool) 4 (fun y8 => [(1, .pointer (some ⟨b1, 0, none⟩)), (14, .bool y8)]) (fun y8 => (.blk b1 (enc (CausalR.mk a0 s_a0_2)) 45) :: L) (fun _ y8 => y8 = o7) ?_ ?_
  · rcases Bool.eq_false_or_eq_true (!r3) with hb9 | hb9
    · replace H := ite_t hb9 H
      refine Lst.skip rfl rfl rfl hb9 rfl (by decide) ?_
      refine Lst.skip rfl rfl rfl hb9 rfl (by decide) ?_
      refine Lst.skip rfl rfl rfl hb9 rfl (by decide) ?_
      refine Lst.run rfl rfl (by decide) (Ev.pickT rfl hb9 rfl) ?_
      refine Lst.nil ?_
      exact At.meet true (FLe.refl _) ⟨rfl, rfl, trivial⟩ rfl (some_inj H)
    replace H := ite_f hb9 H
    refine Lst.runG rfl rfl rfl hb9 rfl (by decide) (Ev.fieldAddr (off' := 1) rfl Try.runUnderlying45 rfl Try.sizeOf23 rfl rfl) ?_
    refine Lst.runG rfl rfl rfl hb9 rfl (by decide) (Ev.sliceAll rfl Try.runUnderlying23 Try.sizeOf3) ?_
    obtain ⟨r10, h11, H⟩ := bind_some H
    refine Lst.call1G rfl rfl rfl hb9 rfl (by decide) (vs := [Sl.v (Sl.mk (some ⟨b1, 1, none⟩) 6 6), .func (.func 115) #[] #[]]) ⟨rfl, rfl, trivial⟩ Try.call93 (slices_ContainsFunc_int_int_Check_1_sim h11 w0 _ _ _ (List.Sublist.refl _) (Rd.blk (i := 0) (xs := a0.Seen.toList) rfl ((CausalR.get_Seen (Get.here _)).off (by rfl)) (by simp) (by decide))) ?_
    refine Lst.run rfl rfl (by decide) (Ev.pickF rfl hb9 rfl) ?_
    refine Lst.nil ?_
    exact At.meet r10 (FLe.refl _) ⟨rfl, rfl, trivial⟩ rfl (some_inj H)
  rintro F14 y8 hF15 hy
  subst hy
  refine Lst.as (e' := [(1, .pointer (some ⟨b1, 0, none⟩)), (14, .bool y8)]) (L' := (.blk b1 (enc (CausalR.mk a0 s_a0_2)) 45) :: L) ⟨rfl, rfl, trivial⟩ rfl ?_
  replace H := HKo7
  refine Lst.run rfl rfl (by decide) (Ev.assign rfl) ?_
  refine Lst.nil ?_
  refine At.then ?_
  rcases Bool.eq_false_or_eq_true y8 with hb16 | hb16
  · replace H := ite_t hb16 H
    refine Cd.condT rfl hb16 ?_
    refine Cd.seq ?_
    refine Cd.region ?_
    refine Lst.run rfl rfl (by decide) (Ev.assign rfl) ?_
    refine Lst.nil ?_
    refine At.then ?_
    obtain rfl := some_inj H
    refine Cd.ret ?_
    refine At.in_ret ?_
    refine At.then_ret ?_
    exact At.ret1 rfl (Res.tmp rfl) hF15 (List.Sublist.cons _ (List.Sublist.refl _)) ⟨rfl, rfl⟩
  replace H := ite_f hb16 H
  refine Cd.condF rfl hb16 ?_
  refine Cd.seq ?_
  refine Cd.region ?_
  refine Lst.run rfl rfl (by decide) (Ev.fieldAddr (off' := 7) rfl Try.runUnderlying45 rfl Try.sizeOf43 rfl rfl) ?_
  refine Lst.run rfl rfl (by decide) (Ev.load (i := 0) rfl rfl Try.isAgg43 (v := Sl.v s_a0_2) ((CausalR.get_Hold (Get.here _)).off (by rfl))) ?_
  refine Lst.run rfl rfl (by decide) (Ev.lenS (α := Mail) (xs := a0.Hold) (by decide) rfl rfl Try.runUnderlying43 (hs_a0_2.mono hF15 (List.Sublist.cons _ hM))) ?_
  refine Lst.run rfl rfl (by decide) (Ev.gtr rfl rfl) ?_
  refine Lst.run rfl rfl (by decide) (Ev.assign rfl) ?_
  refine Lst.nil ?_
  refine At.then ?_
  rcases Bool.eq_false_or_eq_true (decide ((a0.Hold.length : Int) > (40 : Int))) with hb17 | hb17
  · replace H := ite_t hb17 H
    refine Cd.condT rfl hb17 ?_
    refine Cd.seq ?_
    refine Cd.region ?_
    refine Lst.run rfl rfl (by decide) (Ev.assign rfl) ?_
    refine Lst.nil ?_
    refine At.then ?_
    obtain rfl := some_inj H
    refine Cd.ret ?_
    refine At.in_ret ?_
    refine At.then_ret ?_
    exact At.ret1 rfl (Res.tmp rfl) hF15 (List.Sublist.cons _ (List.Sublist.refl _)) ⟨rfl, rfl⟩
  replace H := ite_f hb17 H
  refine Cd.condF rfl hb17 ?_
  refine Cd.skip ?_
  refine At.in_normal ?_
  refine At.then ?_
  refine Cd.seq ?_
  refine Cd.seq ?_
  refine Cd.region ?_
  refine Lst.run rfl rfl (by decide) (Ev.fieldAddr (off' := 7) rfl Try.runUnderlying45 rfl Try.sizeOf43 rfl rfl) ?_
  refine Lst.run rfl rfl (by decide) (Ev.load (i := 0) rfl rfl Try.isAgg43 (v := Sl.v s_a0_2) ((CausalR.get_Hold (Get.here _)).off (by rfl))) ?_
  refine Lst.run rfl rfl (by decide) (Ev.lenS (α := Mail) (xs := a0.Hold) (by decide) rfl rfl Try.runUnderlying43 (hs_a0_2.mono hF15 (List.Sublist.cons _ hM))) ?_
  refine Lst.run rfl rfl (by decide) (Ev.move rfl) ?_
  refine Lst.nil ?_
  refine At.then ?_
  refine Cd.block ?_
  refine Cd.bound (Rd.le (α := Mail) (xs := a0.Hold) (by decide) (hs_a0_2.mono hF15 (List.Sublist.cons _ hM))) (fun hN62 => ?_)
  obtain ⟨ol18, H, HKl18⟩ := andThen_some H
  refine Cd.loop (σ := Nat × Nat × Unit) (fun (i18, k18, _u) => [(1, .pointer (some ⟨b1, 0, none⟩)), (21, Sl.v s_a0_2), (22, .int .i64 (a0.Hold.length : Int)), (23, .int .i64 (i18 : Int))]) (fun (i18, k18, _u) => (.blk b1 (enc (CausalR.mk a0 s_a0_2)) 45) :: L) (fun _ => (fun (i18, k18, _u) => rangeM (causal_Check_B1 a0) k18 i18 () = some ol18 ∧ i18 + k18 = a0.Hold.length)) (fun (i18, k18, _u) => k18) (0, a0.Hold.length, ()) ⟨rfl, rfl, rfl, rfl, trivial⟩ rfl ⟨H, by omega⟩ ?_
  rintro F19 ⟨i18, k18, _u⟩ hF20 ⟨H, hik18⟩
  refine Cd.as (e' := [(1, .pointer (some ⟨b1, 0, none⟩)), (21, Sl.v s_a0_2), (22, .int .i64 (a0.Hold.length : Int)), (23, .int .i64 (i18 : Int))]) (L' := (.blk b1 (enc (CausalR.mk a0 s_a0_2)) 45) :: L) ⟨rfl, rfl, rfl, rfl, trivial⟩ rfl ?_
  rcases k18 with _ | k18
  · have hc18 : decide ((i18 : Int) < (a0.Hold.length : Int)) = false := decide_eq_false (by omega)
    replace H := rangeM_end H
    refine Cd.seq ?_
    refine Cd.region ?_
    refine Lst.run rfl rfl (by decide) (Ev.lss rfl rfl) ?_
    refine Lst.nil ?_
    refine At.then ?_
    refine Cd.seq ?_
    refine Cd.condF rfl hc18 ?_
    refine Cd.exit ?_
    refine At.then_exit ?_
    refine At.then_exit ?_
    refine At.in_exit ?_
    subst H
    replace H := HKl18
    refine At.then ?_
    refine Cd.seq ?_
    refine Cd.region ?_
    refine Lst.run rfl rfl (by decide) (Ev.assign rfl) ?_
    refine Lst.nil ?_
    refine At.then ?_
    obtain rfl := some_inj H
    refine Cd.ret ?_
    exact At.ret1 rfl (Res.tmp rfl) (FLe.trans hF15 hF20) (List.Sublist.cons _ (List.Sublist.refl _)) ⟨rfl, rfl⟩
  have hc18 : decide ((i18 : Int) < (a0.Hold.length : Int)) = true := decide_eq_true (by omega)
  obtain ⟨c18, H, hgo18, hbrk18, hret18⟩ := rangeM_go H
  unfold causal_Check_B1 at H
  try dsimp only at H
  refine Cd.seq ?_
  refine Cd.region ?_
  refine Lst.run rfl rfl (by decide) (Ev.lss rfl rfl) ?_
  refine Lst.nil ?_
  refine At.then ?_
  refine Cd.seq ?_
  refine Cd.condT rfl hc18 ?_
  refine Cd.skip ?_
  refine At.then ?_
  refine Cd.seq ?_
  refine Cd.block ?_
  refine Cd.seq ?_
  refine Cd.region ?_
  refine Lst.run rfl rfl (by decide) (Ev.move rfl) ?_
  obtain ⟨x21, h22, H⟩ := bind_some H
  have g23 := lat_some h22
  refine Lst.run rfl rfl (by decide) (Ev.indexS (α := Mail) (xs := a0.Hold) rfl rfl Try.runUnderlying43 Try.sizeOf47 rfl (by decide) (hs_a0_2.mono (FLe.trans hF15 hF20) (List.Sublist.cons _ hM)) g23.1 g23.2.1) ?_
  refine Lst.run rfl rfl (by decide) (Ev.loadSA (α := Mail) rfl (hs_a0_2.mono (FLe.trans hF15 hF20) (List.Sublist.cons _ hM)) Try.isAgg47 Try.sizeOf47 (ch := enc x21) (Enc.len _) (by decide) ((Get.elemN (s := 8) (x := x21) rfl g23.2.2 (Get.here _)).off (by omega))) ?_
  refine Lst.alloc (cs := enc Mail.zero) rfl rfl (by decide) Try.zeroValue47 rfl (fun b24 => ?_)
  refine Lst.run rfl rfl (by decide) (Ev.assign rfl) ?_
  refine Lst.store (i := 0) rfl rfl rfl rfl rfl Try.sizeOf47 (vs := enc x21) rfl (Enc.len _) (Enc.one _) (cs' := enc x21) (Put.here ((Enc.len _).trans (Enc.len _).symm)) (L' := (.blk b24 (enc x21) 47) :: (.blk b1 (enc (CausalR.mk a0 s_a0_2)) 45) :: L) rfl ?_
  refine Lst.nil ?_
  refine At.then ?_
  refine Cd.seq ?_
  refine Cd.quiet (by kernel_rfl) (by kernel_rfl) ?_
  refine Qt.run rfl rfl (by decide) (Ev.loadA (i := 0) rfl rfl Try.isAgg47 Try.sizeOf47 (ch := enc x21) (Enc.len _) (Get.here _)) ?_
  obtain ⟨r26, h27, H⟩ := bind_some H
  refine Qt.call rfl rfl (by decide) (vs := [.agg (enc x21).toArray]) ⟨rfl, trivial⟩ Try.call105 (causal_formed_sim h27 w0 _ M _ (List.Sublist.cons _ (List.Sublist.cons _ hM))) ?_
  refine Qt.run rfl rfl (by decide) (Ev.not rfl) ?_
  refine Qt.run rfl rfl (by decide) (Ev.move rfl) ?_
  obtain ⟨o30, H, HKo30⟩ := bind_some H
  refine Qt.join (σ := Bool) 6 (fun y31 => [(1, .pointer (some ⟨b1, 0, none⟩)), (3, .int .i64 (i18 : Int)), (4, .pointer (some ⟨b24, 0, none⟩)), (21, Sl.v s_a0_2), (22, .int .i64 (a0.Hold.length : Int)), (23, .int .i64 (i18 : Int)), (37, .bool y31)]) (fun y31 => y31 = o30) ?_ ?_
  · rcases Bool.eq_false_or_eq_true (!r26) with hb32 | hb32
    · replace H := ite_t hb32 H
      refine Qt.skip rfl rfl rfl hb32 rfl (by decide) ?_
      refine Qt.skip rfl rfl rfl hb32 rfl (by decide) ?_
      refine Qt.skip rfl rfl rfl hb32 rfl (by decide) ?_
      refine Qt.skip rfl rfl rfl hb32 rfl (by decide) ?_
      refine Qt.skip rfl rfl rfl hb32 rfl (by decide) ?_
      refine Qt.run rfl rfl (by decide) (Ev.pickT rfl hb32 rfl) ?_
      exact Qt.meet true ⟨rfl, rfl, rfl, rfl, rfl, rfl, rfl, trivial⟩ (some_inj H)
    replace H := ite_f hb32 H
    refine Qt.runG rfl rfl rfl hb32 rfl (by decide) (Ev.fieldAddr (off' := 0) rfl Try.runUnderlying47 rfl Try.sizeOf3 rfl rfl) ?_
    refine Qt.runG rfl rfl rfl hb32 rfl (by decide) (Ev.load (i := 0) rfl rfl Try.isAgg3 (v := .int .i64 x21.From) ((Mail.get_From (Get.here _)).off (by rfl))) ?_
    refine Qt.runG rfl rfl rfl hb32 rfl (by decide) (Ev.fieldAddr (off' := 0) rfl Try.runUnderlying45 rfl Try.sizeOf3 rfl rfl) ?_
    refine Qt.runG rfl rfl rfl hb32 rfl (by decide) (Ev.load (i := 1) rfl rfl Try.isAgg3 (v := .int .i64 a0.Me) ((CausalR.get_Me (Get.here _)).off (by rfl))) ?_
    refine Qt.runG rfl rfl rfl hb32 rfl (by decide) (Ev.eql rfl rfl) ?_
    refine Qt.run rfl rfl (by decide) (Ev.pickF rfl hb32 rfl) ?_
    exact Qt.meet (x21.From == a0.Me) ⟨rfl, rfl, rfl, rfl, rfl, rfl, rfl, trivial⟩ (some_inj H)
  rintro y31 hy
  subst hy
  refine Qt.as (e' := [(1, .pointer (some ⟨b1, 0, none⟩)), (3, .int .i64 (i18 : Int)), (4, .pointer (some ⟨b24, 0, none⟩)), (21, Sl.v s_a0_2), (22, .int .i64 (a0.Hold.length : Int)), (23, .int .i64 (i18 : Int)), (37, .bool y31)]) ⟨rfl, rfl, rfl, rfl, rfl, rfl, rfl, trivial⟩ ?_
  replace H := HKo30
  refine Qt.run rfl rfl (by decide) (Ev.move rfl) ?_
  obtain ⟨o33, H, HKo33⟩ := bind_some H
  refine Qt.join (σ := Bool) 12 (fun y34 => [(1, .pointer (some ⟨b1, 0, none⟩)), (3, .int .i64 (i18 : Int)), (4, .pointer (some ⟨b24, 0, none⟩)), (21, Sl.v s_a0_2), (22, .int .i64 (a0.Hold.length : Int)), (23, .int .i64 (i18 : Int)), (50, .bool y34)]) (fun y34 => y34 = o33) ?_ ?_
  · rcases Bool.eq_false_or_eq_true y31 with hb35 | hb35
    · replace H := ite_t hb35 H
      refine Qt.skip rfl rfl rfl hb35 rfl (by decide) ?_
      refine Qt.skip rfl rfl rfl hb35 rfl (by decide) ?_
      refine Qt.skip rfl rfl rfl hb35 rfl (by decide) ?_
      refine Qt.skip rfl rfl rfl hb35 rfl (by decide) ?_
      refine Qt.skip rfl rfl rfl hb35 rfl (by decide) ?_
      refine Qt.skip rfl rfl rfl hb35 rfl (by decide) ?_
      refine Qt.skip rfl rfl rfl hb35 rfl (by decide) ?_
      refine Qt.skip rfl rfl rfl hb35 rfl (by decide) ?_
      refine Qt.skip rfl rfl rfl hb35 rfl (by decide) ?_
      refine Qt.skip rfl rfl rfl hb35 rfl (by decide) ?_
      refine Qt.skip rfl rfl rfl hb35 rfl (by decide) ?_
      refine Qt.run rfl rfl (by decide) (Ev.pickT rfl hb35 rfl) ?_
      exact Qt.meet true ⟨rfl, rfl, rfl, rfl, rfl, rfl, rfl, trivial⟩ (some_inj H)
    replace H := ite_f hb35 H
    refine Qt.runG rfl rfl rfl hb35 rfl (by decide) (Ev.fieldAddr (off' := 0) rfl Try.runUnderlying47 rfl Try.sizeOf3 rfl rfl) ?_
    refine Qt.runG rfl rfl rfl hb35 rfl (by decide) (Ev.load (i := 0) rfl rfl Try.isAgg3 (v := .int .i64 x21.From) ((Mail.get_From (Get.here _)).off (by rfl))) ?_
    refine Qt.runG rfl rfl rfl hb35 rfl (by decide) (Ev.fieldAddr (off' := 1) rfl Try.runUnderlying47 rfl Try.sizeOf23 rfl rfl) ?_
    obtain ⟨x36, h37, H⟩ := bind_some H
    have g38 := vat_some h37
    refine Qt.runG rfl rfl rfl hb35 rfl (by decide) (Ev.indexAddr (off' := 1 + x21.From.toNat * 1) rfl rfl Try.runUnderlying23 Try.sizeOf3 g38.1 g38.2.1 rfl) ?_
    refine Qt.runG rfl rfl rfl hb35 rfl (by decide) (Ev.load (i := 0) rfl rfl Try.isAgg3 (v := .int .i64 x36) ((Mail.get_At (Get.vecN (s := 1) (x := x36) rfl g38.2.2 (Get.here _))).off (by omega))) ?_
    refine Qt.runG rfl rfl rfl hb35 rfl (by decide) (Ev.fieldAddr (off' := 0) rfl Try.runUnderlying47 rfl Try.sizeOf3 rfl rfl) ?_
    refine Qt.runG rfl rfl rfl hb35 rfl (by decide) (Ev.load (i := 0) rfl rfl Try.isAgg3 (v := .int .i64 x21.From) ((Mail.get_From (Get.here _)).off (by rfl))) ?_
    refine Qt.runG rfl rfl rfl hb35 rfl (by decide) (Ev.fieldAddr (off' := 1) rfl Try.runUnderlying45 rfl Try.sizeOf23 rfl rfl) ?_
    obtain ⟨x39, h40, H⟩ := bind_some H
    have g41 := vat_some h40
    refine Qt.runG rfl rfl rfl hb35 rfl (by decide) (Ev.indexAddr (off' := 1 + x21.From.toNat * 1) rfl rfl Try.runUnderlying23 Try.sizeOf3 g41.1 g41.2.1 rfl) ?_
    refine Qt.runG rfl rfl rfl hb35 rfl (by decide) (Ev.load (i := 1) rfl rfl Try.isAgg3 (v := .int .i64 x39) ((CausalR.get_Seen (Get.vecN (s := 1) (x := x39) rfl g41.2.2 (Get.here _))).off (by omega))) ?_
    refine Qt.runG rfl rfl rfl hb35 rfl (by decide) (Ev.leq rfl rfl) ?_
    refine Qt.run rfl rfl (by decide) (Ev.pickF rfl hb35 rfl) ?_
    exact Qt.meet (decide (x36 ≤ x39)) ⟨rfl, rfl, rfl, rfl, rfl, rfl, rfl, trivial⟩ (some_inj H)
  rintro y34 hy
  subst hy
  refine Qt.as (e' := [(1, .pointer (some ⟨b1, 0, none⟩)), (3, .int .i64 (i18 : Int)), (4, .pointer (some ⟨b24, 0, none⟩)), (21, Sl.v s_a0_2), (22, .int .i64 (a0.Hold.length : Int)), (23, .int .i64 (i18 : Int)), (50, .bool y34)]) ⟨rfl, rfl, rfl, rfl, rfl, rfl, rfl, trivial⟩ ?_
  replace H := HKo33
  refine Qt.run rfl rfl (by decide) (Ev.move rfl) ?_
  obtain ⟨o42, H, HKo42⟩ := bind_some H
  refine Qt.join (σ := Bool) 5 (fun y43 => [(1, .pointer (some ⟨b1, 0, none⟩)), (3, .int .i64 (i18 : Int)), (4, .pointer (some ⟨b24, 0, none⟩)), (21, Sl.v s_a0_2), (22, .int .i64 (a0.Hold.length : Int)), (23, .int .i64 (i18 : Int)), (56, .bool y43)]) (fun y43 => y43 = o42) ?_ ?_
  · rcases Bool.eq_false_or_eq_true y34 with hb44 | hb44
    · replace H := ite_t hb44 H
      refine Qt.skip rfl rfl rfl hb44 rfl (by decide) ?_
      refine Qt.skip rfl rfl rfl hb44 rfl (by decide) ?_
      refine Qt.skip rfl rfl rfl hb44 rfl (by decide) ?_
      refine Qt.skip rfl rfl rfl hb44 rfl (by decide) ?_
      refine Qt.run rfl rfl (by decide) (Ev.pickT rfl hb44 rfl) ?_
      exact Qt.meet true ⟨rfl, rfl, rfl, rfl, rfl, rfl, rfl, trivial⟩ (some_inj H)
    replace H := ite_f hb44 H
    refine Qt.runG rfl rfl rfl hb44 rfl (by decide) (Ev.fieldAddr (off' := 1) rfl Try.runUnderlying45 rfl Try.sizeOf23 rfl rfl) ?_
    refine Qt.runG rfl rfl rfl hb44 rfl (by decide) (Ev.loadA (i := 1) rfl rfl Try.isAgg23 Try.sizeOf23 (ch := enc a0.Seen) (Enc.len _) ((CausalR.get_Seen (Get.here _)).off (by rfl))) ?_
    refine Qt.runG rfl rfl rfl hb44 rfl (by decide) (Ev.loadA (i := 0) rfl rfl Try.isAgg47 Try.sizeOf47 (ch := enc x21) (Enc.len _) (Get.here _)) ?_
    obtain ⟨r45, h46, H⟩ := bind_some H
    refine Qt.callG rfl rfl rfl hb44 rfl (by decide) (vs := [.agg (enc a0.Seen).toArray, .agg (enc x21).toArray]) ⟨rfl, rfl, trivial⟩ Try.call108 (causal_deliverable_sim h46 w0 _ M _ (List.Sublist.cons _ (List.Sublist.cons _ hM))) ?_
    refine Qt.run rfl rfl (by decide) (Ev.pickF rfl hb44 rfl) ?_
    exact Qt.meet r45 ⟨rfl, rfl, rfl, rfl, rfl, rfl, rfl, trivial⟩ (some_inj H)
  rintro y43 hy
  subst hy
  refine Qt.as (e' := [(1, .pointer (some ⟨b1, 0, none⟩)), (3, .int .i64 (i18 : Int)), (4, .pointer (some ⟨b24, 0, none⟩)), (21, Sl.v s_a0_2), (22, .int .i64 (a0.Hold.length : Int)), (23, .int .i64 (i18 : Int)), (56, .bool y43)]) ⟨rfl, rfl, rfl, rfl, rfl, rfl, rfl, trivial⟩ ?_
  replace H := HKo42
  refine Qt.run rfl rfl (by decide) (Ev.move rfl) ?_
  obtain ⟨o49, H, HKo49⟩ := bind_some H
  refine Qt.join (σ := Bool) 7 (fun y50 => [(1, .pointer (some ⟨b1, 0, none⟩)), (21, Sl.v s_a0_2), (22, .int .i64 (a0.Hold.length : Int)), (23, .int .i64 (i18 : Int)), (64, .bool y50)]) (fun y50 => y50 = o49) ?_ ?_
  · rcases Bool.eq_false_or_eq_true y43 with hb51 | hb51
    · replace H := ite_t hb51 H
      refine Qt.skip rfl rfl rfl hb51 rfl (by decide) ?_
      refine Qt.skip rfl rfl rfl hb51 rfl (by decide) ?_
      refine Qt.skip rfl rfl rfl hb51 rfl (by decide) ?_
      refine Qt.skip rfl rfl rfl hb51 rfl (by decide) ?_
      refine Qt.skip rfl rfl rfl hb51 rfl (by decide) ?_
      refine Qt.skip rfl rfl rfl hb51 rfl (by decide) ?_
      refine Qt.run rfl rfl (by decide) (Ev.pickT rfl hb51 rfl) ?_
      exact Qt.meet true ⟨rfl, rfl, rfl, rfl, rfl, trivial⟩ (some_inj H)
    replace H := ite_f hb51 H
    refine Qt.runG rfl rfl rfl hb51 rfl (by decide) (Ev.fieldAddr (off' := 7) rfl Try.runUnderlying45 rfl Try.sizeOf43 rfl rfl) ?_
    refine Qt.runG rfl rfl rfl hb51 rfl (by decide) (Ev.load (i := 1) rfl rfl Try.isAgg43 (v := Sl.v s_a0_2) ((CausalR.get_Hold (Get.here _)).off (by rfl))) ?_
    refine Qt.runG rfl rfl rfl hb51 rfl (by decide) (Ev.move rfl) ?_
    obtain ⟨m52, h53, H⟩ := bind_some H
    obtain ⟨g54, gl55⟩ := cutL_some h53
    have hq56 : Rd w0 F M (s_a0_2.cut (0 : Int).toNat ((i18 : Int) : Int).toNat 8) m52 := by rw [← gl55]; exact Rd.cut (by decide) hs_a0_2 (by omega) (by omega)
    refine Qt.runG rfl rfl rfl hb51 rfl (by decide) (Ev.cut (α := Mail) (xs := a0.Hold) (i := 0) (j := (i18 : Int)) rfl rfl rfl Try.runUnderlying43 Try.sizeOf47 rfl (by decide) (hs_a0_2.mono (FLe.trans hF15 hF20) (List.Sublist.cons _ (List.Sublist.cons _ hM))) g54.1 g54.2.1 g54.2.2) ?_
    refine Qt.runG rfl rfl rfl hb51 rfl (by decide) (Ev.makeFunc (us := []) (vs := [.pointer (some ⟨b24, 0, none⟩)]) trivial ⟨rfl, trivial⟩) ?_
    obtain ⟨r57, h58, H⟩ := bind_some H
    refine Qt.callG rfl rfl rfl hb51 rfl (by decide) (vs := [Sl.v (s_a0_2.cut (0 : Int).toNat ((i18 : Int) : Int).toNat 8), .func (.func 116) #[] #[.pointer (some ⟨b24, 0, none⟩)]]) ⟨rfl, rfl, trivial⟩ Try.call101 (slices_ContainsFunc_api_Mail_api_Mail_Check_2_sim h58 w0 _ M _ (List.Sublist.cons _ hM) (hq56.mono (FLe.trans hF15 hF20) (List.Sublist.refl _))) ?_
    refine Qt.run rfl rfl (by decide) (Ev.pickF rfl hb51 rfl) ?_
    exact Qt.meet r57 ⟨rfl, rfl, rfl, rfl, rfl, trivial⟩ (some_inj H)
  rintro y50 hy
  subst hy
  refine Qt.as (e' := [(1, .pointer (some ⟨b1, 0, none⟩)), (21, Sl.v s_a0_2), (22, .int .i64 (a0.Hold.length : Int)), (23, .int .i64 (i18 : Int)), (64, .bool y50)]) ⟨rfl, rfl, rfl, rfl, rfl, trivial⟩ ?_
  replace H := HKo49
  refine Qt.done ?_
  refine At.then ?_
  rcases Bool.eq_false_or_eq_true y50 with hb61 | hb61
  · replace H := ite_t hb61 H
    refine Cd.condT rfl hb61 ?_
    refine Cd.seq ?_
    refine Cd.region ?_
    refine Lst.run rfl rfl (by decide) (Ev.assign rfl) ?_
    refine Lst.nil ?_
    refine At.then ?_
    have H := hret18 _ (some_inj H).symm
    subst H
    replace H := HKl18
    obtain rfl := some_inj H
    refine Cd.ret ?_
    refine At.in_ret ?_
    refine At.then_ret ?_
    refine At.then_ret ?_
    refine At.in_ret ?_
    refine At.then_ret ?_
    exact At.ret1 rfl (Res.tmp rfl) (FLe.trans hF15 hF20) (List.Sublist.cons _ (List.Sublist.cons _ (List.Sublist.refl _))) ⟨rfl, rfl⟩
  replace H := ite_f hb61 H
  refine Cd.condF rfl hb61 ?_
  refine Cd.skip ?_
  refine At.in_normal ?_
  refine At.then ?_
  refine Cd.region ?_
  refine Lst.run rfl rfl (by decide) (Ev.incr (by omega) rfl rfl) ?_
  refine Lst.run rfl rfl (by decide) (Ev.move rfl) ?_
  refine Lst.nil ?_
  refine At.less (L' := (.blk b1 (enc (CausalR.mk a0 s_a0_2)) 45) :: L) (List.Sublist.cons _ (List.Sublist.cons_cons _ (List.Sublist.refl _))) ?_
  exact At.meet (i18 + 1, k18, ()) hF20 ⟨rfl, rfl, rfl, rfl, trivial⟩ rfl ⟨⟨hgo18 _ (some_inj H).symm, by omega⟩, Nat.lt_succ_self _⟩
set_option maxRecDepth 20000 in
theorem slices_Clone_api_Mail_api_Mail_sim {a0 : List Mail} {s_a0 : Sl} {r : (List Mail)} (H : slices_Clone_api_Mail_api_Mail a0 = some r) (w0 : World) (F : Frz) (M L : List Item) (hM : M.Sublist L) (hs_a0 : Rd w0 F M s_a0 a0) : Ok Try.prog w0 117 [Sl.v s_a0] F (L) (fun _ L' v => ∃ (s10 : Sl), v = Sl.v s10 ∧ L' = (.own s10 47 8 (encs r)) :: L) := by
  unfold slices_Clone_api_Mail_api_Mail at H
  refine Ok.enter (m := 1) (n := 8) Try.func117 rfl rfl rfl (by decide) ?_
  refine Cd.env (e' := [(0, Sl.v s_a0)]) rfl ?_
  refine Cd.seq ?_
  refine Cd.region ?_
  refine Lst.addNil 47 8 ?_
  refine Lst.run rfl rfl (by decide) (Ev.assign rfl) ?_
  refine Lst.nil ?_
  refine At.then ?_
  refine Cd.seq ?_
  refine Cd.seq ?_
  refine Cd.region ?_
  refine Lst.run rfl rfl (by decide) (Ev.move rfl) ?_
  refine Lst.run rfl rfl (by decide) (Ev.eqlNil rfl Try.runUnderlying43) ?_
  refine Lst.nil ?_
  refine At.then ?_
  rcases Bool.eq_false_or_eq_true ((Sl.a s_a0).isNone) with hb2 | hb2
  · refine Cd.bound (Rd.isNil (α := Mail) (by decide) (hs_a0.mono (FLe.refl _) (List.Sublist.cons _ hM)) hb2) (fun hx9 => ?_)
    rw [clone_nil hx9] at H
    refine Cd.condT rfl hb2 ?_
    refine Cd.seq ?_
    refine Cd.region ?_
    refine Lst.addNil 47 8 ?_
    refine Lst.run rfl rfl (by decide) (Ev.assign rfl) ?_
    refine Lst.nil ?_
    refine At.then ?_
    obtain rfl := some_inj H
    refine Cd.ret ?_
    refine At.then_ret ?_
    exact At.ret1 rfl (Res.tmp rfl) (FLe.refl _) (List.Sublist.cons_cons _ (List.Sublist.cons _ (List.Sublist.refl _))) ⟨Sl.nil, rfl, rfl⟩
  refine Cd.condF rfl hb2 ?_
  refine Cd.skip ?_
  refine At.then ?_
  refine Cd.seq ?_
  refine Cd.region ?_
  refine Lst.buildSlice0 rfl rfl (by decide) Try.runUnderlying43 Try.sizeOf47 (fun s3 => ?_)
  refine Lst.its (L' := (.own s3 47 8 (encs ([] : List Mail))) :: (.own Sl.nil 47 8 (encs ([] : List Mail))) :: L) rfl ?_
  refine Lst.run rfl rfl (by decide) (Ev.move rfl) ?_
  obtain ⟨u5, h6, H⟩ := bind_some H
  refine Lst.append (i := 0) (α := Mail) (xs := ([] : List Mail)) (ys := a0) rfl rfl (by decide) rfl rfl Try.runUnderlying43 Try.typeInfo47 rfl rfl rfl rfl rfl rfl (hs_a0.mono (FLe.refl _) (List.Sublist.cons _ (List.Sublist.cons _ hM))) rfl (room_some h6) rfl (fun s7 => ?_)
  refine Lst.its (L' := (.own s7 47 8 (encs (([] : List Mail) ++ a0))) :: (.own Sl.nil 47 8 (encs ([] : List Mail))) :: L) rfl ?_
  refine Lst.run rfl rfl (by decide) (Ev.assign rfl) ?_
  refine Lst.nil ?_
  refine At.then ?_
  obtain rfl := some_inj H
  refine Cd.ret ?_
  exact At.ret1 rfl (Res.tmp rfl) (FLe.refl _) (List.Sublist.cons_cons _ (List.Sublist.cons _ (List.Sublist.refl _))) ⟨s7, rfl, rfl⟩
set_option maxRecDepth 20000 in
theorem causal_clone_sim {a0 : Causal} {s_a0_2 : Sl} {r : Causal} (H : causal_clone a0 = some r) (w0 : World) (F : Frz) (M L : List Item) (hM : M.Sublist L) (hs_a0_2 : Rd w0 F M s_a0_2 a0.Hold) : Ok Try.prog w0 104 [.agg (enc (CausalR.mk a0 s_a0_2)).toArray] F (L) (fun _ L' v => ∃ (s12 : Sl), v = .agg (enc (CausalR.mk r s12)).toArray ∧ L' = (.own s12 47 8 (encs r.Hold)) :: L) := by
  unfold causal_clone at H
  refine Ok.enter (m := 1) (n := 8) Try.func104 rfl rfl rfl (by decide) ?_
  refine Cd.env (e' := [(0, .agg (enc (CausalR.mk a0 s_a0_2)).toArray)]) rfl ?_
  refine Cd.seq ?_
  refine Cd.region ?_
  refine Lst.box rfl rfl (by decide) rfl (cs := enc (CausalR.mk a0 s_a0_2)) rfl (fun b1 => ?_)
  refine Lst.addNil 47 8 ?_
  refine Lst.alloc (cs := enc (CausalR.mk ({ Causal.zero with Hold := ([] : List Mail) } : Causal) Sl.nil)) rfl rfl (by decide) Try.zeroValue45 rfl (fun b4 => ?_)
  refine Lst.nil ?_
  refine At.then ?_
  refine Cd.seq ?_
  refine Cd.region ?_
  refine Lst.run rfl rfl (by decide) (Ev.fieldAddr (off' := 7) rfl Try.runUnderlying45 rfl Try.sizeOf43 rfl rfl) ?_
  refine Lst.run rfl rfl (by decide) (Ev.load (i := 2) rfl rfl Try.isAgg43 (v := Sl.v s_a0_2) ((CausalR.get_Hold (Get.here _)).off (by rfl))) ?_
  obtain ⟨r6, h7, H⟩ := bind_some H
  refine Lst.call rfl rfl (by decide) (vs := [Sl.v s_a0_2]) ⟨rfl, trivial⟩ Try.call117 (slices_Clone_api_Mail_api_Mail_sim h7 w0 _ M _ (List.Sublist.cons _ (List.Sublist.cons _ (List.Sublist.cons _ hM))) (hs_a0_2.mono (FLe.refl _) (List.Sublist.refl _))) (fun F10 L' v hF11 hv => ?_)
  obtain ⟨s8, rfl, rfl⟩ := hv
  refine Lst.run rfl rfl (by decide) (Ev.fieldAddr (off' := 7) rfl Try.runUnderlying45 rfl Try.sizeOf43 rfl rfl) ?_
  refine Lst.store (i := 3) rfl rfl rfl rfl rfl Try.sizeOf43 (vs := [Sl.v s8]) rfl rfl rfl (cs' := enc (CausalR.mk ({ a0 with Hold := r6 } : Causal) s8)) ((CausalR.put_Hold (Put.here (vs := [Sl.v s8]) rfl)).off (by rfl)) (L' := (.own s8 47 8 (encs r6)) :: (.blk b4 (enc (CausalR.mk ({ Causal.zero with Hold := ([] : List Mail) } : Causal) Sl.nil)) 45) :: (.own Sl.nil 47 8 (encs ([] : List Mail))) :: (.blk b1 (enc (CausalR.mk ({ a0 with Hold := r6 } : Causal) s8)) 45) :: L) rfl ?_
  refine Lst.nil ?_
  refine At.then ?_
  refine Cd.seq ?_
  refine Cd.region ?_
  refine Lst.run rfl rfl (by decide) (Ev.loadA (i := 3) rfl rfl Try.isAgg45 Try.sizeOf45 (ch := enc (CausalR.mk ({ a0 with Hold := r6 } : Causal) s8)) (Enc.len _) (Get.here _)) ?_
  refine Lst.store (i := 1) rfl rfl rfl rfl rfl Try.sizeOf45 (vs := enc (CausalR.mk ({ a0 with Hold := r6 } : Causal) s8)) rfl (Enc.len _) (Enc.one _) (cs' := enc (CausalR.mk ({ a0 with Hold := r6 } : Causal) s8)) (Put.here ((Enc.len _).trans (Enc.len _).symm)) (L' := (.own s8 47 8 (encs r6)) :: (.blk b4 (enc (CausalR.mk ({ a0 with Hold := r6 } : Causal) s8)) 45) :: (.own Sl.nil 47 8 (encs ([] : List Mail))) :: (.blk b1 (enc (CausalR.mk ({ a0 with Hold := r6 } : Causal) s8)) 45) :: L) rfl ?_
  refine Lst.nil ?_
  refine At.then ?_
  obtain rfl := some_inj H
  refine Cd.ret ?_
  exact At.ret1 rfl (Res.cellA (i := 1) rfl rfl Try.isAgg45 Try.sizeOf45 (Enc.len _)) hF11 (List.Sublist.cons_cons _ (List.Sublist.cons _ (List.Sublist.cons _ (List.Sublist.cons _ (List.Sublist.refl _))))) ⟨s8, rfl, rfl⟩
set_option maxRecDepth 20000 in
theorem causal_Cast_sim {a0 : Causal} {a1 : Str} {s_a0_2 : Sl} {r : Causal × Mail × Int} (H : causal_Cast a0 a1 = some r) (w0 : World) (F : Frz) (M L : List Item) (hM : M.Sublist L) (hs_a0_2 : Rd w0 F M s_a0_2 a0.Hold) : Ok Try.prog w0 27 [.agg (enc (CausalR.mk a0 s_a0_2)).toArray, Str.v a1] F (L) (fun _ L' v => ∃ (s39 : Sl), v = .tuple #[.agg (enc (CausalR.mk r.1 s39)).toArray, .agg (enc r.2.1).toArray, .int .i64 r.2.2] ∧ L' = (.own s39 47 8 (encs r.1.Hold)) :: L) := by
  unfold causal_Cast at H
  refine Ok.enter (m := 2) (n := 41) Try.func27 rfl rfl rfl (by decide) ?_
  refine Cd.env (e' := [(0, .agg (enc (CausalR.mk a0 s_a0_2)).toArray), (1, Str.v a1)]) rfl ?_
  refine Cd.seq ?_
  refine Cd.region ?_
  refine Lst.box rfl rfl (by decide) rfl (cs := enc (CausalR.mk a0 s_a0_2)) rfl (fun b1 => ?_)
  refine Lst.addNil 47 8 ?_
  refine Lst.alloc (cs := enc (CausalR.mk ({ Causal.zero with Hold := ([] : List Mail) } : Causal) Sl.nil)) rfl rfl (by decide) Try.zeroValue45 rfl (fun b4 => ?_)
  refine Lst.alloc (cs := enc Mail.zero) rfl rfl (by decide) Try.zeroValue47 rfl (fun b6 => ?_)
  refine Lst.run rfl rfl (by decide) (Ev.assign rfl) ?_
  refine Lst.nil ?_
  refine At.then ?_
  refine Cd.seq ?_
  refine Cd.seq ?_
  refine Cd.region ?_
  refine Lst.run rfl rfl (by decide) (Ev.loadA (i := 3) rfl rfl Try.isAgg45 Try.sizeOf45 (ch := enc (CausalR.mk a0 s_a0_2)) (Enc.len _) (Get.here _)) ?_
  obtain ⟨r8, h9, H⟩ := bind_some H
  refine Lst.call1 rfl rfl (by decide) (vs := [.agg (enc (CausalR.mk a0 s_a0_2)).toArray]) ⟨rfl, trivial⟩ Try.call29 (causal_Check_sim h9 w0 _ M _ (List.Sublist.cons _ (List.Sublist.cons _ (List.Sublist.cons _ (List.Sublist.cons _ hM)))) (hs_a0_2.mono (FLe.refl _) (List.Sublist.refl _))) ?_
  refine Lst.run rfl rfl (by decide) (Ev.assign rfl) ?_
  refine Lst.nil ?_
  refine At.then ?_
  refine Cd.seq ?_
  refine Cd.region ?_
  refine Lst.run rfl rfl (by decide) (Ev.move rfl) ?_
  refine Lst.run rfl rfl (by decide) (Ev.neq rfl rfl) ?_
  refine Lst.nil ?_
  refine At.then ?_
  rcases Bool.eq_false_or_eq_true (r8 != (0 : Int)) with hb12 | hb12
  · replace H := ite_t hb12 H
    refine Cd.condT rfl hb12 ?_
    refine Cd.seq ?_
    refine Cd.region ?_
    refine Lst.run rfl rfl (by decide) (Ev.build (v := .agg (enc (CausalR.mk Causal.zero Sl.nil)).toArray) (pv := []) trivial (fun w => by kernel_rfl)) ?_
    refine Lst.run rfl rfl (by decide) (Ev.build (v := .agg (enc Mail.zero).toArray) (pv := []) trivial (fun w => by kernel_rfl)) ?_
    refine Lst.run rfl rfl (by decide) (Ev.move rfl) ?_
    refine Lst.store (i := 1) rfl rfl rfl rfl rfl Try.sizeOf45 (vs := enc (CausalR.mk Causal.zero Sl.nil)) rfl (Enc.len _) (Enc.one _) (cs' := enc (CausalR.mk Causal.zero Sl.nil)) (Put.here ((Enc.len _).trans (Enc.len _).symm)) (L' := (.blk b6 (enc Mail.zero) 47) :: (.blk b4 (enc (CausalR.mk Causal.zero Sl.nil)) 45) :: (.own Sl.nil 47 8 (encs ([] : List Mail))) :: (.blk b1 (enc (CausalR.mk a0 s_a0_2)) 45) :: L) rfl ?_
    refine Lst.store (i := 0) rfl rfl rfl rfl rfl Try.sizeOf47 (vs := enc Mail.zero) rfl (Enc.len _) (Enc.one _) (cs' := enc Mail.zero) (Put.here ((Enc.len _).trans (Enc.len _).symm)) (L' := (.blk b6 (enc Mail.zero) 47) :: (.blk b4 (enc (CausalR.mk Causal.zero Sl.nil)) 45) :: (.own Sl.nil 47 8 (encs ([] : List Mail))) :: (.blk b1 (enc (CausalR.mk a0 s_a0_2)) 45) :: L) rfl ?_
    refine Lst.run rfl rfl (by decide) (Ev.assign rfl) ?_
    refine Lst.nil ?_
    refine At.then ?_
    obtain rfl := some_inj H
    refine Cd.ret ?_
    refine At.then_ret ?_
    refine At.addNil 47 8 ?_
    exact At.ret3 rfl (Res.cellA (i := 2) rfl rfl Try.isAgg45 Try.sizeOf45 (Enc.len _)) (Res.cellA (i := 1) rfl rfl Try.isAgg47 Try.sizeOf47 (Enc.len _)) (Res.tmp rfl) (FLe.refl _) (List.Sublist.cons_cons _ (List.Sublist.cons _ (List.Sublist.cons _ (List.Sublist.cons _ (List.Sublist.cons _ (List.Sublist.refl _)))))) ⟨Sl.nil, rfl, rfl⟩
  replace H := ite_f hb12 H
  refine Cd.condF rfl hb12 ?_
  refine Cd.skip ?_
  refine At.then ?_
  refine Cd.seq ?_
  refine Cd.seq ?_
  refine Cd.region ?_
  refine Lst.run rfl rfl (by decide) (Ev.fieldAddr (off' := 0) rfl Try.runUnderlying45 rfl Try.sizeOf3 rfl rfl) ?_
  refine Lst.run rfl rfl (by decide) (Ev.load (i := 3) rfl rfl Try.isAgg3 (v := .int .i64 a0.Me) ((CausalR.get_Me (Get.here _)).off (by rfl))) ?_
  refine Lst.run rfl rfl (by decide) (Ev.fieldAddr (off' := 1) rfl Try.runUnderlying45 rfl Try.sizeOf23 rfl rfl) ?_
  obtain ⟨x14, h15, H⟩ := bind_some H
  have g16 := vat_some h15
  refine Lst.run rfl rfl (by decide) (Ev.indexAddr (off' := 1 + a0.Me.toNat * 1) rfl rfl Try.runUnderlying23 Try.sizeOf3 g16.1 g16.2.1 rfl) ?_
  refine Lst.run rfl rfl (by decide) (Ev.load (i := 3) rfl rfl Try.isAgg3 (v := .int .i64 x14) ((CausalR.get_Seen (Get.vecN (s := 1) (x := x14) rfl g16.2.2 (Get.here _))).off (by omega))) ?_
  refine Lst.run rfl rfl (by decide) (Ev.geq rfl rfl) ?_
  refine Lst.nil ?_
  refine At.then ?_
  rcases Bool.eq_false_or_eq_true (decide (x14 ≥ (16777215 : Int))) with hb17 | hb17
  · replace H := ite_t hb17 H
    refine Cd.condT rfl hb17 ?_
    refine Cd.seq ?_
    refine Cd.as (e' := [(4, .pointer (some ⟨b4, 0, none⟩)), (5, .pointer (some ⟨b6, 0, none⟩))]) (L' := (.blk b6 (enc Mail.zero) 47) :: (.blk b4 (enc (CausalR.mk ({ Causal.zero with Hold := ([] : List Mail) } : Causal) Sl.nil)) 45) :: (.own Sl.nil 47 8 (encs ([] : List Mail))) :: (.blk b1 (enc (CausalR.mk a0 s_a0_2)) 45) :: L) ⟨rfl, rfl, trivial⟩ rfl ?_
    refine Cd.region ?_
    refine Lst.run rfl rfl (by decide) (Ev.build (v := .agg (enc (CausalR.mk Causal.zero Sl.nil)).toArray) (pv := []) trivial (fun w => by kernel_rfl)) ?_
    refine Lst.run rfl rfl (by decide) (Ev.build (v := .agg (enc Mail.zero).toArray) (pv := []) trivial (fun w => by kernel_rfl)) ?_
    refine Lst.store (i := 1) rfl rfl rfl rfl rfl Try.sizeOf45 (vs := enc (CausalR.mk Causal.zero Sl.nil)) rfl (Enc.len _) (Enc.one _) (cs' := enc (CausalR.mk Causal.zero Sl.nil)) (Put.here ((Enc.len _).trans (Enc.len _).symm)) (L' := (.blk b6 (enc Mail.zero) 47) :: (.blk b4 (enc (CausalR.mk Causal.zero Sl.nil)) 45) :: (.own Sl.nil 47 8 (encs ([] : List Mail))) :: (.blk b1 (enc (CausalR.mk a0 s_a0_2)) 45) :: L) rfl ?_
    refine Lst.store (i := 0) rfl rfl rfl rfl rfl Try.sizeOf47 (vs := enc Mail.zero) rfl (Enc.len _) (Enc.one _) (cs' := enc Mail.zero) (Put.here ((Enc.len _).trans (Enc.len _).symm)) (L' := (.blk b6 (enc Mail.zero) 47) :: (.blk b4 (enc (CausalR.mk Causal.zero Sl.nil)) 45) :: (.own Sl.nil 47 8 (encs ([] : List Mail))) :: (.blk b1 (enc (CausalR.mk a0 s_a0_2)) 45) :: L) rfl ?_
    refine Lst.run rfl rfl (by decide) (Ev.assign rfl) ?_
    refine Lst.nil ?_
    refine At.then ?_
    obtain rfl := some_inj H
    refine Cd.ret ?_
    refine At.then_ret ?_
    refine At.addNil 47 8 ?_
    exact At.ret3 rfl (Res.cellA (i := 2) rfl rfl Try.isAgg45 Try.sizeOf45 (Enc.len _)) (Res.cellA (i := 1) rfl rfl Try.isAgg47 Try.sizeOf47 (Enc.len _)) (Res.tmp rfl) (FLe.refl _) (List.Sublist.cons_cons _ (List.Sublist.cons _ (List.Sublist.cons _ (List.Sublist.cons _ (List.Sublist.cons _ (List.Sublist.refl _)))))) ⟨Sl.nil, rfl, rfl⟩
  replace H := ite_f hb17 H
  refine Cd.condF rfl hb17 ?_
  refine Cd.skip ?_
  refine At.then ?_
  refine Cd.seq ?_
  refine Cd.region ?_
  refine Lst.run rfl rfl (by decide) (Ev.loadA (i := 3) rfl rfl Try.isAgg45 Try.sizeOf45 (ch := enc (CausalR.mk a0 s_a0_2)) (Enc.len _) (Get.here _)) ?_
  obtain ⟨r19, h20, H⟩ := bind_some H
  refine Lst.call rfl rfl (by decide) (vs := [.agg (enc (CausalR.mk a0 s_a0_2)).toArray]) ⟨rfl, trivial⟩ Try.call104 (causal_clone_sim h20 w0 _ M _ (List.Sublist.cons _ (List.Sublist.cons _ (List.Sublist.cons _ (List.Sublist.cons _ hM)))) (hs_a0_2.mono (FLe.refl _) (List.Sublist.refl _))) (fun F23 L' v hF24 hv => ?_)
  obtain ⟨s21, rfl, rfl⟩ := hv
  refine Lst.addNil 47 8 ?_
  refine Lst.alloc (cs := enc (CausalR.mk ({ Causal.zero with Hold := ([] : List Mail) } : Causal) Sl.nil)) rfl rfl (by decide) Try.zeroValue45 rfl (fun b26 => ?_)
  refine Lst.store (i := 0) rfl rfl rfl rfl rfl Try.sizeOf45 (vs := enc (CausalR.mk r19 s21)) rfl (Enc.len _) (Enc.one _) (cs' := enc (CausalR.mk r19 s21)) (Put.here ((Enc.len _).trans (Enc.len _).symm)) (L' := (.blk b26 (enc (CausalR.mk r19 s21)) 45) :: (.own Sl.nil 47 8 (encs ([] : List Mail))) :: (.own s21 47 8 (encs r19.Hold)) :: (.blk b6 (enc Mail.zero) 47) :: (.blk b4 (enc (CausalR.mk ({ Causal.zero with Hold := ([] : List Mail) } : Causal) Sl.nil)) 45) :: (.own Sl.nil 47 8 (encs ([] : List Mail))) :: (.blk b1 (enc (CausalR.mk a0 s_a0_2)) 45) :: L) rfl ?_
  refine Lst.nil ?_
  refine At.then ?_
  refine Cd.seq ?_
  refine Cd.as (e' := [(1, Str.v a1), (2, .pointer (some ⟨b1, 0, none⟩)), (4, .pointer (some ⟨b4, 0, none⟩)), (5, .pointer (some ⟨b6, 0, none⟩)), (8, .pointer (some ⟨b26, 0, none⟩))]) (L' := (.blk b26 (enc (CausalR.mk r19 s21)) 45) :: (.own Sl.nil 47 8 (encs ([] : List Mail))) :: (.own s21 47 8 (encs r19.Hold)) :: (.blk b6 (enc Mail.zero) 47) :: (.blk b4 (enc (CausalR.mk ({ Causal.zero with Hold := ([] : List Mail) } : Causal) Sl.nil)) 45) :: (.own Sl.nil 47 8 (encs ([] : List Mail))) :: (.blk b1 (enc (CausalR.mk a0 s_a0_2)) 45) :: L) ⟨rfl, rfl, rfl, rfl, rfl, trivial⟩ rfl ?_
  refine Cd.region ?_
  refine Lst.run rfl rfl (by decide) (Ev.fieldAddr (off' := 0) rfl Try.runUnderlying45 rfl Try.sizeOf3 rfl rfl) ?_
  refine Lst.run rfl rfl (by decide) (Ev.load (i := 6) rfl rfl Try.isAgg3 (v := .int .i64 a0.Me) ((CausalR.get_Me (Get.here _)).off (by rfl))) ?_
  refine Lst.run rfl rfl (by decide) (Ev.fieldAddr (off' := 1) rfl Try.runUnderlying45 rfl Try.sizeOf23 rfl rfl) ?_
  obtain ⟨x28, h29, H⟩ := bind_some H
  have g30 := vat_some h29
  refine Lst.run rfl rfl (by decide) (Ev.indexAddr (off' := 1 + a0.Me.toNat * 1) rfl rfl Try.runUnderlying23 Try.sizeOf3 g30.1 g30.2.1 rfl) ?_
  refine Lst.run rfl rfl (by decide) (Ev.load (i := 0) rfl rfl Try.isAgg3 (v := .int .i64 x28) ((CausalR.get_Seen (Get.vecN (s := 1) (x := x28) rfl g30.2.2 (Get.here _))).off (by omega))) ?_
  refine Lst.run rfl rfl (by decide) (Ev.add rfl rfl) ?_
  refine Lst.run rfl rfl (by decide) (Ev.fieldAddr (off' := 1) rfl Try.runUnderlying45 rfl Try.sizeOf23 rfl rfl) ?_
  obtain ⟨x31, h32, H⟩ := bind_some H
  have g33 := vat_some h32
  refine Lst.run rfl rfl (by decide) (Ev.indexAddr (off' := 1 + a0.Me.toNat * 1) rfl rfl Try.runUnderlying23 Try.sizeOf3 g33.1 g33.2.1 rfl) ?_
  obtain ⟨p34, h35, H⟩ := Let_some H
  refine Lst.store (i := 0) rfl rfl rfl rfl rfl Try.sizeOf3 (vs := [.int .i64 (w64 (x28 + (1 : Int)))]) rfl rfl rfl (cs' := enc (CausalR.mk ({ r19 with Seen := p34 } : Causal) s21)) (by rw [← h35]; exact (CausalR.put_Seen (Put.vecN (s := 1) (x := x31) rfl g33.2.2 (Put.here (vs := [.int .i64 (w64 (x28 + (1 : Int)))]) rfl))).off (by omega)) (L' := (.blk b26 (enc (CausalR.mk ({ r19 with Seen := p34 } : Causal) s21)) 45) :: (.own Sl.nil 47 8 (encs ([] : List Mail))) :: (.own s21 47 8 (encs r19.Hold)) :: (.blk b6 (enc Mail.zero) 47) :: (.blk b4 (enc (CausalR.mk ({ Causal.zero with Hold := ([] : List Mail) } : Causal) Sl.nil)) 45) :: (.own Sl.nil 47 8 (encs ([] : List Mail))) :: (.blk b1 (enc (CausalR.mk a0 s_a0_2)) 45) :: L) rfl ?_
  refine Lst.nil ?_
  refine At.then ?_
  refine Cd.seq ?_
  refine Cd.headMeet (σ := Unit) 8 (fun (_ : Unit) => [(4, .pointer (some ⟨b4, 0, none⟩)), (5, .pointer (some ⟨b6, 0, none⟩)), (40, .agg (enc ({ Mail.zero with From := a0.Me, At := p34, Text := a1 } : Mail)).toArray)]) (fun (_ : Unit) => (.blk b26 (enc (CausalR.mk ({ r19 with Seen := p34 } : Causal) s21)) 45) :: (.own Sl.nil 47 8 (encs ([] : List Mail))) :: (.own s21 47 8 (encs r19.Hold)) :: (.blk b6 (enc Mail.zero) 47) :: (.blk b4 (enc (CausalR.mk ({ r19 with Seen := p34 } : Causal) s21)) 45) :: (.own Sl.nil 47 8 (encs ([] : List Mail))) :: (.blk b1 (enc (CausalR.mk a0 s_a0_2)) 45) :: L) (fun _ (_ : Unit) => True) (by kernel_rfl) (by kernel_rfl) (behind_sink (by kernel_rfl) (by kernel_rfl) (by kernel_rfl)) (by kernel_rfl) (fun hsel hlt => ?_) ?_
  · refine HdJ.keep (fun w => St w0 F23 ((.blk b26 (enc (CausalR.mk ({ r19 with Seen := p34 } : Causal) s21)) 45) :: (.own Sl.nil 47 8 (encs ([] : List Mail))) :: (.own s21 47 8 (encs r19.Hold)) :: (.blk b6 (enc Mail.zero) 47) :: (.own Sl.nil 47 8 (encs ([] : List Mail))) :: (.blk b1 (enc (CausalR.mk a0 s_a0_2)) 45) :: L) w) (fun w h => trivial) ?_
    refine HdJ.takeK hsel hlt 0 (fun w h => h.sublist (List.Sublist.cons_cons _ (List.Sublist.cons_cons _ (List.Sublist.cons_cons _ (List.Sublist.cons_cons _ (List.Sublist.cons _ (List.Sublist.cons_cons _ (List.Sublist.cons_cons _ (List.Sublist.refl _))))))))) rfl rfl (by decide) (by decide) (by kernel_rfl) (by kernel_rfl) rfl (Ev.loadA (i := 0) rfl rfl Try.isAgg45 Try.sizeOf45 (ch := enc (CausalR.mk ({ r19 with Seen := p34 } : Causal) s21)) (Enc.len _) (Get.here _)) ?_
    refine HdJ.takeK hsel hlt 1 (fun w h => h.sublist (List.Sublist.cons_cons _ (List.Sublist.cons_cons _ (List.Sublist.cons_cons _ (List.Sublist.cons_cons _ (List.Sublist.cons _ (List.Sublist.cons_cons _ (List.Sublist.cons_cons _ (List.Sublist.refl _))))))))) rfl rfl (by decide) (by decide) (by kernel_rfl) (by kernel_rfl) rfl (Ev.fieldAddr (off' := 0) rfl Try.runUnderlying45 rfl Try.sizeOf3 rfl rfl) ?_
    refine HdJ.takeK hsel hlt 2 (fun w h => h.sublist (List.Sublist.cons_cons _ (List.Sublist.cons_cons _ (List.Sublist.cons_cons _ (List.Sublist.cons_cons _ (List.Sublist.cons _ (List.Sublist.cons_cons _ (List.Sublist.cons_cons _ (List.Sublist.refl _))))))))) rfl rfl (by decide) (by decide) (by kernel_rfl) (by kernel_rfl) rfl (Ev.load (i := 5) rfl rfl Try.isAgg3 (v := .int .i64 a0.Me) ((CausalR.get_Me (Get.here _)).off (by rfl))) ?_
    refine HdJ.takeK hsel hlt 3 (fun w h => h.sublist (List.Sublist.cons_cons _ (List.Sublist.cons_cons _ (List.Sublist.cons_cons _ (List.Sublist.cons_cons _ (List.Sublist.cons _ (List.Sublist.cons_cons _ (List.Sublist.cons_cons _ (List.Sublist.refl _))))))))) rfl rfl (by decide) (by decide) (by kernel_rfl) (by kernel_rfl) rfl (Ev.fieldAddr (off' := 1) rfl Try.runUnderlying45 rfl Try.sizeOf23 rfl rfl) ?_
    refine HdJ.takeK hsel hlt 4 (fun w h => h.sublist (List.Sublist.cons_cons _ (List.Sublist.cons_cons _ (List.Sublist.cons_cons _ (List.Sublist.cons_cons _ (List.Sublist.cons _ (List.Sublist.cons_cons _ (List.Sublist.cons_cons _ (List.Sublist.refl _))))))))) rfl rfl (by decide) (by decide) (by kernel_rfl) (by kernel_rfl) rfl (Ev.loadA (i := 0) rfl rfl Try.isAgg23 Try.sizeOf23 (ch := enc p34) (Enc.len _) ((CausalR.get_Seen (Get.here _)).off (by rfl))) ?_
    refine HdJ.takeK hsel hlt 5 (fun w h => h.sublist (List.Sublist.cons_cons _ (List.Sublist.cons_cons _ (List.Sublist.cons_cons _ (List.Sublist.cons_cons _ (List.Sublist.cons _ (List.Sublist.cons_cons _ (List.Sublist.cons_cons _ (List.Sublist.refl _))))))))) rfl rfl (by decide) (by decide) (by kernel_rfl) (by kernel_rfl) rfl (Ev.move rfl) ?_
    refine HdJ.takeK hsel hlt 6 (fun w h => h.sublist (List.Sublist.cons_cons _ (List.Sublist.cons_cons _ (List.Sublist.cons_cons _ (List.Sublist.cons_cons _ (List.Sublist.cons _ (List.Sublist.cons_cons _ (List.Sublist.cons_cons _ (List.Sublist.refl _))))))))) rfl rfl (by decide) (by decide) (by kernel_rfl) (by kernel_rfl) rfl (Ev.build (v := .agg (enc ({ Mail.zero with From := a0.Me, At := p34, Text := a1 } : Mail)).toArray) (pv := [(0, .int .i64 a0.Me), (1, .agg (enc p34).toArray), (2, Str.v a1)]) ⟨rfl, rfl, ⟨rfl, rfl, ⟨rfl, rfl, trivial⟩⟩⟩ (run_buildStruct (places := #[(0, 1), (1, 6), (7, 1)]) Try.zeroValue47 (zs := enc Mail.zero) rfl Try.runUnderlying47 (fun w => by kernel_rfl) (fill_cons (cs := enc Mail.zero) (cs' := enc ({ Mail.zero with From := a0.Me } : Mail)) (vs := [.int .i64 a0.Me]) rfl rfl rfl ((Mail.put_From (p := Mail.zero) (y := a0.Me) (Put.here (vs := [.int .i64 a0.Me]) rfl)).off rfl) (fill_cons (cs := enc ({ Mail.zero with From := a0.Me } : Mail)) (cs' := enc ({ Mail.zero with From := a0.Me, At := p34 } : Mail)) (vs := enc p34) rfl rfl (Enc.len _) ((Mail.put_At (p := ({ Mail.zero with From := a0.Me } : Mail)) (y := p34) (Put.here ((Enc.len _).trans (Enc.len _).symm))).off rfl) (fill_cons (cs := enc ({ Mail.zero with From := a0.Me, At := p34 } : Mail)) (cs' := enc ({ Mail.zero with From := a0.Me, At := p34, Text := a1 } : Mail)) (vs := [Str.v a1]) rfl rfl rfl ((Mail.put_Text (p := ({ Mail.zero with From := a0.Me, At := p34 } : Mail)) (y := a1) (Put.here (vs := [Str.v a1]) rfl)).off rfl) fill_nil))))) ?_
    refine HdJ.step [7] (by kernel_rfl) rfl ?_
    refine HdStep.cons (by decide) rfl (fun inv => ?_) ?_
    · refine Lst.store (i := 4) rfl rfl rfl rfl rfl Try.sizeOf45 (vs := enc (CausalR.mk ({ r19 with Seen := p34 } : Causal) s21)) rfl (Enc.len _) (Enc.one _) (cs' := enc (CausalR.mk ({ r19 with Seen := p34 } : Causal) s21)) (Put.here ((Enc.len _).trans (Enc.len _).symm)) (L' := (.blk b26 (enc (CausalR.mk ({ r19 with Seen := p34 } : Causal) s21)) 45) :: (.own Sl.nil 47 8 (encs ([] : List Mail))) :: (.own s21 47 8 (encs r19.Hold)) :: (.blk b6 (enc Mail.zero) 47) :: (.blk b4 (enc (CausalR.mk ({ r19 with Seen := p34 } : Causal) s21)) 45) :: (.own Sl.nil 47 8 (encs ([] : List Mail))) :: (.blk b1 (enc (CausalR.mk a0 s_a0_2)) 45) :: L) rfl ?_
      refine Lst.nil ?_
      refine At.hd inv (fun w h => (h.weaken (FLe.refl _)).sublist (List.Sublist.cons_cons _ (List.Sublist.cons_cons _ (List.Sublist.cons_cons _ (List.Sublist.cons_cons _ (List.Sublist.cons _ (List.Sublist.cons_cons _ (List.Sublist.cons_cons _ (List.Sublist.refl _))))))))) ?_
      refine HdJ.done (by kernel_rfl) ?_
      exact At.meetN () (FLe.refl _) ⟨rfl, rfl, rfl, trivial⟩ rfl trivial
    exact trivial
  rintro F39 _u hF40 hy
  refine Lst.as (e' := [(4, .pointer (some ⟨b4, 0, none⟩)), (5, .pointer (some ⟨b6, 0, none⟩)), (40, .agg (enc ({ Mail.zero with From := a0.Me, At := p34, Text := a1 } : Mail)).toArray)]) (L' := (.blk b26 (enc (CausalR.mk ({ r19 with Seen := p34 } : Causal) s21)) 45) :: (.own Sl.nil 47 8 (encs ([] : List Mail))) :: (.own s21 47 8 (encs r19.Hold)) :: (.blk b6 (enc Mail.zero) 47) :: (.blk b4 (enc (CausalR.mk ({ r19 with Seen := p34 } : Causal) s21)) 45) :: (.own Sl.nil 47 8 (encs ([] : List Mail))) :: (.blk b1 (enc (CausalR.mk a0 s_a0_2)) 45) :: L) ⟨rfl, rfl, rfl, trivial⟩ rfl ?_
  refine Lst.store (i := 3) rfl rfl rfl rfl rfl Try.sizeOf47 (vs := enc ({ Mail.zero with From := a0.Me, At := p34, Text := a1 } : Mail)) rfl (Enc.len _) (Enc.one _) (cs' := enc ({ Mail.zero with From := a0.Me, At := p34, Text := a1 } : Mail)) (Put.here ((Enc.len _).trans (Enc.len _).symm)) (L' := (.blk b26 (enc (CausalR.mk ({ r19 with Seen := p34 } : Causal) s21)) 45) :: (.own Sl.nil 47 8 (encs ([] : List Mail))) :: (.own s21 47 8 (encs r19.Hold)) :: (.blk b6 (enc ({ Mail.zero with From := a0.Me, At := p34, Text := a1 } : Mail)) 47) :: (.blk b4 (enc (CausalR.mk ({ r19 with Seen := p34 } : Causal) s21)) 45) :: (.own Sl.nil 47 8 (encs ([] : List Mail))) :: (.blk b1 (enc (CausalR.mk a0 s_a0_2)) 45) :: L) rfl ?_
  refine Lst.run rfl rfl (by decide) (Ev.assign rfl) ?_
  refine Lst.nil ?_
  refine At.then ?_
  obtain rfl := some_inj H
  refine Cd.ret ?_
  exact At.ret3 rfl (Res.cellA (i := 4) rfl rfl Try.isAgg45 Try.sizeOf45 (Enc.len _)) (Res.cellA (i := 3) rfl rfl Try.isAgg47 Try.sizeOf47 (Enc.len _)) (Res.tmp rfl) (FLe.trans hF24 hF40) (List.Sublist.cons _ (List.Sublist.cons _ (List.Sublist.cons_cons _ (List.Sublist.cons _ (List.Sublist.cons _ (List.Sublist.cons _ (List.Sublist.cons _ (List.Sublist.refl _)))))))) ⟨s21, rfl, rfl⟩
set_option maxRecDepth 20000 in
theorem causal_Hear_1_sim {a0 : Mail} {a1 : Mail} {b_a1 : Nat} {r : Bool} (H : causal_Hear_1 a0 a1 = some r) (w0 : World) (F : Frz) (M L : List Item) (hM : M.Sublist L) : Ok Try.prog w0 106 [.agg (enc a0).toArray, .pointer (some ⟨b_a1, 0, none⟩)] F ((.blk b_a1 (enc a1) 47) :: L) (Is (.bool r) ((.blk b_a1 (enc a1) 47) :: L)) := by
  unfold causal_Hear_1 at H
  refine Ok.enter (m := 2) (n := 7) Try.func106 rfl rfl rfl (by decide) ?_
  refine Cd.env (e' := [(0, .agg (enc a0).toArray), (1, .pointer (some ⟨b_a1, 0, none⟩))]) rfl ?_
  refine Cd.seq ?_
  refine Cd.region ?_
  refine Lst.box rfl rfl (by decide) rfl (cs := enc a0) rfl (fun b2 => ?_)
  refine Lst.run rfl rfl (by decide) (Ev.assign rfl) ?_
  refine Lst.nil ?_
  refine At.then ?_
  refine Cd.seq ?_
  refine Cd.region ?_
  refine Lst.run rfl rfl (by decide) (Ev.loadA (i := 0) rfl rfl Try.isAgg47 Try.sizeOf47 (ch := enc a0) (Enc.len _) (Get.here _)) ?_
  refine Lst.run rfl rfl (by decide) (Ev.loadA (i := 1) rfl rfl Try.isAgg47 Try.sizeOf47 (ch := enc a1) (Enc.len _) (Get.here _)) ?_
  obtain ⟨r4, h5, H⟩ := bind_some H
  refine Lst.call1 rfl rfl (by decide) (vs := [.agg (enc a0).toArray, .agg (enc a1).toArray]) ⟨rfl, rfl, trivial⟩ Try.call107 (causal_same_sim h5 w0 _ M _ (List.Sublist.cons _ (List.Sublist.cons _ hM))) ?_
  refine Lst.run rfl rfl (by decide) (Ev.assign rfl) ?_
  refine Lst.nil ?_
  refine At.then ?_
  obtain rfl := some_inj H
  refine Cd.ret ?_
  exact At.ret1 rfl (Res.tmp rfl) (FLe.refl _) (List.Sublist.cons _ (List.Sublist.cons_cons _ (List.Sublist.refl _))) ⟨rfl, rfl⟩
set_option maxRecDepth 20000 in
theorem slices_IndexFunc_api_Mail_api_Mail_Hear_1_sim {a0 : List Mail} {a1_c0 : Mail} {s_a0 : Sl} {b_a1_c0 : Nat} {r : Int} (H : slices_IndexFunc_api_Mail_api_Mail_Hear_1 a0 a1_c0 = some r) (w0 : World) (F : Frz) (M L : List Item) (hM : M.Sublist L) (hs_a0 : Rd w0 F M s_a0 a0) : Ok Try.prog w0 109 [Sl.v s_a0, .func (.func 106) #[] #[.pointer (some ⟨b_a1_c0, 0, none⟩)]] F ((.blk b_a1_c0 (enc a1_c0) 47) :: L) (Is (.int .i64 r) ((.blk b_a1_c0 (enc a1_c0) 47) :: L)) := by
  unfold slices_IndexFunc_api_Mail_api_Mail_Hear_1 at H
  refine Ok.enter (m := 2) (n := 19) Try.func109 rfl rfl rfl (by decide) ?_
  refine Cd.env (e' := [(0, Sl.v s_a0), (1, .func (.func 106) #[] #[.pointer (some ⟨b_a1_c0, 0, none⟩)])]) rfl ?_
  refine Cd.seq ?_
  refine Cd.region ?_
  refine Lst.run rfl rfl (by decide) (Ev.assign rfl) ?_
  refine Lst.nil ?_
  refine At.then ?_
  refine Cd.seq ?_
  refine Cd.seq ?_
  refine Cd.region ?_
  refine Lst.run rfl rfl (by decide) (Ev.move rfl) ?_
  refine Lst.run rfl rfl (by decide) (Ev.lenS (α := Mail) (xs := a0) (by decide) rfl rfl Try.runUnderlying43 (hs_a0.mono (FLe.refl _) (List.Sublist.cons _ hM))) ?_
  refine Lst.run rfl rfl (by decide) (Ev.move rfl) ?_
  refine Lst.nil ?_
  refine At.then ?_
  refine Cd.block ?_
  refine Cd.bound (Rd.le (α := Mail) (xs := a0) (by decide) (hs_a0.mono (FLe.refl _) (List.Sublist.cons _ hM))) (fun hN13 => ?_)
  obtain ⟨ol2, H, HKl2⟩ := andThen_some H
  refine Cd.loop (σ := Nat × Nat × Unit) (fun (i2, k2, _u) => [(0, Sl.v s_a0), (1, .func (.func 106) #[] #[.pointer (some ⟨b_a1_c0, 0, none⟩)]), (7, .int .i64 (a0.length : Int)), (8, .int .i64 (i2 : Int))]) (fun (i2, k2, _u) => (.blk b_a1_c0 (enc a1_c0) 47) :: L) (fun _ => (fun (i2, k2, _u) => rangeM (slices_IndexFunc_api_Mail_api_Mail_Hear_1_B0 a0 a1_c0) k2 i2 () = some ol2 ∧ i2 + k2 = a0.length)) (fun (i2, k2, _u) => k2) (0, a0.length, ()) ⟨rfl, rfl, rfl, rfl, trivial⟩ rfl ⟨H, by omega⟩ ?_
  rintro F3 ⟨i2, k2, _u⟩ hF4 ⟨H, hik2⟩
  refine Cd.as (e' := [(0, Sl.v s_a0), (1, .func (.func 106) #[] #[.pointer (some ⟨b_a1_c0, 0, none⟩)]), (7, .int .i64 (a0.length : Int)), (8, .int .i64 (i2 : Int))]) (L' := (.blk b_a1_c0 (enc a1_c0) 47) :: L) ⟨rfl, rfl, rfl, rfl, trivial⟩ rfl ?_
  rcases k2 with _ | k2
  · have hc2 : decide ((i2 : Int) < (a0.length : Int)) = false := decide_eq_false (by omega)
    replace H := rangeM_end H
    refine Cd.seq ?_
    refine Cd.region ?_
    refine Lst.run rfl rfl (by decide) (Ev.lss rfl rfl) ?_
    refine Lst.nil ?_
    refine At.then ?_
    refine Cd.seq ?_
    refine Cd.condF rfl hc2 ?_
    refine Cd.exit ?_
    refine At.then_exit ?_
    refine At.then_exit ?_
    refine At.in_exit ?_
    subst H
    replace H := HKl2
    refine At.then ?_
    refine Cd.seq ?_
    refine Cd.region ?_
    refine Lst.run rfl rfl (by decide) (Ev.assign rfl) ?_
    refine Lst.nil ?_
    refine At.then ?_
    obtain rfl := some_inj H
    refine Cd.ret ?_
    exact At.ret1 rfl (Res.tmp rfl) hF4 (List.Sublist.cons_cons _ (List.Sublist.refl _)) ⟨rfl, rfl⟩
  have hc2 : decide ((i2 : Int) < (a0.length : Int)) = true := decide_eq_true (by omega)
  obtain ⟨c2, H, hgo2, hbrk2, hret2⟩ := rangeM_go H
  unfold slices_IndexFunc_api_Mail_api_Mail_Hear_1_B0 at H
  try dsimp only at H
  refine Cd.seq ?_
  refine Cd.region ?_
  refine Lst.run rfl rfl (by decide) (Ev.lss rfl rfl) ?_
  refine Lst.nil ?_
  refine At.then ?_
  refine Cd.seq ?_
  refine Cd.condT rfl hc2 ?_
  refine Cd.skip ?_
  refine At.then ?_
  refine Cd.seq ?_
  refine Cd.block ?_
  refine Cd.seq ?_
  refine Cd.region ?_
  refine Lst.run rfl rfl (by decide) (Ev.move rfl) ?_
  refine Lst.run rfl rfl (by decide) (Ev.assign rfl) ?_
  refine Lst.nil ?_
  refine At.then ?_
  refine Cd.seq ?_
  refine Cd.region ?_
  refine Lst.run rfl rfl (by decide) (Ev.move rfl) ?_
  refine Lst.run rfl rfl (by decide) (Ev.move rfl) ?_
  refine Lst.run rfl rfl (by decide) (Ev.move rfl) ?_
  obtain ⟨x5, h6, H⟩ := bind_some H
  have g7 := lat_some h6
  refine Lst.run rfl rfl (by decide) (Ev.indexS (α := Mail) (xs := a0) rfl rfl Try.runUnderlying43 Try.sizeOf47 rfl (by decide) (hs_a0.mono hF4 (List.Sublist.cons _ hM)) g7.1 g7.2.1) ?_
  refine Lst.run rfl rfl (by decide) (Ev.loadSA (α := Mail) rfl (hs_a0.mono hF4 (List.Sublist.cons _ hM)) Try.isAgg47 Try.sizeOf47 (ch := enc x5) (Enc.len _) (by decide) ((Get.elemN (s := 8) (x := x5) rfl g7.2.2 (Get.here _)).off (by omega))) ?_
  obtain ⟨r8, h9, H⟩ := bind_some H
  refine Lst.callV1 rfl rfl (by decide) (vs := [.agg (enc x5).toArray]) (cs := [.pointer (some ⟨b_a1_c0, 0, none⟩)]) rfl ⟨rfl, trivial⟩ Try.call106 (causal_Hear_1_sim h9 w0 _ M _ hM) ?_
  refine Lst.nil ?_
  refine At.then ?_
  rcases Bool.eq_false_or_eq_true r8 with hb12 | hb12
  · replace H := ite_t hb12 H
    refine Cd.condT rfl hb12 ?_
    refine Cd.seq ?_
    refine Cd.region ?_
    refine Lst.run rfl rfl (by decide) (Ev.move rfl) ?_
    refine Lst.run rfl rfl (by decide) (Ev.assign rfl) ?_
    refine Lst.nil ?_
    refine At.then ?_
    have H := hret2 _ (some_inj H).symm
    subst H
    replace H := HKl2
    obtain rfl := some_inj H
    refine Cd.ret ?_
    refine At.in_ret ?_
    refine At.then_ret ?_
    refine At.then_ret ?_
    refine At.in_ret ?_
    refine At.then_ret ?_
    exact At.ret1 rfl (Res.tmp rfl) hF4 (List.Sublist.cons_cons _ (List.Sublist.refl _)) ⟨rfl, rfl⟩
  replace H := ite_f hb12 H
  refine Cd.condF rfl hb12 ?_
  refine Cd.skip ?_
  refine At.in_normal ?_
  refine At.then ?_
  refine Cd.region ?_
  refine Lst.run rfl rfl (by decide) (Ev.incr (by omega) rfl rfl) ?_
  refine Lst.run rfl rfl (by decide) (Ev.move rfl) ?_
  refine Lst.nil ?_
  exact At.meet (i2 + 1, k2, ()) hF4 ⟨rfl, rfl, rfl, rfl, trivial⟩ rfl ⟨⟨hgo2 _ (some_inj H).symm, by omega⟩, Nat.lt_succ_self _⟩
set_option maxRecDepth 20000 in
theorem slices_ContainsFunc_api_Mail_api_Mail_Hear_1_sim {a0 : List Mail} {a1_c0 : Mail} {s_a0 : Sl} {b_a1_c0 : Nat} {r : Bool} (H : slices_ContainsFunc_api_Mail_api_Mail_Hear_1 a0 a1_c0 = some r) (w0 : World) (F : Frz) (M L : List Item) (hM : M.Sublist L) (hs_a0 : Rd w0 F M s_a0 a0) : Ok Try.prog w0 101 [Sl.v s_a0, .func (.func 106) #[] #[.pointer (some ⟨b_a1_c0, 0, none⟩)]] F ((.blk b_a1_c0 (enc a1_c0) 47) :: L) (Is (.bool r) ((.blk b_a1_c0 (enc a1_c0) 47) :: L)) := by
  unfold slices_ContainsFunc_api_Mail_api_Mail_Hear_1 at H
  refine Ok.enter (m := 2) (n := 9) Try.func101 rfl rfl rfl (by decide) ?_
  refine Cd.env (e' := [(0, Sl.v s_a0), (1, .func (.func 106) #[] #[.pointer (some ⟨b_a1_c0, 0, none⟩)])]) rfl ?_
  refine Cd.seq ?_
  refine Cd.region ?_
  refine Lst.run rfl rfl (by decide) (Ev.assign rfl) ?_
  refine Lst.nil ?_
  refine At.then ?_
  refine Cd.seq ?_
  refine Cd.region ?_
  refine Lst.run rfl rfl (by decide) (Ev.move rfl) ?_
  refine Lst.run rfl rfl (by decide) (Ev.move rfl) ?_
  obtain ⟨r2, h3, H⟩ := bind_some H
  refine Lst.call1 rfl rfl (by decide) (vs := [Sl.v s_a0, .func (.func 106) #[] #[.pointer (some ⟨b_a1_c0, 0, none⟩)]]) ⟨rfl, rfl, trivial⟩ Try.call109 (slices_IndexFunc_api_Mail_api_Mail_Hear_1_sim h3 w0 _ M _ hM (hs_a0.mono (FLe.refl _) (List.Sublist.refl _))) ?_
  refine Lst.run rfl rfl (by decide) (Ev.geq rfl rfl) ?_
  refine Lst.run rfl rfl (by decide) (Ev.assign rfl) ?_
  refine Lst.nil ?_
  refine At.then ?_
  obtain rfl := some_inj H
  refine Cd.ret ?_
  exact At.ret1 rfl (Res.tmp rfl) (FLe.refl _) (List.Sublist.cons_cons _ (List.Sublist.refl _)) ⟨rfl, rfl⟩
set_option maxRecDepth 20000 in
theorem causal_Hear_2_sim {a0 : Mail} {a1 : Causal} {s_a1_2 : Sl} {b_a1 : Nat} {r : Bool} (H : causal_Hear_2 a0 a1 = some r) (w0 : World) (F : Frz) (M L : List Item) (hM : M.Sublist L) (hs_a1_2 : Rd w0 F M s_a1_2 a1.Hold) : Ok Try.prog w0 110 [.agg (enc a0).toArray, .pointer (some ⟨b_a1, 0, none⟩)] F ((.blk b_a1 (enc (CausalR.mk a1 s_a1_2)) 45) :: L) (Is (.bool r) ((.blk b_a1 (enc (CausalR.mk a1 s_a1_2)) 45) :: L)) := by
  unfold causal_Hear_2 at H
  refine Ok.enter (m := 2) (n := 8) Try.func110 rfl rfl rfl (by decide) ?_
  refine Cd.env (e' := [(0, .agg (enc a0).toArray), (1, .pointer (some ⟨b_a1, 0, none⟩))]) rfl ?_
  refine Cd.seq ?_
  refine Cd.region ?_
  refine Lst.box rfl rfl (by decide) rfl (cs := enc a0) rfl (fun b2 => ?_)
  refine Lst.run rfl rfl (by decide) (Ev.assign rfl) ?_
  refine Lst.nil ?_
  refine At.then ?_
  refine Cd.seq ?_
  refine Cd.region ?_
  refine Lst.run rfl rfl (by decide) (Ev.fieldAddr (off' := 1) rfl Try.runUnderlying45 rfl Try.sizeOf23 rfl rfl) ?_
  refine Lst.run rfl rfl (by decide) (Ev.loadA (i := 1) rfl rfl Try.isAgg23 Try.sizeOf23 (ch := enc a1.Seen) (Enc.len _) ((CausalR.get_Seen (Get.here _)).off (by rfl))) ?_
  refine Lst.run rfl rfl (by decide) (Ev.loadA (i := 0) rfl rfl Try.isAgg47 Try.sizeOf47 (ch := enc a0) (Enc.len _) (Get.here _)) ?_
  obtain ⟨r4, h5, H⟩ := bind_some H
  refine Lst.call1 rfl rfl (by decide) (vs := [.agg (enc a1.Seen).toArray, .agg (enc a0).toArray]) ⟨rfl, rfl, trivial⟩ Try.call108 (causal_deliverable_sim h5 w0 _ M _ (List.Sublist.cons _ (List.Sublist.cons _ hM))) ?_
  refine Lst.run rfl rfl (by decide) (Ev.assign rfl) ?_
  refine Lst.nil ?_
  refine At.then ?_
  obtain rfl := some_inj H
  refine Cd.ret ?_
  exact At.ret1 rfl (Res.tmp rfl) (FLe.refl _) (List.Sublist.cons _ (List.Sublist.cons_cons _ (List.Sublist.refl _))) ⟨rfl, rfl⟩
set_option maxRecDepth 20000 in
theorem slices_IndexFunc_api_Mail_api_Mail_Hear_2_sim {a0 : List Mail} {a1_c0 : Causal} {s_a0 : Sl} {s_a1_c0_2 : Sl} {b_a1_c0 : Nat} {r : Int} (H : slices_IndexFunc_api_Mail_api_Mail_Hear_2 a0 a1_c0 = some r) (w0 : World) (F : Frz) (M L : List Item) (hM : M.Sublist L) (hs_a0 : Rd w0 F M s_a0 a0) (hs_a1_c0_2 : Rd w0 F M s_a1_c0_2 a1_c0.Hold) : Ok Try.prog w0 109 [Sl.v s_a0, .func (.func 110) #[] #[.pointer (some ⟨b_a1_c0, 0, none⟩)]] F ((.blk b_a1_c0 (enc (CausalR.mk a1_c0 s_a1_c0_2)) 45) :: L) (Is (.int .i64 r) ((.blk b_a1_c0 (enc (CausalR.mk a1_c0 s_a1_c0_2)) 45) :: L)) := by
  unfold slices_IndexFunc_api_Mail_api_Mail_Hear_2 at H
  refine Ok.enter (m := 2) (n := 19) Try.func109 rfl rfl rfl (by decide) ?_
  refine Cd.env (e' := [(0, Sl.v s_a0), (1, .func (.func 110) #[] #[.pointer (some ⟨b_a1_c0, 0, none⟩)])]) rfl ?_
  refine Cd.seq ?_
  refine Cd.region ?_
  refine Lst.run rfl rfl (by decide) (Ev.assign rfl) ?_
  refine Lst.nil ?_
  refine At.then ?_
  refine Cd.seq ?_
  refine Cd.seq ?_
  refine Cd.region ?_
  refine Lst.run rfl rfl (by decide) (Ev.move rfl) ?_
  refine Lst.run rfl rfl (by decide) (Ev.lenS (α := Mail) (xs := a0) (by decide) rfl rfl Try.runUnderlying43 (hs_a0.mono (FLe.refl _) (List.Sublist.cons _ hM))) ?_
  refine Lst.run rfl rfl (by decide) (Ev.move rfl) ?_
  refine Lst.nil ?_
  refine At.then ?_
  refine Cd.block ?_
  refine Cd.bound (Rd.le (α := Mail) (xs := a0) (by decide) (hs_a0.mono (FLe.refl _) (List.Sublist.cons _ hM))) (fun hN13 => ?_)
  obtain ⟨ol2, H, HKl2⟩ := andThen_some H
  refine Cd.loop (σ := Nat × Nat × Unit) (fun (i2, k2, _u) => [(0, Sl.v s_a0), (1, .func (.func 110) #[] #[.pointer (some ⟨b_a1_c0, 0, none⟩)]), (7, .int .i64 (a0.length : Int)), (8, .int .i64 (i2 : Int))]) (fun (i2, k2, _u) => (.blk b_a1_c0 (enc (CausalR.mk a1_c0 s_a1_c0_2)) 45) :: L) (fun _ => (fun (i2, k2, _u) => rangeM (slices_IndexFunc_api_Mail_api_Mail_Hear_2_B0 a0 a1_c0) k2 i2 () = some ol2 ∧ i2 + k2 = a0.length)) (fun (i2, k2, _u) => k2) (0, a0.length, ()) ⟨rfl, rfl, rfl, rfl, trivial⟩ rfl ⟨H, by omega⟩ ?_
  rintro F3 ⟨i2, k2, _u⟩ hF4 ⟨H, hik2⟩
  refine Cd.as (e' := [(0, Sl.v s_a0), (1, .func (.func 110) #[] #[.pointer (some ⟨b_a1_c0, 0, none⟩)]), (7, .int .i64 (a0.length : Int)), (8, .int .i64 (i2 : Int))]) (L' := (.blk b_a1_c0 (enc (CausalR.mk a1_c0 s_a1_c0_2)) 45) :: L) ⟨rfl, rfl, rfl, rfl, trivial⟩ rfl ?_
  rcases k2 with _ | k2
  · have hc2 : decide ((i2 : Int) < (a0.length : Int)) = false := decide_eq_false (by omega)
    replace H := rangeM_end H
    refine Cd.seq ?_
    refine Cd.region ?_
    refine Lst.run rfl rfl (by decide) (Ev.lss rfl rfl) ?_
    refine Lst.nil ?_
    refine At.then ?_
    refine Cd.seq ?_
    refine Cd.condF rfl hc2 ?_
    refine Cd.exit ?_
    refine At.then_exit ?_
    refine At.then_exit ?_
    refine At.in_exit ?_
    subst H
    replace H := HKl2
    refine At.then ?_
    refine Cd.seq ?_
    refine Cd.region ?_
    refine Lst.run rfl rfl (by decide) (Ev.assign rfl) ?_
    refine Lst.nil ?_
    refine At.then ?_
    obtain rfl := some_inj H
    refine Cd.ret ?_
    exact At.ret1 rfl (Res.tmp rfl) hF4 (List.Sublist.cons_cons _ (List.Sublist.refl _)) ⟨rfl, rfl⟩
  have hc2 : decide ((i2 : Int) < (a0.length : Int)) = true := decide_eq_true (by omega)
  obtain ⟨c2, H, hgo2, hbrk2, hret2⟩ := rangeM_go H
  unfold slices_IndexFunc_api_Mail_api_Mail_Hear_2_B0 at H
  try dsimp only at H
  refine Cd.seq ?_
  refine Cd.region ?_
  refine Lst.run rfl rfl (by decide) (Ev.lss rfl rfl) ?_
  refine Lst.nil ?_
  refine At.then ?_
  refine Cd.seq ?_
  refine Cd.condT rfl hc2 ?_
  refine Cd.skip ?_
  refine At.then ?_
  refine Cd.seq ?_
  refine Cd.block ?_
  refine Cd.seq ?_
  refine Cd.region ?_
  refine Lst.run rfl rfl (by decide) (Ev.move rfl) ?_
  refine Lst.run rfl rfl (by decide) (Ev.assign rfl) ?_
  refine Lst.nil ?_
  refine At.then ?_
  refine Cd.seq ?_
  refine Cd.region ?_
  refine Lst.run rfl rfl (by decide) (Ev.move rfl) ?_
  refine Lst.run rfl rfl (by decide) (Ev.move rfl) ?_
  refine Lst.run rfl rfl (by decide) (Ev.move rfl) ?_
  obtain ⟨x5, h6, H⟩ := bind_some H
  have g7 := lat_some h6
  refine Lst.run rfl rfl (by decide) (Ev.indexS (α := Mail) (xs := a0) rfl rfl Try.runUnderlying43 Try.sizeOf47 rfl (by decide) (hs_a0.mono hF4 (List.Sublist.cons _ hM)) g7.1 g7.2.1) ?_
  refine Lst.run rfl rfl (by decide) (Ev.loadSA (α := Mail) rfl (hs_a0.mono hF4 (List.Sublist.cons _ hM)) Try.isAgg47 Try.sizeOf47 (ch := enc x5) (Enc.len _) (by decide) ((Get.elemN (s := 8) (x := x5) rfl g7.2.2 (Get.here _)).off (by omega))) ?_
  obtain ⟨r8, h9, H⟩ := bind_some H
  refine Lst.callV1 rfl rfl (by decide) (vs := [.agg (enc x5).toArray]) (cs := [.pointer (some ⟨b_a1_c0, 0, none⟩)]) rfl ⟨rfl, trivial⟩ Try.call110 (causal_Hear_2_sim h9 w0 _ M _ hM (hs_a1_c0_2.mono hF4 (List.Sublist.refl _))) ?_
  refine Lst.nil ?_
  refine At.then ?_
  rcases Bool.eq_false_or_eq_true r8 with hb12 | hb12
  · replace H := ite_t hb12 H
    refine Cd.condT rfl hb12 ?_
    refine Cd.seq ?_
    refine Cd.region ?_
    refine Lst.run rfl rfl (by decide) (Ev.move rfl) ?_
    refine Lst.run rfl rfl (by decide) (Ev.assign rfl) ?_
    refine Lst.nil ?_
    refine At.then ?_
    have H := hret2 _ (some_inj H).symm
    subst H
    replace H := HKl2
    obtain rfl := some_inj H
    refine Cd.ret ?_
    refine At.in_ret ?_
    refine At.then_ret ?_
    refine At.then_ret ?_
    refine At.in_ret ?_
    refine At.then_ret ?_
    exact At.ret1 rfl (Res.tmp rfl) hF4 (List.Sublist.cons_cons _ (List.Sublist.refl _)) ⟨rfl, rfl⟩
  replace H := ite_f hb12 H
  refine Cd.condF rfl hb12 ?_
  refine Cd.skip ?_
  refine At.in_normal ?_
  refine At.then ?_
  refine Cd.region ?_
  refine Lst.run rfl rfl (by decide) (Ev.incr (by omega) rfl rfl) ?_
  refine Lst.run rfl rfl (by decide) (Ev.move rfl) ?_
  refine Lst.nil ?_
  exact At.meet (i2 + 1, k2, ()) hF4 ⟨rfl, rfl, rfl, rfl, trivial⟩ rfl ⟨⟨hgo2 _ (some_inj H).symm, by omega⟩, Nat.lt_succ_self _⟩
set_option maxRecDepth 20000 in
theorem slices_Delete_api_Mail_api_Mail_sim {a0 : List Mail} {a1 : Int} {a2 : Int} {s_a0 : Sl} {r : (List Mail)} (H : slices_Delete_api_Mail_api_Mail a0 a1 a2 = some r) (w0 : World) (F : Frz) (M L : List Item) (hM : M.Sublist L) : Ok Try.prog w0 111 [Sl.v s_a0, .int .i64 a1, .int .i64 a2] F ((.own s_a0 47 8 (encs a0)) :: L) (fun _ L' v => ∃ (s19 : Sl), v = Sl.v s19 ∧ L' = (.own s19 47 8 (encs r)) :: L) := by
  unfold slices_Delete_api_Mail_api_Mail at H
  refine Ok.enter (m := 3) (n := 33) Try.func111 rfl rfl rfl (by decide) ?_
  refine Cd.env (e' := [(0, Sl.v s_a0), (1, .int .i64 a1), (2, .int .i64 a2)]) rfl ?_
  refine Cd.seq ?_
  refine Cd.region ?_
  refine Lst.addNil 47 8 ?_
  refine Lst.run rfl rfl (by decide) (Ev.assign rfl) ?_
  refine Lst.nil ?_
  refine At.then ?_
  refine Cd.seq ?_
  refine Cd.region ?_
  refine Lst.run rfl rfl (by decide) (Ev.move rfl) ?_
  refine Lst.run rfl rfl (by decide) (Ev.move rfl) ?_
  refine Lst.run rfl rfl (by decide) (Ev.move rfl) ?_
  refine Lst.run rfl rfl (by decide) (Ev.move rfl) ?_
  refine Lst.run rfl rfl (by decide) (Ev.lenS (α := Mail) (xs := a0) (by decide) rfl rfl Try.runUnderlying43 (Rd.own (i := 1) rfl rfl rfl)) ?_
  obtain ⟨m3, h4, H⟩ := bind_some H
  have g5 := cutL_some h4
  refine Lst.capOwn (α := Mail) (i := 1) (xs := a0) rfl rfl rfl (by decide) (fun hl6 hc7 => ?_)
  refine Lst.run rfl rfl (by decide) (Ev.cut3 (i := a1) (j := a2) (k := (a0.length : Int)) rfl rfl rfl rfl Try.runUnderlying43 Try.sizeOf47 g5.1.1 g5.1.2.1 g5.1.2.2 (Int.ofNat_le.2 hc7)) ?_
  refine Lst.nil ?_
  refine At.then ?_
  refine Cd.seq ?_
  refine Cd.seq ?_
  refine Cd.region ?_
  refine Lst.run rfl rfl (by decide) (Ev.move rfl) ?_
  refine Lst.run rfl rfl (by decide) (Ev.move rfl) ?_
  refine Lst.run rfl rfl (by decide) (Ev.eql rfl rfl) ?_
  refine Lst.nil ?_
  refine At.then ?_
  rcases Bool.eq_false_or_eq_true (a1 == a2) with hb8 | hb8
  · replace H := ite_t hb8 H
    refine Cd.condT rfl hb8 ?_
    refine Cd.seq ?_
    refine Cd.region ?_
    refine Lst.run rfl rfl (by decide) (Ev.move rfl) ?_
    refine Lst.run rfl rfl (by decide) (Ev.assign rfl) ?_
    refine Lst.nil ?_
    refine At.then ?_
    obtain rfl := some_inj H
    refine Cd.ret ?_
    refine At.then_ret ?_
    exact At.ret1 rfl (Res.tmp rfl) (FLe.refl _) (List.Sublist.cons _ (List.Sublist.cons_cons _ (List.Sublist.refl _))) ⟨s_a0, rfl, rfl⟩
  replace H := ite_f hb8 H
  refine Cd.condF rfl hb8 ?_
  refine Cd.skip ?_
  refine At.then ?_
  refine Cd.seq ?_
  refine Cd.region ?_
  refine Lst.run rfl rfl (by decide) (Ev.move rfl) ?_
  refine Lst.run rfl rfl (by decide) (Ev.lenS (α := Mail) (xs := a0) (by decide) rfl rfl Try.runUnderlying43 (Rd.own (i := 1) rfl rfl rfl)) ?_
  refine Lst.run rfl rfl (by decide) (Ev.assign rfl) ?_
  refine Lst.nil ?_
  refine At.then ?_
  refine Cd.seq ?_
  refine Cd.tail 6 (by kernel_rfl) (by kernel_rfl) ?_
  refine Qt.run rfl rfl (by decide) (Ev.move rfl) ?_
  refine Qt.run rfl rfl (by decide) (Ev.move rfl) ?_
  obtain ⟨m9, h10, H⟩ := bind_some H
  obtain ⟨g11, gl12⟩ := cutL_some h10
  refine Qt.run rfl rfl (by decide) (Ev.cut (α := Mail) (xs := a0) (i := 0) (j := a1) rfl rfl rfl Try.runUnderlying43 Try.sizeOf47 rfl (by decide) (Rd.own (i := 1) rfl rfl rfl) g11.1 g11.2.1 g11.2.2) ?_
  refine Qt.run rfl rfl (by decide) (Ev.move rfl) ?_
  refine Qt.run rfl rfl (by decide) (Ev.move rfl) ?_
  obtain ⟨m13, h14, H⟩ := bind_some H
  obtain ⟨g15, gl16⟩ := cutL_some h14
  refine Qt.run rfl rfl (by decide) (Ev.cut (α := Mail) (xs := a0) (i := a2) (j := (a0.length : Int)) rfl rfl rfl Try.runUnderlying43 Try.sizeOf47 rfl (by decide) (Rd.own (i := 1) rfl rfl rfl) g15.1 g15.2.1 g15.2.2) ?_
  refine Qt.tail ?_
  refine Lst.capOwn (α := Mail) (i := 1) (xs := a0) rfl rfl rfl (by decide) (fun hl17 hc18 => ?_)
  refine Lst.shift (α := Mail) (k := 1) (i := (a1 : Int).toNat) (j := (a2 : Int).toNat) (xs := a0) rfl rfl (by decide) rfl rfl Try.runUnderlying43 Try.typeInfo47 rfl rfl (by decide) rfl rfl (by omega) (by omega) ?_
  refine Lst.its (L' := (.own Sl.nil 47 8 (encs ([] : List Mail))) :: (.own (Sl.mk (Sl.a s_a0) ((a1 : Int).toNat + (a0.length - (a2 : Int).toNat)) (Sl.cap s_a0)) 47 8 (encs (a0.take ((a1 : Int).toNat) ++ a0.drop ((a2 : Int).toNat)))) :: L) rfl ?_
  refine Lst.run rfl rfl (by decide) (Ev.assign rfl) ?_
  refine Lst.nil ?_
  refine At.then ?_
  refine Cd.seq ?_
  refine Cd.as (e' := [(7, .int .i64 (a0.length : Int)), (0, Sl.v (Sl.mk (Sl.a s_a0) ((a1 : Int).toNat + (a0.length - (a2 : Int).toNat)) (Sl.cap s_a0)))]) (L' := (.own Sl.nil 47 8 (encs ([] : List Mail))) :: (.own (Sl.mk (Sl.a s_a0) ((a1 : Int).toNat + (a0.length - (a2 : Int).toNat)) (Sl.cap s_a0)) 47 8 (encs (a0.take ((a1 : Int).toNat) ++ a0.drop ((a2 : Int).toNat)))) :: L) ⟨rfl, rfl, trivial⟩ rfl ?_
  refine Cd.region ?_
  refine Lst.run rfl rfl (by decide) (Ev.move rfl) ?_
  refine Lst.run rfl rfl (by decide) (Ev.move rfl) ?_
  refine Lst.run rfl rfl (by decide) (Ev.lenS (α := Mail) (xs := (a0.take ((a1 : Int).toNat) ++ a0.drop ((a2 : Int).toNat))) (by decide) rfl rfl Try.runUnderlying43 (Rd.own (i := 1) rfl rfl rfl)) ?_
  refine Lst.run rfl rfl (by decide) (Ev.move rfl) ?_
  refine Lst.run rfl rfl (by decide) (Ev.cutBeyond (i := ((a0.take ((a1 : Int).toNat) ++ a0.drop ((a2 : Int).toNat)).length : Int)) (j := (a0.length : Int)) rfl rfl rfl Try.runUnderlying43 Try.sizeOf47 (Int.natCast_nonneg _) (Int.ofNat_le.2 (shift_len (by omega) (by omega))) (Int.ofNat_le.2 hc18)) ?_
  refine Lst.clearBehind (α := Mail) (k := 1) (xs := (a0.take ((a1 : Int).toNat) ++ a0.drop ((a2 : Int).toNat))) rfl rfl rfl Try.runUnderlying43 Try.zeroValue47 Mail.zero rfl rfl (by decide) rfl rfl (Nat.le_refl _) hc18 ?_
  refine Lst.nil ?_
  refine At.then ?_
  refine Cd.seq ?_
  refine Cd.region ?_
  refine Lst.run rfl rfl (by decide) (Ev.move rfl) ?_
  refine Lst.run rfl rfl (by decide) (Ev.assign rfl) ?_
  refine Lst.nil ?_
  refine At.then ?_
  obtain rfl := some_inj H
  refine Cd.ret ?_
  exact At.ret1 rfl (Res.tmp rfl) (FLe.refl _) (List.Sublist.cons _ (List.Sublist.cons_cons _ (List.Sublist.refl _))) ⟨(Sl.mk (Sl.a s_a0) ((a1 : Int).toNat + (a0.length - (a2 : Int).toNat)) (Sl.cap s_a0)), rfl, rfl⟩
set_option maxRecDepth 20000 in
theorem causal_Hear_3_sim {a0 : Mail} {a1 : Causal} {s_a1_2 : Sl} {b_a1 : Nat} {r : Bool} (H : causal_Hear_3 a0 a1 = some r) (w0 : World) (F : Frz) (M L : List Item) (hM : M.Sublist L) (hs_a1_2 : Rd w0 F M s_a1_2 a1.Hold) : Ok Try.prog w0 113 [.agg (enc a0).toArray, .pointer (some ⟨b_a1, 0, none⟩)] F ((.blk b_a1 (enc (CausalR.mk a1 s_a1_2)) 45) :: L) (Is (.bool r) ((.blk b_a1 (enc (CausalR.mk a1 s_a1_2)) 45) :: L)) := by
  unfold causal_Hear_3 at H
  refine Ok.enter (m := 2) (n := 15) Try.func113 rfl rfl rfl (by decide) ?_
  refine Cd.env (e' := [(0, .agg (enc a0).toArray), (1, .pointer (some ⟨b_a1, 0, none⟩))]) rfl ?_
  refine Cd.seq ?_
  refine Cd.region ?_
  refine Lst.box rfl rfl (by decide) rfl (cs := enc a0) rfl (fun b2 => ?_)
  refine Lst.run rfl rfl (by decide) (Ev.assign rfl) ?_
  refine Lst.nil ?_
  refine At.then ?_
  refine Cd.seq ?_
  refine Cd.quiet (by kernel_rfl) (by kernel_rfl) ?_
  refine Qt.run rfl rfl (by decide) (Ev.fieldAddr (off' := 0) rfl Try.runUnderlying47 rfl Try.sizeOf3 rfl rfl) ?_
  refine Qt.run rfl rfl (by decide) (Ev.load (i := 0) rfl rfl Try.isAgg3 (v := .int .i64 a0.From) ((Mail.get_From (Get.here _)).off (by rfl))) ?_
  refine Qt.run rfl rfl (by decide) (Ev.fieldAddr (off' := 1) rfl Try.runUnderlying47 rfl Try.sizeOf23 rfl rfl) ?_
  obtain ⟨x4, h5, H⟩ := bind_some H
  have g6 := vat_some h5
  refine Qt.run rfl rfl (by decide) (Ev.indexAddr (off' := 1 + a0.From.toNat * 1) rfl rfl Try.runUnderlying23 Try.sizeOf3 g6.1 g6.2.1 rfl) ?_
  refine Qt.run rfl rfl (by decide) (Ev.load (i := 0) rfl rfl Try.isAgg3 (v := .int .i64 x4) ((Mail.get_At (Get.vecN (s := 1) (x := x4) rfl g6.2.2 (Get.here _))).off (by omega))) ?_
  refine Qt.run rfl rfl (by decide) (Ev.fieldAddr (off' := 0) rfl Try.runUnderlying47 rfl Try.sizeOf3 rfl rfl) ?_
  refine Qt.run rfl rfl (by decide) (Ev.load (i := 0) rfl rfl Try.isAgg3 (v := .int .i64 a0.From) ((Mail.get_From (Get.here _)).off (by rfl))) ?_
  refine Qt.run rfl rfl (by decide) (Ev.fieldAddr (off' := 1) rfl Try.runUnderlying45 rfl Try.sizeOf23 rfl rfl) ?_
  obtain ⟨x7, h8, H⟩ := bind_some H
  have g9 := vat_some h8
  refine Qt.run rfl rfl (by decide) (Ev.indexAddr (off' := 1 + a0.From.toNat * 1) rfl rfl Try.runUnderlying23 Try.sizeOf3 g9.1 g9.2.1 rfl) ?_
  refine Qt.run rfl rfl (by decide) (Ev.load (i := 1) rfl rfl Try.isAgg3 (v := .int .i64 x7) ((CausalR.get_Seen (Get.vecN (s := 1) (x := x7) rfl g9.2.2 (Get.here _))).off (by omega))) ?_
  refine Qt.run rfl rfl (by decide) (Ev.leq rfl rfl) ?_
  refine Qt.run rfl rfl (by decide) (Ev.assign rfl) ?_
  refine Qt.done ?_
  refine At.then ?_
  obtain rfl := some_inj H
  refine Cd.ret ?_
  exact At.ret1 rfl (Res.tmp rfl) (FLe.refl _) (List.Sublist.cons _ (List.Sublist.cons_cons _ (List.Sublist.refl _))) ⟨rfl, rfl⟩
set_option maxRecDepth 20000 in
theorem slices_IndexFunc_api_Mail_api_Mail_Hear_3_sim {a0 : List Mail} {a1_c0 : Causal} {s_a0 : Sl} {s_a1_c0_2 : Sl} {b_a1_c0 : Nat} {r : Int} (H : slices_IndexFunc_api_Mail_api_Mail_Hear_3 a0 a1_c0 = some r) (w0 : World) (F : Frz) (M L : List Item) (hM : M.Sublist L) (hs_a0 : Rd w0 F M s_a0 a0) (hs_a1_c0_2 : Rd w0 F M s_a1_c0_2 a1_c0.Hold) : Ok Try.prog w0 109 [Sl.v s_a0, .func (.func 113) #[] #[.pointer (some ⟨b_a1_c0, 0, none⟩)]] F ((.blk b_a1_c0 (enc (CausalR.mk a1_c0 s_a1_c0_2)) 45) :: L) (Is (.int .i64 r) ((.blk b_a1_c0 (enc (CausalR.mk a1_c0 s_a1_c0_2)) 45) :: L)) := by
  unfold slices_IndexFunc_api_Mail_api_Mail_Hear_3 at H
  refine Ok.enter (m := 2) (n := 19) Try.func109 rfl rfl rfl (by decide) ?_
  refine Cd.env (e' := [(0, Sl.v s_a0), (1, .func (.func 113) #[] #[.pointer (some ⟨b_a1_c0, 0, none⟩)])]) rfl ?_
  refine Cd.seq ?_
  refine Cd.region ?_
  refine Lst.run rfl rfl (by decide) (Ev.assign rfl) ?_
  refine Lst.nil ?_
  refine At.then ?_
  refine Cd.seq ?_
  refine Cd.seq ?_
  refine Cd.region ?_
  refine Lst.run rfl rfl (by decide) (Ev.move rfl) ?_
  refine Lst.run rfl rfl (by decide) (Ev.lenS (α := Mail) (xs := a0) (by decide) rfl rfl Try.runUnderlying43 (hs_a0.mono (FLe.refl _) (List.Sublist.cons _ hM))) ?_
  refine Lst.run rfl rfl (by decide) (Ev.move rfl) ?_
  refine Lst.nil ?_
  refine At.then ?_
  refine Cd.block ?_
  refine Cd.bound (Rd.le (α := Mail) (xs := a0) (by decide) (hs_a0.mono (FLe.refl _) (List.Sublist.cons _ hM))) (fun hN13 => ?_)
  obtain ⟨ol2, H, HKl2⟩ := andThen_some H
  refine Cd.loop (σ := Nat × Nat × Unit) (fun (i2, k2, _u) => [(0, Sl.v s_a0), (1, .func (.func 113) #[] #[.pointer (some ⟨b_a1_c0, 0, none⟩)]), (7, .int .i64 (a0.length : Int)), (8, .int .i64 (i2 : Int))]) (fun (i2, k2, _u) => (.blk b_a1_c0 (enc (CausalR.mk a1_c0 s_a1_c0_2)) 45) :: L) (fun _ => (fun (i2, k2, _u) => rangeM (slices_IndexFunc_api_Mail_api_Mail_Hear_3_B0 a0 a1_c0) k2 i2 () = some ol2 ∧ i2 + k2 = a0.length)) (fun (i2, k2, _u) => k2) (0, a0.length, ()) ⟨rfl, rfl, rfl, rfl, trivial⟩ rfl ⟨H, by omega⟩ ?_
  rintro F3 ⟨i2, k2, _u⟩ hF4 ⟨H, hik2⟩
  refine Cd.as (e' := [(0, Sl.v s_a0), (1, .func (.func 113) #[] #[.pointer (some ⟨b_a1_c0, 0, none⟩)]), (7, .int .i64 (a0.length : Int)), (8, .int .i64 (i2 : Int))]) (L' := (.blk b_a1_c0 (enc (CausalR.mk a1_c0 s_a1_c0_2)) 45) :: L) ⟨rfl, rfl, rfl, rfl, trivial⟩ rfl ?_
  rcases k2 with _ | k2
  · have hc2 : decide ((i2 : Int) < (a0.length : Int)) = false := decide_eq_false (by omega)
    replace H := rangeM_end H
    refine Cd.seq ?_
    refine Cd.region ?_
    refine Lst.run rfl rfl (by decide) (Ev.lss rfl rfl) ?_
    refine Lst.nil ?_
    refine At.then ?_
    refine Cd.seq ?_
    refine Cd.condF rfl hc2 ?_
    refine Cd.exit ?_
    refine At.then_exit ?_
    refine At.then_exit ?_
    refine At.in_exit ?_
    subst H
    replace H := HKl2
    refine At.then ?_
    refine Cd.seq ?_
    refine Cd.region ?_
    refine Lst.run rfl rfl (by decide) (Ev.assign rfl) ?_
    refine Lst.nil ?_
    refine At.then ?_
    obtain rfl := some_inj H
    refine Cd.ret ?_
    exact At.ret1 rfl (Res.tmp rfl) hF4 (List.Sublist.cons_cons _ (List.Sublist.refl _)) ⟨rfl, rfl⟩
  have hc2 : decide ((i2 : Int) < (a0.length : Int)) = true := decide_eq_true (by omega)
  obtain ⟨c2, H, hgo2, hbrk2, hret2⟩ := rangeM_go H
  unfold slices_IndexFunc_api_Mail_api_Mail_Hear_3_B0 at H
  try dsimp only at H
  refine Cd.seq ?_
  refine Cd.region ?_
  refine Lst.run rfl rfl (by decide) (Ev.lss rfl rfl) ?_
  refine Lst.nil ?_
  refine At.then ?_
  refine Cd.seq ?_
  refine Cd.condT rfl hc2 ?_
  refine Cd.skip ?_
  refine At.then ?_
  refine Cd.seq ?_
  refine Cd.block ?_
  refine Cd.seq ?_
  refine Cd.region ?_
  refine Lst.run rfl rfl (by decide) (Ev.move rfl) ?_
  refine Lst.run rfl rfl (by decide) (Ev.assign rfl) ?_
  refine Lst.nil ?_
  refine At.then ?_
  refine Cd.seq ?_
  refine Cd.region ?_
  refine Lst.run rfl rfl (by decide) (Ev.move rfl) ?_
  refine Lst.run rfl rfl (by decide) (Ev.move rfl) ?_
  refine Lst.run rfl rfl (by decide) (Ev.move rfl) ?_
  obtain ⟨x5, h6, H⟩ := bind_some H
  have g7 := lat_some h6
  refine Lst.run rfl rfl (by decide) (Ev.indexS (α := Mail) (xs := a0) rfl rfl Try.runUnderlying43 Try.sizeOf47 rfl (by decide) (hs_a0.mono hF4 (List.Sublist.cons _ hM)) g7.1 g7.2.1) ?_
  refine Lst.run rfl rfl (by decide) (Ev.loadSA (α := Mail) rfl (hs_a0.mono hF4 (List.Sublist.cons _ hM)) Try.isAgg47 Try.sizeOf47 (ch := enc x5) (Enc.len _) (by decide) ((Get.elemN (s := 8) (x := x5) rfl g7.2.2 (Get.here _)).off (by omega))) ?_
  obtain ⟨r8, h9, H⟩ := bind_some H
  refine Lst.callV1 rfl rfl (by decide) (vs := [.agg (enc x5).toArray]) (cs := [.pointer (some ⟨b_a1_c0, 0, none⟩)]) rfl ⟨rfl, trivial⟩ Try.call113 (causal_Hear_3_sim h9 w0 _ M _ hM (hs_a1_c0_2.mono hF4 (List.Sublist.refl _))) ?_
  refine Lst.nil ?_
  refine At.then ?_
  rcases Bool.eq_false_or_eq_true r8 with hb12 | hb12
  · replace H := ite_t hb12 H
    refine Cd.condT rfl hb12 ?_
    refine Cd.seq ?_
    refine Cd.region ?_
    refine Lst.run rfl rfl (by decide) (Ev.move rfl) ?_
    refine Lst.run rfl rfl (by decide) (Ev.assign rfl) ?_
    refine Lst.nil ?_
    refine At.then ?_
    have H := hret2 _ (some_inj H).symm
    subst H
    replace H := HKl2
    obtain rfl := some_inj H
    refine Cd.ret ?_
    refine At.in_ret ?_
    refine At.then_ret ?_
    refine At.then_ret ?_
    refine At.in_ret ?_
    refine At.then_ret ?_
    exact At.ret1 rfl (Res.tmp rfl) hF4 (List.Sublist.cons_cons _ (List.Sublist.refl _)) ⟨rfl, rfl⟩
  replace H := ite_f hb12 H
  refine Cd.condF rfl hb12 ?_
  refine Cd.skip ?_
  refine At.in_normal ?_
  refine At.then ?_
  refine Cd.region ?_
  refine Lst.run rfl rfl (by decide) (Ev.incr (by omega) rfl rfl) ?_
  refine Lst.run rfl rfl (by decide) (Ev.move rfl) ?_
  refine Lst.nil ?_
  exact At.meet (i2 + 1, k2, ()) hF4 ⟨rfl, rfl, rfl, rfl, trivial⟩ rfl ⟨⟨hgo2 _ (some_inj H).symm, by omega⟩, Nat.lt_succ_self _⟩
set_option maxRecDepth 20000 in
theorem slices_DeleteFunc_api_Mail_api_Mail_Hear_3_sim {fu : Nat} {a0 : List Mail} {a1_c0 : Causal} {s_a0 : Sl} {s_a1_c0_2 : Sl} {b_a1_c0 : Nat} {r : (List Mail)} (H : slices_DeleteFunc_api_Mail_api_Mail_Hear_3 fu a0 a1_c0 = some r) (w0 : World) (F : Frz) (M L : List Item) (hM : M.Sublist L) (hs_a1_c0_2 : Rd w0 F M s_a1_c0_2 a1_c0.Hold) : Ok Try.prog w0 112 [Sl.v s_a0, .func (.func 113) #[] #[.pointer (some ⟨b_a1_c0, 0, none⟩)]] F ((.own s_a0 47 8 (encs a0)) :: (.blk b_a1_c0 (enc (CausalR.mk a1_c0 s_a1_c0_2)) 45) :: L) (fun _ L' v => ∃ (s41 : Sl), v = Sl.v s41 ∧ L' = (.own s41 47 8 (encs r)) :: (.blk b_a1_c0 (enc (CausalR.mk a1_c0 s_a1_c0_2)) 45) :: L) := by
  unfold slices_DeleteFunc_api_Mail_api_Mail_Hear_3 at H
  refine Ok.enter (m := 2) (n := 42) Try.func112 rfl rfl rfl (by decide) ?_
  refine Cd.env (e' := [(0, Sl.v s_a0), (1, .func (.func 113) #[] #[.pointer (some ⟨b_a1_c0, 0, none⟩)])]) rfl ?_
  refine Cd.seq ?_
  refine Cd.region ?_
  refine Lst.addNil 47 8 ?_
  refine Lst.run rfl rfl (by decide) (Ev.assign rfl) ?_
  refine Lst.nil ?_
  refine At.then ?_
  refine Cd.seq ?_
  refine Cd.region ?_
  refine Lst.run rfl rfl (by decide) (Ev.move rfl) ?_
  refine Lst.run rfl rfl (by decide) (Ev.move rfl) ?_
  obtain ⟨r4, h5, H⟩ := bind_some H
  refine Lst.front (i := 2) rfl (L' := (.blk b_a1_c0 (enc (CausalR.mk a1_c0 s_a1_c0_2)) 45) :: (.own Sl.nil 47 8 (encs ([] : List Mail))) :: (.own s_a0 47 8 (encs a0)) :: L) rfl ?_
  refine Lst.call1 rfl rfl (by decide) (vs := [Sl.v s_a0, .func (.func 113) #[] #[.pointer (some ⟨b_a1_c0, 0, none⟩)]]) ⟨rfl, rfl, trivial⟩ Try.call109 (slices_IndexFunc_api_Mail_api_Mail_Hear_3_sim h5 w0 _ _ _ (List.Sublist.refl _) (Rd.own (i := 1) rfl rfl rfl) (hs_a1_c0_2.mono (FLe.refl _) (List.Sublist.cons _ (List.Sublist.cons _ hM)))) ?_
  refine Lst.run rfl rfl (by decide) (Ev.assign rfl) ?_
  refine Lst.nil ?_
  refine At.then ?_
  refine Cd.seq ?_
  refine Cd.seq ?_
  refine Cd.region ?_
  refine Lst.run rfl rfl (by decide) (Ev.move rfl) ?_
  refine Lst.run rfl rfl (by decide) (Ev.eql rfl rfl) ?_
  refine Lst.nil ?_
  refine At.then ?_
  rcases Bool.eq_false_or_eq_true (r4 == (-1 : Int)) with hb8 | hb8
  · replace H := ite_t hb8 H
    refine Cd.condT rfl hb8 ?_
    refine Cd.seq ?_
    refine Cd.region ?_
    refine Lst.run rfl rfl (by decide) (Ev.move rfl) ?_
    refine Lst.run rfl rfl (by decide) (Ev.assign rfl) ?_
    refine Lst.nil ?_
    refine At.then ?_
    obtain rfl := some_inj H
    refine Cd.ret ?_
    refine At.then_ret ?_
    refine At.front (i := 2) rfl rfl ?_
    exact At.ret1 rfl (Res.tmp rfl) (FLe.refl _) (List.Sublist.cons_cons _ (List.Sublist.cons_cons _ (List.Sublist.cons _ (List.Sublist.refl _)))) ⟨s_a0, rfl, rfl⟩
  replace H := ite_f hb8 H
  refine Cd.condF rfl hb8 ?_
  refine Cd.skip ?_
  refine At.then ?_
  refine Cd.seq ?_
  refine Cd.seq ?_
  refine Cd.region ?_
  refine Lst.run rfl rfl (by decide) (Ev.move rfl) ?_
  refine Lst.run rfl rfl (by decide) (Ev.add rfl rfl) ?_
  refine Lst.run rfl rfl (by decide) (Ev.assign rfl) ?_
  refine Lst.nil ?_
  refine At.then ?_
  refine Cd.block ?_
  obtain ⟨ol9, H, HKl9⟩ := andThen_some H
  refine Cd.loop (σ := Nat × Int × Int × Sl × (List Mail)) (fun (k9, y10, y11, s12, l13) => [(0, Sl.v s12), (1, .func (.func 113) #[] #[.pointer (some ⟨b_a1_c0, 0, none⟩)]), (5, .int .i64 y10), (6, .int .i64 y11)]) (fun (k9, y10, y11, s12, l13) => (.blk b_a1_c0 (enc (CausalR.mk a1_c0 s_a1_c0_2)) 45) :: (.own Sl.nil 47 8 (encs ([] : List Mail))) :: (.own s12 47 8 (encs l13)) :: L) (fun _ => (fun (k9, y10, y11, s12, l13) => whileM (slices_DeleteFunc_api_Mail_api_Mail_Hear_3_B0 a1_c0) k9 (y10, y11, l13) = some ol9)) (fun (k9, y10, y11, s12, l13) => k9) (fu, r4, w64 (r4 + (1 : Int)), s_a0, a0) ⟨rfl, rfl, rfl, rfl, trivial⟩ rfl H ?_
  rintro F14 ⟨k9, y10, y11, s12, l13⟩ hF15 H
  refine Cd.as (e' := [(0, Sl.v s12), (1, .func (.func 113) #[] #[.pointer (some ⟨b_a1_c0, 0, none⟩)]), (5, .int .i64 y10), (6, .int .i64 y11)]) (L' := (.blk b_a1_c0 (enc (CausalR.mk a1_c0 s_a1_c0_2)) 45) :: (.own Sl.nil 47 8 (encs ([] : List Mail))) :: (.own s12 47 8 (encs l13)) :: L) ⟨rfl, rfl, rfl, rfl, trivial⟩ rfl ?_
  rcases k9 with _ | k9
  · cases H
  obtain ⟨c9, H, hgo9, hbrk9, hret9⟩ := whileM_go H
  unfold slices_DeleteFunc_api_Mail_api_Mail_Hear_3_B0 at H
  try dsimp only at H
  refine Cd.seq ?_
  refine Cd.seq ?_
  refine Cd.region ?_
  refine Lst.run rfl rfl (by decide) (Ev.move rfl) ?_
  refine Lst.run rfl rfl (by decide) (Ev.move rfl) ?_
  refine Lst.run rfl rfl (by decide) (Ev.lenS (α := Mail) (xs := l13) (by decide) rfl rfl Try.runUnderlying43 (Rd.own (i := 2) rfl rfl rfl)) ?_
  refine Lst.run rfl rfl (by decide) (Ev.lss rfl rfl) ?_
  refine Lst.nil ?_
  refine At.then ?_
  rcases (Bool.eq_false_or_eq_true (decide (y11 < (l13.length : Int)))).symm with hb16 | hb16
  · replace H := ite_f hb16 H
    refine Cd.condF rfl hb16 ?_
    refine Cd.exit ?_
    refine At.then_exit ?_
    refine At.then_exit ?_
    refine At.in_exit ?_
    have H := hbrk9 _ (some_inj H).symm
    subst H
    replace H := HKl9
    refine At.then ?_
    refine Cd.seq ?_
    refine Cd.region ?_
    refine Lst.run rfl rfl (by decide) (Ev.move rfl) ?_
    refine Lst.run rfl rfl (by decide) (Ev.move rfl) ?_
    obtain ⟨m17, h18, H⟩ := bind_some H
    obtain ⟨g19, gl20⟩ := cutL_some h18
    refine Lst.run rfl rfl (by decide) (Ev.cut (α := Mail) (xs := l13) (i := y10) (j := (l13.length : Int)) rfl rfl rfl Try.runUnderlying43 Try.sizeOf47 rfl (by decide) (Rd.own (i := 2) rfl rfl rfl) g19.1 g19.2.1 g19.2.2) ?_
    refine Lst.clearView (α := Mail) (i := 2) (lo := (y10 : Int).toNat) (hi := ((l13.length : Int) : Int).toNat) (xs := l13) rfl rfl rfl Try.runUnderlying43 Try.zeroValue47 Mail.zero rfl rfl (by decide) rfl rfl (by omega) (by omega) ?_
    refine Lst.its (L' := (.blk b_a1_c0 (enc (CausalR.mk a1_c0 s_a1_c0_2)) 45) :: (.own Sl.nil 47 8 (encs ([] : List Mail))) :: (.own s12 47 8 (encs (clearL l13 (y10 : Int).toNat ((l13.length : Int) : Int).toNat Mail.zero))) :: L) rfl ?_
    refine Lst.nil ?_
    refine At.then ?_
    refine Cd.seq ?_
    refine Cd.region ?_
    refine Lst.run rfl rfl (by decide) (Ev.move rfl) ?_
    refine Lst.run rfl rfl (by decide) (Ev.move rfl) ?_
    obtain ⟨m21, h22, H⟩ := bind_some H
    obtain ⟨g23, gl24⟩ := cutL_some h22
    refine Lst.run rfl rfl (by decide) (Ev.cut (α := Mail) (xs := (clearL l13 (y10 : Int).toNat ((l13.length : Int) : Int).toNat Mail.zero)) (i := 0) (j := y10) rfl rfl rfl Try.runUnderlying43 Try.sizeOf47 rfl (by decide) (Rd.own (i := 2) rfl rfl rfl) g23.1 g23.2.1 g23.2.2) ?_
    refine Lst.cutOwn (i := 2) (α := Mail) (lo := (0 : Int).toNat) (hi := (y10 : Int).toNat) rfl rfl rfl (by decide) (by omega) (by omega) (L' := (.blk b_a1_c0 (enc (CausalR.mk a1_c0 s_a1_c0_2)) 45) :: (.own Sl.nil 47 8 (encs ([] : List Mail))) :: (.own (s12.cut (0 : Int).toNat (y10 : Int).toNat 8) 47 8 (encs m21)) :: L) (by subst gl24; rfl) ?_
    refine Lst.run rfl rfl (by decide) (Ev.assign rfl) ?_
    refine Lst.nil ?_
    refine At.then ?_
    obtain rfl := some_inj H
    refine Cd.ret ?_
    refine At.front (i := 2) rfl rfl ?_
    exact At.ret1 rfl (Res.tmp rfl) hF15 (List.Sublist.cons_cons _ (List.Sublist.cons_cons _ (List.Sublist.cons _ (List.Sublist.refl _)))) ⟨(s12.cut (0 : Int).toNat (y10 : Int).toNat 8), rfl, rfl⟩
  replace H := ite_t hb16 H
  refine Cd.condT rfl hb16 ?_
  refine Cd.skip ?_
  refine At.then ?_
  refine Cd.seq ?_
  refine Cd.block ?_
  refine Cd.seq ?_
  refine Cd.region ?_
  refine Lst.run rfl rfl (by decide) (Ev.move rfl) ?_
  refine Lst.run rfl rfl (by decide) (Ev.move rfl) ?_
  obtain ⟨x26, h27, H⟩ := bind_some H
  have g28 := lat_some h27
  refine Lst.run rfl rfl (by decide) (Ev.indexS (α := Mail) (xs := l13) rfl rfl Try.runUnderlying43 Try.sizeOf47 rfl (by decide) (Rd.own (i := 2) rfl rfl rfl) g28.1 g28.2.1) ?_
  refine Lst.run rfl rfl (by decide) (Ev.loadSA (α := Mail) rfl (Rd.own (i := 2) rfl rfl rfl) Try.isAgg47 Try.sizeOf47 (ch := enc x26) (Enc.len _) (by decide) ((Get.elemN (s := 8) (x := x26) rfl g28.2.2 (Get.here _)).off (by omega))) ?_
  refine Lst.alloc (cs := enc Mail.zero) rfl rfl (by decide) Try.zeroValue47 rfl (fun b29 => ?_)
  refine Lst.store (i := 0) rfl rfl rfl rfl rfl Try.sizeOf47 (vs := enc x26) rfl (Enc.len _) (Enc.one _) (cs' := enc x26) (Put.here ((Enc.len _).trans (Enc.len _).symm)) (L' := (.blk b29 (enc x26) 47) :: (.blk b_a1_c0 (enc (CausalR.mk a1_c0 s_a1_c0_2)) 45) :: (.own Sl.nil 47 8 (encs ([] : List Mail))) :: (.own s12 47 8 (encs l13)) :: L) rfl ?_
  refine Lst.nil ?_
  refine At.then ?_
  refine Cd.seq ?_
  refine Cd.region ?_
  refine Lst.run rfl rfl (by decide) (Ev.move rfl) ?_
  refine Lst.run rfl rfl (by decide) (Ev.loadA (i := 0) rfl rfl Try.isAgg47 Try.sizeOf47 (ch := enc x26) (Enc.len _) (Get.here _)) ?_
  obtain ⟨r31, h32, H⟩ := bind_some H
  refine Lst.front (i := 1) rfl (L' := (.blk b_a1_c0 (enc (CausalR.mk a1_c0 s_a1_c0_2)) 45) :: (.blk b29 (enc x26) 47) :: (.own Sl.nil 47 8 (encs ([] : List Mail))) :: (.own s12 47 8 (encs l13)) :: L) rfl ?_
  refine Lst.callV1 rfl rfl (by decide) (vs := [.agg (enc x26).toArray]) (cs := [.pointer (some ⟨b_a1_c0, 0, none⟩)]) rfl ⟨rfl, trivial⟩ Try.call113 (causal_Hear_3_sim h32 w0 _ M _ (List.Sublist.cons _ (List.Sublist.cons _ (List.Sublist.cons _ hM))) (hs_a1_c0_2.mono hF15 (List.Sublist.refl _))) ?_
  refine Lst.run rfl rfl (by decide) (Ev.not rfl) ?_
  refine Lst.nil ?_
  refine At.then ?_
  rcases (Bool.eq_false_or_eq_true (!r31)).symm with hb35 | hb35
  · replace H := ite_f hb35 H
    refine Cd.condF rfl hb35 ?_
    refine Cd.skip ?_
    refine At.in_normal ?_
    refine At.then ?_
    refine Cd.region ?_
    refine Lst.run rfl rfl (by decide) (Ev.move rfl) ?_
    refine Lst.run rfl rfl (by decide) (Ev.add rfl rfl) ?_
    refine Lst.run rfl rfl (by decide) (Ev.assign rfl) ?_
    refine Lst.nil ?_
    refine At.less (L' := (.blk b_a1_c0 (enc (CausalR.mk a1_c0 s_a1_c0_2)) 45) :: (.own Sl.nil 47 8 (encs ([] : List Mail))) :: (.own s12 47 8 (encs l13)) :: L) (List.Sublist.cons_cons _ (List.Sublist.cons _ (List.Sublist.cons_cons _ (List.Sublist.cons_cons _ (List.Sublist.refl _))))) ?_
    exact At.meet (k9, y10, w64 (y11 + (1 : Int)), s12, l13) hF15 ⟨rfl, rfl, rfl, rfl, trivial⟩ rfl ⟨hgo9 _ (some_inj H).symm, Nat.lt_succ_self _⟩
  replace H := ite_t hb35 H
  refine Cd.condT rfl hb35 ?_
  refine Cd.seq ?_
  refine Cd.region ?_
  refine Lst.run rfl rfl (by decide) (Ev.move rfl) ?_
  refine Lst.run rfl rfl (by decide) (Ev.move rfl) ?_
  refine Lst.run rfl rfl (by decide) (Ev.loadA (i := 1) rfl rfl Try.isAgg47 Try.sizeOf47 (ch := enc x26) (Enc.len _) (Get.here _)) ?_
  obtain ⟨x36, h37, H⟩ := bind_some H
  have g38 := lat_some h37
  refine Lst.run rfl rfl (by decide) (Ev.indexS (α := Mail) (xs := l13) rfl rfl Try.runUnderlying43 Try.sizeOf47 rfl (by decide) (Rd.own (i := 3) rfl rfl rfl) g38.1 g38.2.1) ?_
  obtain ⟨p39, h40, H⟩ := Let_some H
  refine Lst.storeS (i := 3) rfl rfl rfl rfl rfl Try.sizeOf47 (vs := enc x26) rfl (Enc.len _) (by decide) (Enc.one _) (xs' := encs p39) (by rw [← h40]; exact (Put.elemN (s := 8) (x := x36) rfl g38.2.2 (Put.here ((Enc.len _).trans (Enc.len _).symm))).off (by omega)) (L' := (.blk b_a1_c0 (enc (CausalR.mk a1_c0 s_a1_c0_2)) 45) :: (.blk b29 (enc x26) 47) :: (.own Sl.nil 47 8 (encs ([] : List Mail))) :: (.own s12 47 8 (encs p39)) :: L) rfl ?_
  refine Lst.nil ?_
  refine At.then ?_
  refine Cd.as (e' := [(0, Sl.v s12), (1, .func (.func 113) #[] #[.pointer (some ⟨b_a1_c0, 0, none⟩)]), (5, .int .i64 y10), (6, .int .i64 y11)]) (L' := (.blk b_a1_c0 (enc (CausalR.mk a1_c0 s_a1_c0_2)) 45) :: (.blk b29 (enc x26) 47) :: (.own Sl.nil 47 8 (encs ([] : List Mail))) :: (.own s12 47 8 (encs p39)) :: L) ⟨rfl, rfl, rfl, rfl, trivial⟩ rfl ?_
  refine Cd.region ?_
  refine Lst.run rfl rfl (by decide) (Ev.move rfl) ?_
  refine Lst.run rfl rfl (by decide) (Ev.add rfl rfl) ?_
  refine Lst.run rfl rfl (by decide) (Ev.assign rfl) ?_
  refine Lst.nil ?_
  refine At.in_normal ?_
  refine At.then ?_
  refine Cd.region ?_
  refine Lst.run rfl rfl (by decide) (Ev.move rfl) ?_
  refine Lst.run rfl rfl (by decide) (Ev.add rfl rfl) ?_
  refine Lst.run rfl rfl (by decide) (Ev.assign rfl) ?_
  refine Lst.nil ?_
  refine At.less (L' := (.blk b_a1_c0 (enc (CausalR.mk a1_c0 s_a1_c0_2)) 45) :: (.own Sl.nil 47 8 (encs ([] : List Mail))) :: (.own s12 47 8 (encs p39)) :: L) (List.Sublist.cons_cons _ (List.Sublist.cons _ (List.Sublist.cons_cons _ (List.Sublist.cons_cons _ (List.Sublist.refl _))))) ?_
  exact At.meet (k9, w64 (y10 + (1 : Int)), w64 (y11 + (1 : Int)), s12, p39) hF15 ⟨rfl, rfl, rfl, rfl, trivial⟩ rfl ⟨hgo9 _ (some_inj H).symm, Nat.lt_succ_self _⟩
set_option maxRecDepth 20000 in
theorem causal_Hear_3_v2_sim {a0 : Mail} {a1 : Causal} {s_a1_2 : Sl} {b_a1 : Nat} {r : Bool} (H : causal_Hear_3_v2 a0 a1 = some r) (w0 : World) (F : Frz) (M L : List Item) (hM : M.Sublist L) : Ok Try.prog w0 113 [.agg (enc a0).toArray, .pointer (some ⟨b_a1, 0, none⟩)] F ((.blk b_a1 (enc (CausalR.mk a1 s_a1_2)) 45) :: L) (Is (.bool r) ((.blk b_a1 (enc (CausalR.mk a1 s_a1_2)) 45) :: L)) := by
  unfold causal_Hear_3_v2 at H
  refine Ok.enter (m := 2) (n := 15) Try.func113 rfl rfl rfl (by decide) ?_
  refine Cd.env (e' := [(0, .agg (enc a0).toArray), (1, .pointer (some ⟨b_a1, 0, none⟩))]) rfl ?_
  refine Cd.seq ?_
  refine Cd.region ?_
  refine Lst.box rfl rfl (by decide) rfl (cs := enc a0) rfl (fun b2 => ?_)
  refine Lst.run rfl rfl (by decide) (Ev.assign rfl) ?_
  refine Lst.nil ?_
  refine At.then ?_
  refine Cd.seq ?_
  refine Cd.quiet (by kernel_rfl) (by kernel_rfl) ?_
  refine Qt.run rfl rfl (by decide) (Ev.fieldAddr (off' := 0) rfl Try.runUnderlying47 rfl Try.sizeOf3 rfl rfl) ?_
  refine Qt.run rfl rfl (by decide) (Ev.load (i := 0) rfl rfl Try.isAgg3 (v := .int .i64 a0.From) ((Mail.get_From (Get.here _)).off (by rfl))) ?_
  refine Qt.run rfl rfl (by decide) (Ev.fieldAddr (off' := 1) rfl Try.runUnderlying47 rfl Try.sizeOf23 rfl rfl) ?_
  obtain ⟨x4, h5, H⟩ := bind_some H
  have g6 := vat_some h5
  refine Qt.run rfl rfl (by decide) (Ev.indexAddr (off' := 1 + a0.From.toNat * 1) rfl rfl Try.runUnderlying23 Try.sizeOf3 g6.1 g6.2.1 rfl) ?_
  refine Qt.run rfl rfl (by decide) (Ev.load (i := 0) rfl rfl Try.isAgg3 (v := .int .i64 x4) ((Mail.get_At (Get.vecN (s := 1) (x := x4) rfl g6.2.2 (Get.here _))).off (by omega))) ?_
  refine Qt.run rfl rfl (by decide) (Ev.fieldAddr (off' := 0) rfl Try.runUnderlying47 rfl Try.sizeOf3 rfl rfl) ?_
  refine Qt.run rfl rfl (by decide) (Ev.load (i := 0) rfl rfl Try.isAgg3 (v := .int .i64 a0.From) ((Mail.get_From (Get.here _)).off (by rfl))) ?_
  refine Qt.run rfl rfl (by decide) (Ev.fieldAddr (off' := 1) rfl Try.runUnderlying45 rfl Try.sizeOf23 rfl rfl) ?_
  obtain ⟨x7, h8, H⟩ := bind_some H
  have g9 := vat_some h8
  refine Qt.run rfl rfl (by decide) (Ev.indexAddr (off' := 1 + a0.From.toNat * 1) rfl rfl Try.runUnderlying23 Try.sizeOf3 g9.1 g9.2.1 rfl) ?_
  refine Qt.run rfl rfl (by decide) (Ev.load (i := 1) rfl rfl Try.isAgg3 (v := .int .i64 x7) ((CausalR.get_Seen (Get.vecN (s := 1) (x := x7) rfl g9.2.2 (Get.here _))).off (by omega))) ?_
  refine Qt.run rfl rfl (by decide) (Ev.leq rfl rfl) ?_
  refine Qt.run rfl rfl (by decide) (Ev.assign rfl) ?_
  refine Qt.done ?_
  refine At.then ?_
  obtain rfl := some_inj H
  refine Cd.ret ?_
  exact At.ret1 rfl (Res.tmp rfl) (FLe.refl _) (List.Sublist.cons _ (List.Sublist.cons_cons _ (List.Sublist.refl _))) ⟨rfl, rfl⟩
set_option maxRecDepth 20000 in
theorem slices_IndexFunc_api_Mail_api_Mail_Hear_3_v2_sim {a0 : List Mail} {a1_c0 : Causal} {s_a0 : Sl} {s_a1_c0_2 : Sl} {b_a1_c0 : Nat} {r : Int} (H : slices_IndexFunc_api_Mail_api_Mail_Hear_3_v2 a0 a1_c0 = some r) (w0 : World) (F : Frz) (M L : List Item) (hM : M.Sublist L) (hs_a0 : Rd w0 F M s_a0 a0) : Ok Try.prog w0 109 [Sl.v s_a0, .func (.func 113) #[] #[.pointer (some ⟨b_a1_c0, 0, none⟩)]] F ((.blk b_a1_c0 (enc (CausalR.mk a1_c0 s_a1_c0_2)) 45) :: L) (Is (.int .i64 r) ((.blk b_a1_c0 (enc (CausalR.mk a1_c0 s_a1_c0_2)) 45) :: L)) := by
  unfold slices_IndexFunc_api_Mail_api_Mail_Hear_3_v2 at H
  refine Ok.enter (m := 2) (n := 19) Try.func109 rfl rfl rfl (by decide) ?_
  refine Cd.env (e' := [(0, Sl.v s_a0), (1, .func (.func 113) #[] #[.pointer (some ⟨b_a1_c0, 0, none⟩)])]) rfl ?_
  refine Cd.seq ?_
  refine Cd.region ?_
  refine Lst.run rfl rfl (by decide) (Ev.assign rfl) ?_
  refine Lst.nil ?_
  refine At.then ?_
  refine Cd.seq ?_
  refine Cd.seq ?_
  refine Cd.region ?_
  refine Lst.run rfl rfl (by decide) (Ev.move rfl) ?_
  refine Lst.run rfl rfl (by decide) (Ev.lenS (α := Mail) (xs := a0) (by decide) rfl rfl Try.runUnderlying43 (hs_a0.mono (FLe.refl _) (List.Sublist.cons _ hM))) ?_
  refine Lst.run rfl rfl (by decide) (Ev.move rfl) ?_
  refine Lst.nil ?_
  refine At.then ?_
  refine Cd.block ?_
  refine Cd.bound (Rd.le (α := Mail) (xs := a0) (by decide) (hs_a0.mono (FLe.refl _) (List.Sublist.cons _ hM))) (fun hN13 => ?_)
  obtain ⟨ol2, H, HKl2⟩ := andThen_some H
  refine Cd.loop (σ := Nat × Nat × Unit) (fun (i2, k2, _u) => [(0, Sl.v s_a0), (1, .func (.func 113) #[] #[.pointer (some ⟨b_a1_c0, 0, none⟩)]), (7, .int .i64 (a0.length : Int)), (8, .int .i64 (i2 : Int))]) (fun (i2, k2, _u) => (.blk b_a1_c0 (enc (CausalR.mk a1_c0 s_a1_c0_2)) 45) :: L) (fun _ => (fun (i2, k2, _u) => rangeM (slices_IndexFunc_api_Mail_api_Mail_Hear_3_v2_B0 a0 a1_c0) k2 i2 () = some ol2 ∧ i2 + k2 = a0.length)) (fun (i2, k2, _u) => k2) (0, a0.length, ()) ⟨rfl, rfl, rfl, rfl, trivial⟩ rfl ⟨H, by omega⟩ ?_
  rintro F3 ⟨i2, k2, _u⟩ hF4 ⟨H, hik2⟩
  refine Cd.as (e' := [(0, Sl.v s_a0), (1, .func (.func 113) #[] #[.pointer (some ⟨b_a1_c0, 0, none⟩)]), (7, .int .i64 (a0.length : Int)), (8, .int .i64 (i2 : Int))]) (L' := (.blk b_a1_c0 (enc (CausalR.mk a1_c0 s_a1_c0_2)) 45) :: L) ⟨rfl, rfl, rfl, rfl, trivial⟩ rfl ?_
  rcases k2 with _ | k2
  · have hc2 : decide ((i2 : Int) < (a0.length : Int)) = false := decide_eq_false (by omega)
    replace H := rangeM_end H
    refine Cd.seq ?_
    refine Cd.region ?_
    refine Lst.run rfl rfl (by decide) (Ev.lss rfl rfl) ?_
    refine Lst.nil ?_
    refine At.then ?_
    refine Cd.seq ?_
    refine Cd.condF rfl hc2 ?_
    refine Cd.exit ?_
    refine At.then_exit ?_
    refine At.then_exit ?_
    refine At.in_exit ?_
    subst H
    replace H := HKl2
    refine At.then ?_
    refine Cd.seq ?_
    refine Cd.region ?_
    refine Lst.run rfl rfl (by decide) (Ev.assign rfl) ?_
    refine Lst.nil ?_
    refine At.then ?_
    obtain rfl := some_inj H
    refine Cd.ret ?_
    exact At.ret1 rfl (Res.tmp rfl) hF4 (List.Sublist.cons_cons _ (List.Sublist.refl _)) ⟨rfl, rfl⟩
  have hc2 : decide ((i2 : Int) < (a0.length : Int)) = true := decide_eq_true (by omega)
  obtain ⟨c2, H, hgo2, hbrk2, hret2⟩ := rangeM_go H
  unfold slices_IndexFunc_api_Mail_api_Mail_Hear_3_v2_B0 at H
  try dsimp only at H
  refine Cd.seq ?_
  refine Cd.region ?_
  refine Lst.run rfl rfl (by decide) (Ev.lss rfl rfl) ?_
  refine Lst.nil ?_
  refine At.then ?_
  refine Cd.seq ?_
  refine Cd.condT rfl hc2 ?_
  refine Cd.skip ?_
  refine At.then ?_
  refine Cd.seq ?_
  refine Cd.block ?_
  refine Cd.seq ?_
  refine Cd.region ?_
  refine Lst.run rfl rfl (by decide) (Ev.move rfl) ?_
  refine Lst.run rfl rfl (by decide) (Ev.assign rfl) ?_
  refine Lst.nil ?_
  refine At.then ?_
  refine Cd.seq ?_
  refine Cd.region ?_
  refine Lst.run rfl rfl (by decide) (Ev.move rfl) ?_
  refine Lst.run rfl rfl (by decide) (Ev.move rfl) ?_
  refine Lst.run rfl rfl (by decide) (Ev.move rfl) ?_
  obtain ⟨x5, h6, H⟩ := bind_some H
  have g7 := lat_some h6
  refine Lst.run rfl rfl (by decide) (Ev.indexS (α := Mail) (xs := a0) rfl rfl Try.runUnderlying43 Try.sizeOf47 rfl (by decide) (hs_a0.mono hF4 (List.Sublist.cons _ hM)) g7.1 g7.2.1) ?_
  refine Lst.run rfl rfl (by decide) (Ev.loadSA (α := Mail) rfl (hs_a0.mono hF4 (List.Sublist.cons _ hM)) Try.isAgg47 Try.sizeOf47 (ch := enc x5) (Enc.len _) (by decide) ((Get.elemN (s := 8) (x := x5) rfl g7.2.2 (Get.here _)).off (by omega))) ?_
  obtain ⟨r8, h9, H⟩ := bind_some H
  refine Lst.callV1 rfl rfl (by decide) (vs := [.agg (enc x5).toArray]) (cs := [.pointer (some ⟨b_a1_c0, 0, none⟩)]) rfl ⟨rfl, trivial⟩ Try.call113 (causal_Hear_3_v2_sim h9 w0 _ M _ hM) ?_
  refine Lst.nil ?_
  refine At.then ?_
  rcases Bool.eq_false_or_eq_true r8 with hb12 | hb12
  · replace H := ite_t hb12 H
    refine Cd.condT rfl hb12 ?_
    refine Cd.seq ?_
    refine Cd.region ?_
    refine Lst.run rfl rfl (by decide) (Ev.move rfl) ?_
    refine Lst.run rfl rfl (by decide) (Ev.assign rfl) ?_
    refine Lst.nil ?_
    refine At.then ?_
    have H := hret2 _ (some_inj H).symm
    subst H
    replace H := HKl2
    obtain rfl := some_inj H
    refine Cd.ret ?_
    refine At.in_ret ?_
    refine At.then_ret ?_
    refine At.then_ret ?_
    refine At.in_ret ?_
    refine At.then_ret ?_
    exact At.ret1 rfl (Res.tmp rfl) hF4 (List.Sublist.cons_cons _ (List.Sublist.refl _)) ⟨rfl, rfl⟩
  replace H := ite_f hb12 H
  refine Cd.condF rfl hb12 ?_
  refine Cd.skip ?_
  refine At.in_normal ?_
  refine At.then ?_
  refine Cd.region ?_
  refine Lst.run rfl rfl (by decide) (Ev.incr (by omega) rfl rfl) ?_
  refine Lst.run rfl rfl (by decide) (Ev.move rfl) ?_
  refine Lst.nil ?_
  exact At.meet (i2 + 1, k2, ()) hF4 ⟨rfl, rfl, rfl, rfl, trivial⟩ rfl ⟨⟨hgo2 _ (some_inj H).symm, by omega⟩, Nat.lt_succ_self _⟩
set_option maxRecDepth 20000 in
theorem slices_DeleteFunc_api_Mail_api_Mail_Hear_3_v2_sim {fu : Nat} {a0 : List Mail} {a1_c0 : Causal} {s_a0 : Sl} {s_a1_c0_2 : Sl} {b_a1_c0 : Nat} {r : (List Mail)} (H : slices_DeleteFunc_api_Mail_api_Mail_Hear_3_v2 fu a0 a1_c0 = some r) (w0 : World) (F : Frz) (M L : List Item) (hM : M.Sublist L) : Ok Try.prog w0 112 [Sl.v s_a0, .func (.func 113) #[] #[.pointer (some ⟨b_a1_c0, 0, none⟩)]] F ((.own s_a0 47 8 (encs a0)) :: (.blk b_a1_c0 (enc (CausalR.mk a1_c0 s_a1_c0_2)) 45) :: L) (fun _ L' v => ∃ (s41 : Sl), v = Sl.v s41 ∧ L' = (.own s41 47 8 (encs r)) :: (.blk b_a1_c0 (enc (CausalR.mk a1_c0 s_a1_c0_2)) 45) :: L) := by
  unfold slices_DeleteFunc_api_Mail_api_Mail_Hear_3_v2 at H
  refine Ok.enter (m := 2) (n := 42) Try.func112 rfl rfl rfl (by decide) ?_
  refine Cd.env (e' := [(0, Sl.v s_a0), (1, .func (.func 113) #[] #[.pointer (some ⟨b_a1_c0, 0, none⟩)])]) rfl ?_
  refine Cd.seq ?_
  refine Cd.region ?_
  refine Lst.addNil 47 8 ?_
  refine Lst.run rfl rfl (by decide) (Ev.assign rfl) ?_
  refine Lst.nil ?_
  refine At.then ?_
  refine Cd.seq ?_
  refine Cd.region ?_
  refine Lst.run rfl rfl (by decide) (Ev.move rfl) ?_
  refine Lst.run rfl rfl (by decide) (Ev.move rfl) ?_
  obtain ⟨r4, h5, H⟩ := bind_some H
  refine Lst.front (i := 2) rfl (L' := (.blk b_a1_c0 (enc (CausalR.mk a1_c0 s_a1_c0_2)) 45) :: (.own Sl.nil 47 8 (encs ([] : List Mail))) :: (.own s_a0 47 8 (encs a0)) :: L) rfl ?_
  refine Lst.call1 rfl rfl (by decide) (vs := [Sl.v s_a0, .func (.func 113) #[] #[.pointer (some ⟨b_a1_c0, 0, none⟩)]]) ⟨rfl, rfl, trivial⟩ Try.call109 (slices_IndexFunc_api_Mail_api_Mail_Hear_3_v2_sim h5 w0 _ _ _ (List.Sublist.refl _) (Rd.own (i := 1) rfl rfl rfl)) ?_
  refine Lst.run rfl rfl (by decide) (Ev.assign rfl) ?_
  refine Lst.nil ?_
  refine At.then ?_
  refine Cd.seq ?_
  refine Cd.seq ?_
  refine Cd.region ?_
  refine Lst.run rfl rfl (by decide) (Ev.move rfl) ?_
  refine Lst.run rfl rfl (by decide) (Ev.eql rfl rfl) ?_
  refine Lst.nil ?_
  refine At.then ?_
  rcases Bool.eq_false_or_eq_true (r4 == (-1 : Int)) with hb8 | hb8
  · replace H := ite_t hb8 H
    refine Cd.condT rfl hb8 ?_
    refine Cd.seq ?_
    refine Cd.region ?_
    refine Lst.run rfl rfl (by decide) (Ev.move rfl) ?_
    refine Lst.run rfl rfl (by decide) (Ev.assign rfl) ?_
    refine Lst.nil ?_
    refine At.then ?_
    obtain rfl := some_inj H
    refine Cd.ret ?_
    refine At.then_ret ?_
    refine At.front (i := 2) rfl rfl ?_
    exact At.ret1 rfl (Res.tmp rfl) (FLe.refl _) (List.Sublist.cons_cons _ (List.Sublist.cons_cons _ (List.Sublist.cons _ (List.Sublist.refl _)))) ⟨s_a0, rfl, rfl⟩
  replace H := ite_f hb8 H
  refine Cd.condF rfl hb8 ?_
  refine Cd.skip ?_
  refine At.then ?_
  refine Cd.seq ?_
  refine Cd.seq ?_
  refine Cd.region ?_
  refine Lst.run rfl rfl (by decide) (Ev.move rfl) ?_
  refine Lst.run rfl rfl (by decide) (Ev.add rfl rfl) ?_
  refine Lst.run rfl rfl (by decide) (Ev.assign rfl) ?_
  refine Lst.nil ?_
  refine At.then ?_
  refine Cd.block ?_
  obtain ⟨ol9, H, HKl9⟩ := andThen_some H
  refine Cd.loop (σ := Nat × Int × Int × Sl × (List Mail)) (fun (k9, y10, y11, s12, l13) => [(0, Sl.v s12), (1, .func (.func 113) #[] #[.pointer (some ⟨b_a1_c0, 0, none⟩)]), (5, .int .i64 y10), (6, .int .i64 y11)]) (fun (k9, y10, y11, s12, l13) => (.blk b_a1_c0 (enc (CausalR.mk a1_c0 s_a1_c0_2)) 45) :: (.own Sl.nil 47 8 (encs ([] : List Mail))) :: (.own s12 47 8 (encs l13)) :: L) (fun _ => (fun (k9, y10, y11, s12, l13) => whileM (slices_DeleteFunc_api_Mail_api_Mail_Hear_3_v2_B0 a1_c0) k9 (y10, y11, l13) = some ol9)) (fun (k9, y10, y11, s12, l13) => k9) (fu, r4, w64 (r4 + (1 : Int)), s_a0, a0) ⟨rfl, rfl, rfl, rfl, trivial⟩ rfl H ?_
  rintro F14 ⟨k9, y10, y11, s12, l13⟩ hF15 H
  refine Cd.as (e' := [(0, Sl.v s12), (1, .func (.func 113) #[] #[.pointer (some ⟨b_a1_c0, 0, none⟩)]), (5, .int .i64 y10), (6, .int .i64 y11)]) (L' := (.blk b_a1_c0 (enc (CausalR.mk a1_c0 s_a1_c0_2)) 45) :: (.own Sl.nil 47 8 (encs ([] : List Mail))) :: (.own s12 47 8 (encs l13)) :: L) ⟨rfl, rfl, rfl, rfl, trivial⟩ rfl ?_
  rcases k9 with _ | k9
  · cases H
  obtain ⟨c9, H, hgo9, hbrk9, hret9⟩ := whileM_go H
  unfold slices_DeleteFunc_api_Mail_api_Mail_Hear_3_v2_B0 at H
  try dsimp only at H
  refine Cd.seq ?_
  refine Cd.seq ?_
  refine Cd.region ?_
  refine Lst.run rfl rfl (by decide) (Ev.move rfl) ?_
  refine Lst.run rfl rfl (by decide) (Ev.move rfl) ?_
  refine Lst.run rfl rfl (by decide) (Ev.lenS (α := Mail) (xs := l13) (by decide) rfl rfl Try.runUnderlying43 (Rd.own (i := 2) rfl rfl rfl)) ?_
  refine Lst.run rfl rfl (by decide) (Ev.lss rfl rfl) ?_
  refine Lst.nil ?_
  refine At.then ?_
  rcases (Bool.eq_false_or_eq_true (decide (y11 < (l13.length : Int)))).symm with hb16 | hb16
  · replace H := ite_f hb16 H
    refine Cd.condF rfl hb16 ?_
    refine Cd.exit ?_
    refine At.then_exit ?_
    refine At.then_exit ?_
    refine At.in_exit ?_
    have H := hbrk9 _ (some_inj H).symm
    subst H
    replace H := HKl9
    refine At.then ?_
    refine Cd.seq ?_
    refine Cd.region ?_
    refine Lst.run rfl rfl (by decide) (Ev.move rfl) ?_
    refine Lst.run rfl rfl (by decide) (Ev.move rfl) ?_
    obtain ⟨m17, h18, H⟩ := bind_some H
    obtain ⟨g19, gl20⟩ := cutL_some h18
    refine Lst.run rfl rfl (by decide) (Ev.cut (α := Mail) (xs := l13) (i := y10) (j := (l13.length : Int)) rfl rfl rfl Try.runUnderlying43 Try.sizeOf47 rfl (by decide) (Rd.own (i := 2) rfl rfl rfl) g19.1 g19.2.1 g19.2.2) ?_
    refine Lst.clearView (α := Mail) (i := 2) (lo := (y10 : Int).toNat) (hi := ((l13.length : Int) : Int).toNat) (xs := l13) rfl rfl rfl Try.runUnderlying43 Try.zeroValue47 Mail.zero rfl rfl (by decide) rfl rfl (by omega) (by omega) ?_
    refine Lst.its (L' := (.blk b_a1_c0 (enc (CausalR.mk a1_c0 s_a1_c0_2)) 45) :: (.own Sl.nil 47 8 (encs ([] : List Mail))) :: (.own s12 47 8 (encs (clearL l13 (y10 : Int).toNat ((l13.length : Int) : Int).toNat Mail.zero))) :: L) rfl ?_
    refine Lst.nil ?_
    refine At.then ?_
    refine Cd.seq ?_
    refine Cd.region ?_
    refine Lst.run rfl rfl (by decide) (Ev.move rfl) ?_
    refine Lst.run rfl rfl (by decide) (Ev.move rfl) ?_
    obtain ⟨m21, h22, H⟩ := bind_some H
    obtain ⟨g23, gl24⟩ := cutL_some h22
    refine Lst.run rfl rfl (by decide) (Ev.cut (α := Mail) (xs := (clearL l13 (y10 : Int).toNat ((l13.length : Int) : Int).toNat Mail.zero)) (i := 0) (j := y10) rfl rfl rfl Try.runUnderlying43 Try.sizeOf47 rfl (by decide) (Rd.own (i := 2) rfl rfl rfl) g23.1 g23.2.1 g23.2.2) ?_
    refine Lst.cutOwn (i := 2) (α := Mail) (lo := (0 : Int).toNat) (hi := (y10 : Int).toNat) rfl rfl rfl (by decide) (by omega) (by omega) (L' := (.blk b_a1_c0 (enc (CausalR.mk a1_c0 s_a1_c0_2)) 45) :: (.own Sl.nil 47 8 (encs ([] : List Mail))) :: (.own (s12.cut (0 : Int).toNat (y10 : Int).toNat 8) 47 8 (encs m21)) :: L) (by subst gl24; rfl) ?_
    refine Lst.run rfl rfl (by decide) (Ev.assign rfl) ?_
    refine Lst.nil ?_
    refine At.then ?_
    obtain rfl := some_inj H
    refine Cd.ret ?_
    refine At.front (i := 2) rfl rfl ?_
    exact At.ret1 rfl (Res.tmp rfl) hF15 (List.Sublist.cons_cons _ (List.Sublist.cons_cons _ (List.Sublist.cons _ (List.Sublist.refl _)))) ⟨(s12.cut (0 : Int).toNat (y10 : Int).toNat 8), rfl, rfl⟩
  replace H := ite_t hb16 H
  refine Cd.condT rfl hb16 ?_
  refine Cd.skip ?_
  refine At.then ?_
  refine Cd.seq ?_
  refine Cd.block ?_
  refine Cd.seq ?_
  refine Cd.region ?_
  refine Lst.run rfl rfl (by decide) (Ev.move rfl) ?_
  refine Lst.run rfl rfl (by decide) (Ev.move rfl) ?_
  obtain ⟨x26, h27, H⟩ := bind_some H
  have g28 := lat_some h27
  refine Lst.run rfl rfl (by decide) (Ev.indexS (α := Mail) (xs := l13) rfl rfl Try.runUnderlying43 Try.sizeOf47 rfl (by decide) (Rd.own (i := 2) rfl rfl rfl) g28.1 g28.2.1) ?_
  refine Lst.run rfl rfl (by decide) (Ev.loadSA (α := Mail) rfl (Rd.own (i := 2) rfl rfl rfl) Try.isAgg47 Try.sizeOf47 (ch := enc x26) (Enc.len _) (by decide) ((Get.elemN (s := 8) (x := x26) rfl g28.2.2 (Get.here _)).off (by omega))) ?_
  refine Lst.alloc (cs := enc Mail.zero) rfl rfl (by decide) Try.zeroValue47 rfl (fun b29 => ?_)
  refine Lst.store (i := 0) rfl rfl rfl rfl rfl Try.sizeOf47 (vs := enc x26) rfl (Enc.len _) (Enc.one _) (cs' := enc x26) (Put.here ((Enc.len _).trans (Enc.len _).symm)) (L' := (.blk b29 (enc x26) 47) :: (.blk b_a1_c0 (enc (CausalR.mk a1_c0 s_a1_c0_2)) 45) :: (.own Sl.nil 47 8 (encs ([] : List Mail))) :: (.own s12 47 8 (encs l13)) :: L) rfl ?_
  refine Lst.nil ?_
  refine At.then ?_
  refine Cd.seq ?_
  refine Cd.region ?_
  refine Lst.run rfl rfl (by decide) (Ev.move rfl) ?_
  refine Lst.run rfl rfl (by decide) (Ev.loadA (i := 0) rfl rfl Try.isAgg47 Try.sizeOf47 (ch := enc x26) (Enc.len _) (Get.here _)) ?_
  obtain ⟨r31, h32, H⟩ := bind_some H
  refine Lst.front (i := 1) rfl (L' := (.blk b_a1_c0 (enc (CausalR.mk a1_c0 s_a1_c0_2)) 45) :: (.blk b29 (enc x26) 47) :: (.own Sl.nil 47 8 (encs ([] : List Mail))) :: (.own s12 47 8 (encs l13)) :: L) rfl ?_
  refine Lst.callV1 rfl rfl (by decide) (vs := [.agg (enc x26).toArray]) (cs := [.pointer (some ⟨b_a1_c0, 0, none⟩)]) rfl ⟨rfl, trivial⟩ Try.call113 (causal_Hear_3_v2_sim h32 w0 _ M _ (List.Sublist.cons _ (List.Sublist.cons _ (List.Sublist.cons _ hM)))) ?_
  refine Lst.run rfl rfl (by decide) (Ev.not rfl) ?_
  refine Lst.nil ?_
  refine At.then ?_
  rcases (Bool.eq_false_or_eq_true (!r31)).symm with hb35 | hb35
  · replace H := ite_f hb35 H
    refine Cd.condF rfl hb35 ?_
    refine Cd.skip ?_
    refine At.in_normal ?_
    refine At.then ?_
    refine Cd.region ?_
    refine Lst.run rfl rfl (by decide) (Ev.move rfl) ?_
    refine Lst.run rfl rfl (by decide) (Ev.add rfl rfl) ?_
    refine Lst.run rfl rfl (by decide) (Ev.assign rfl) ?_
    refine Lst.nil ?_
    refine At.less (L' := (.blk b_a1_c0 (enc (CausalR.mk a1_c0 s_a1_c0_2)) 45) :: (.own Sl.nil 47 8 (encs ([] : List Mail))) :: (.own s12 47 8 (encs l13)) :: L) (List.Sublist.cons_cons _ (List.Sublist.cons _ (List.Sublist.cons_cons _ (List.Sublist.cons_cons _ (List.Sublist.refl _))))) ?_
    exact At.meet (k9, y10, w64 (y11 + (1 : Int)), s12, l13) hF15 ⟨rfl, rfl, rfl, rfl, trivial⟩ rfl ⟨hgo9 _ (some_inj H).symm, Nat.lt_succ_self _⟩
  replace H := ite_t hb35 H
  refine Cd.condT rfl hb35 ?_
  refine Cd.seq ?_
  refine Cd.region ?_
  refine Lst.run rfl rfl (by decide) (Ev.move rfl) ?_
  refine Lst.run rfl rfl (by decide) (Ev.move rfl) ?_
  refine Lst.run rfl rfl (by decide) (Ev.loadA (i := 1) rfl rfl Try.isAgg47 Try.sizeOf47 (ch := enc x26) (Enc.len _) (Get.here _)) ?_
  obtain ⟨x36, h37, H⟩ := bind_some H
  have g38 := lat_some h37
  refine Lst.run rfl rfl (by decide) (Ev.indexS (α := Mail) (xs := l13) rfl rfl Try.runUnderlying43 Try.sizeOf47 rfl (by decide) (Rd.own (i := 3) rfl rfl rfl) g38.1 g38.2.1) ?_
  obtain ⟨p39, h40, H⟩ := Let_some H
  refine Lst.storeS (i := 3) rfl rfl rfl rfl rfl Try.sizeOf47 (vs := enc x26) rfl (Enc.len _) (by decide) (Enc.one _) (xs' := encs p39) (by rw [← h40]; exact (Put.elemN (s := 8) (x := x36) rfl g38.2.2 (Put.here ((Enc.len _).trans (Enc.len _).symm))).off (by omega)) (L' := (.blk b_a1_c0 (enc (CausalR.mk a1_c0 s_a1_c0_2)) 45) :: (.blk b29 (enc x26) 47) :: (.own Sl.nil 47 8 (encs ([] : List Mail))) :: (.own s12 47 8 (encs p39)) :: L) rfl ?_
  refine Lst.nil ?_
  refine At.then ?_
  refine Cd.as (e' := [(0, Sl.v s12), (1, .func (.func 113) #[] #[.pointer (some ⟨b_a1_c0, 0, none⟩)]), (5, .int .i64 y10), (6, .int .i64 y11)]) (L' := (.blk b_a1_c0 (enc (CausalR.mk a1_c0 s_a1_c0_2)) 45) :: (.blk b29 (enc x26) 47) :: (.own Sl.nil 47 8 (encs ([] : List Mail))) :: (.own s12 47 8 (encs p39)) :: L) ⟨rfl, rfl, rfl, rfl, trivial⟩ rfl ?_
  refine Cd.region ?_
  refine Lst.run rfl rfl (by decide) (Ev.move rfl) ?_
  refine Lst.run rfl rfl (by decide) (Ev.add rfl rfl) ?_
  refine Lst.run rfl rfl (by decide) (Ev.assign rfl) ?_
  refine Lst.nil ?_
  refine At.in_normal ?_
  refine At.then ?_
  refine Cd.region ?_
  refine Lst.run rfl rfl (by decide) (Ev.move rfl) ?_
  refine Lst.run rfl rfl (by decide) (Ev.add rfl rfl) ?_
  refine Lst.run rfl rfl (by decide) (Ev.assign rfl) ?_
  refine Lst.nil ?_
  refine At.less (L' := (.blk b_a1_c0 (enc (CausalR.mk a1_c0 s_a1_c0_2)) 45) :: (.own Sl.nil 47 8 (encs ([] : List Mail))) :: (.own s12 47 8 (encs p39)) :: L) (List.Sublist.cons_cons _ (List.Sublist.cons _ (List.Sublist.cons_cons _ (List.Sublist.cons_cons _ (List.Sublist.refl _))))) ?_
  exact At.meet (k9, w64 (y10 + (1 : Int)), w64 (y11 + (1 : Int)), s12, p39) hF15 ⟨rfl, rfl, rfl, rfl, trivial⟩ rfl ⟨hgo9 _ (some_inj H).symm, Nat.lt_succ_self _⟩
end Go.Proofs.Ytobikknjaomalaa
