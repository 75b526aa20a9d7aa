/-
  The functions compute their specs; printed by a program.
-/
import Derived.Test.YtnljiedichjagaaSyP1
namespace Go.Proofs.Ytnljiedichjagaa
open Go.RowKit Enc
set_option linter.unusedVariables false
set_option linter.unusedSimpArgs false
set_option maxRecDepth 20000 in
theorem slices_insertionSortOrdered_string_sim {fu : Nat} {a0 : List Str} {a1 : Int} {a2 : Int} {s_a0 : Sl} {r : (List Str)} (H : slices_insertionSortOrdered_string fu a0 a1 a2 = some r) (w0 : World) (F : Frz) (M L : List Item) (hM : M.Sublist L) : Ok Try.prog w0 115 [Sl.v s_a0, iv a1, iv a2] F ((.own s_a0 9 1 (encs a0)) :: L) (fun _ L' v => v = .tuple #[] ∧ L' = (.own s_a0 9 1 (encs r)) :: L) := by
 unfold slices_insertionSortOrdered_string at H
 refine Ok.enter (m := 3) (n := 49) Try.func115 rfl rfl rfl (by decide) ?_
 refine Cd.env (e' := [(0, Sl.v s_a0), (1, iv a1), (2, iv a2)]) rfl ?_
 refine Cd.seq ?_
 refine Cd.region ?_
 refine Lst.r (Ev.move rfl) ?_
 refine Lst.r (Ev.add rfl rfl) ?_
 refine Lst.r (Ev.assign rfl) ?_
 refine Lst.nil ?_
 refine At.then ?_
 refine Cd.block ?_
 obtain ⟨ol2, H, HKl2⟩ := andThen_some H
 refine Cd.loop (σ := Nat × Int × (List Str)) (fun (k2, y3, l4) => [(0, Sl.v s_a0), (1, iv a1), (2, iv a2), (6, iv y3)]) (fun (k2, y3, l4) => (.own s_a0 9 1 (encs l4)) :: L) (fun _ => (fun (k2, y3, l4) => whileM (slices_insertionSortOrdered_string_B0 fu a1 a2) k2 (y3, l4) = some ol2)) (fun (k2, y3, l4) => k2) (fu, w64 (a1 + (1 : Int)), a0) ⟨rfl, rfl, rfl, rfl, trivial⟩ rfl H ?_
 rintro F5 ⟨k2, y3, l4⟩ hF6 H
 refine Cd.as (e' := [(0, Sl.v s_a0), (1, iv a1), (2, iv a2), (6, iv y3)]) (L' := (.own s_a0 9 1 (encs l4)) :: L) ⟨rfl, rfl, rfl, rfl, trivial⟩ rfl ?_
 rcases k2 with _ | k2
 ·cases H
 obtain ⟨c2, H, hgo2, hbrk2, hret2⟩ := whileM_go H
 unfold slices_insertionSortOrdered_string_B0 at H
 try dsimp only at H
 refine Cd.seq ?_
 refine Cd.seq ?_
 refine Cd.region ?_
 refine Lst.r (Ev.move rfl) ?_
 refine Lst.r (Ev.move rfl) ?_
 refine Lst.r (Ev.lss rfl rfl) ?_
 refine Lst.nil ?_
 refine At.then ?_
 rcases (Bool.eq_false_or_eq_true (decide (y3 < a2))).symm with hb7 | hb7
 ·replace H := ite_f hb7 H
  refine Cd.condF rfl hb7 ?_
  refine Cd.exit ?_
  refine At.then_exit ?_
  refine At.then_exit ?_
  refine At.in_exit ?_
  have H := hbrk2 _ (some_inj H).symm
  subst H
  replace H := HKl2
  obtain rfl := some_inj H
  exact At.ret0 (.inr rfl) rfl hF6 (sk1 (.refl _)) ⟨rfl, rfl⟩
 replace H := ite_t hb7 H
 refine Cd.condT rfl hb7 ?_
 refine Cd.skip ?_
 refine At.then ?_
 refine Cd.seq ?_
 refine Cd.block ?_
 refine Cd.seq ?_
 refine Cd.region ?_
 refine Lst.r (Ev.move rfl) ?_
 refine Lst.r (Ev.assign rfl) ?_
 refine Lst.nil ?_
 refine At.then ?_
 refine Cd.block ?_
 obtain ⟨ol8, H, HKl8⟩ := andThen_some H
 refine Cd.loop (σ := Nat × Int × (List Str)) (fun (k8, y9, l10) => [(0, Sl.v s_a0), (1, iv a1), (2, iv a2), (6, iv y3), (7, iv y9)]) (fun (k8, y9, l10) => (.own s_a0 9 1 (encs l10)) :: L) (fun _ => (fun (k8, y9, l10) => whileM (slices_insertionSortOrdered_string_B2 a1) k8 (y9, l10) = some ol8)) (fun (k8, y9, l10) => k8) (fu, y3, l4) ⟨rfl, rfl, rfl, rfl, rfl, trivial⟩ rfl H ?_
 rintro F11 ⟨k8, y9, l10⟩ hF12 H
 refine Cd.as (e' := [(0, Sl.v s_a0), (1, iv a1), (2, iv a2), (6, iv y3), (7, iv y9)]) (L' := (.own s_a0 9 1 (encs l10)) :: L) ⟨rfl, rfl, rfl, rfl, rfl, trivial⟩ rfl ?_
 rcases k8 with _ | k8
 ·cases H
 obtain ⟨c8, H, hgo8, hbrk8, hret8⟩ := whileM_go H
 unfold slices_insertionSortOrdered_string_B2 at H
 try dsimp only at H
 refine Cd.seq ?_
 refine Cd.seq ?_
 refine Cd.quiet (by kernel_rfl) (by kernel_rfl) ?_
 refine Qt.r (Ev.move rfl) ?_
 refine Qt.r (Ev.move rfl) ?_
 refine Qt.r (Ev.gtr rfl rfl) ?_
 refine Qt.r (Ev.move rfl) ?_
 obtain ⟨o13, H, HKo13⟩ := bind_some H
 refine Qt.join (σ := Bool) 11 (fun y14 => [(0, Sl.v s_a0), (1, iv a1), (2, iv a2), (6, iv y3), (7, iv y9), (30, .bool y14)]) (fun y14 => y14 = o13) ?_ ?_
 ·rcases (Bool.eq_false_or_eq_true (decide (y9 > a1))).symm with hb15 | hb15
  ·replace H := ite_f hb15 H
   refine Qt.skip rfl rfl rfl hb15 rfl (by decide) ?_
   refine Qt.skip rfl rfl rfl hb15 rfl (by decide) ?_
   refine Qt.skip rfl rfl rfl hb15 rfl (by decide) ?_
   refine Qt.skip rfl rfl rfl hb15 rfl (by decide) ?_
   refine Qt.skip rfl rfl rfl hb15 rfl (by decide) ?_
   refine Qt.skip rfl rfl rfl hb15 rfl (by decide) ?_
   refine Qt.skip rfl rfl rfl hb15 rfl (by decide) ?_
   refine Qt.skip rfl rfl rfl hb15 rfl (by decide) ?_
   refine Qt.skip rfl rfl rfl hb15 rfl (by decide) ?_
   refine Qt.skip rfl rfl rfl hb15 rfl (by decide) ?_
   refine Qt.r (Ev.pickF rfl hb15 rfl) ?_
   exact Qt.meet false ⟨rfl, rfl, rfl, rfl, rfl, rfl, trivial⟩ (some_inj H)
  replace H := ite_t hb15 H
  refine Qt.rG hb15 (Ev.move rfl) ?_
  refine Qt.rG hb15 (Ev.move rfl) ?_
  obtain ⟨x16, h17, H⟩ := bind_some H
  have g18 := lat_some h17
  refine Qt.rG hb15 (Ev.indexS (α := Str) (xs := l10) rfl rfl Try.runUnderlying50 Try.sizeOf9 rfl (by decide) (Rd.own (i := 0) rfl rfl rfl) g18.1 g18.2.1) ?_
  refine Qt.rG hb15 (Ev.loadS (α := Str) rfl (Rd.own (i := 0) rfl rfl rfl) Try.isAgg9 (v := Str.v x16) ((Get.elemN (s := 1) (x := x16) rfl g18.2.2 (Get.here _)).off (by omega))) ?_
  refine Qt.rG hb15 (Ev.move rfl) ?_
  refine Qt.rG hb15 (Ev.move rfl) ?_
  refine Qt.rG hb15 (Ev.sub rfl rfl) ?_
  obtain ⟨x19, h20, H⟩ := bind_some H
  have g21 := lat_some h20
  refine Qt.rG hb15 (Ev.indexS (α := Str) (xs := l10) rfl rfl Try.runUnderlying50 Try.sizeOf9 rfl (by decide) (Rd.own (i := 0) rfl rfl rfl) g21.1 g21.2.1) ?_
  refine Qt.rG hb15 (Ev.loadS (α := Str) rfl (Rd.own (i := 0) rfl rfl rfl) Try.isAgg9 (v := Str.v x19) ((Get.elemN (s := 1) (x := x19) rfl g21.2.2 (Get.here _)).off (by omega))) ?_
  obtain ⟨r22, h23, H⟩ := bind_some H
  refine Qt.callG rfl rfl rfl hb15 rfl (by decide) (vs := [Str.v x16, Str.v x19]) ⟨rfl, rfl, trivial⟩ Try.call121 (cmp_Less_string_sim h23 w0 _ M _ (sc1 hM)) ?_
  refine Qt.r (Ev.pickT rfl hb15 rfl) ?_
  exact Qt.meet r22 ⟨rfl, rfl, rfl, rfl, rfl, rfl, trivial⟩ (some_inj H)
 rintro y14 hy
 subst hy
 refine Qt.as (e' := [(0, Sl.v s_a0), (1, iv a1), (2, iv a2), (6, iv y3), (7, iv y9), (30, .bool y14)]) ⟨rfl, rfl, rfl, rfl, rfl, rfl, trivial⟩ ?_
 replace H := HKo13
 refine Qt.done ?_
 refine At.then ?_
 rcases (Bool.eq_false_or_eq_true y14).symm with hb26 | hb26
 ·replace H := ite_f hb26 H
  refine Cd.condF rfl hb26 ?_
  refine Cd.exit ?_
  refine At.then_exit ?_
  refine At.then_exit ?_
  refine At.in_exit ?_
  have H := hbrk8 _ (some_inj H).symm
  subst H
  replace H := HKl8
  refine At.in_normal ?_
  refine At.then ?_
  refine Cd.region ?_
  refine Lst.r (Ev.move rfl) ?_
  refine Lst.r (Ev.add rfl rfl) ?_
  refine Lst.r (Ev.assign rfl) ?_
  refine Lst.nil ?_
  exact At.meet (k2, w64 (y3 + (1 : Int)), l10) (FLe.trans hF6 hF12) ⟨rfl, rfl, rfl, rfl, trivial⟩ rfl ⟨hgo2 _ (some_inj H).symm, Nat.lt_succ_self _⟩
 replace H := ite_t hb26 H
 refine Cd.condT rfl hb26 ?_
 refine Cd.skip ?_
 refine At.then ?_
 refine Cd.seq ?_
 refine Cd.block ?_
 obtain ⟨x27, h28, H⟩ := bind_some H
 obtain ⟨x30, h31, H⟩ := bind_some H
 obtain ⟨x33, h34, H⟩ := bind_some H
 obtain ⟨p36, h37, H⟩ := Let_some H
 obtain ⟨o40, h41, H⟩ := Let_some H
 refine Cd.headMeet (σ := (List Str)) 16 (fun l39 => [(0, Sl.v s_a0), (1, iv a1), (2, iv a2), (6, iv y3), (7, iv y9), (35, Sl.v s_a0), (37, iv (w64 (y9 - (1 : Int)))), (46, Str.v x30)]) (fun l39 => (.own s_a0 9 1 (encs l39)) :: L) (fun _ l39 => l39 = o40) (by kernel_rfl) (by kernel_rfl) (behind_sink (by kernel_rfl) (by kernel_rfl) (by kernel_rfl)) (by kernel_rfl) (fun hsel hlt => ?_) ?_
 ·refine HdJ.keep (fun w => St w0 F11 (L) w) (fun w h => trivial) ?_
  refine HdJ.tk hsel hlt 0 (fun w h => h.sublist (sc1 (.refl _))) rfl (Ev.move rfl) ?_
  refine HdJ.tk hsel hlt 1 (fun w h => h.sublist (sc1 (.refl _))) rfl (Ev.move rfl) ?_
  refine HdJ.tk hsel hlt 2 (fun w h => h.sublist (sc1 (.refl _))) rfl (Ev.move rfl) ?_
  refine HdJ.tk hsel hlt 3 (fun w h => h.sublist (sc1 (.refl _))) rfl (Ev.move rfl) ?_
  refine HdJ.tk hsel hlt 4 (fun w h => h.sublist (sc1 (.refl _))) rfl (Ev.sub rfl rfl) ?_
  refine HdJ.tk hsel hlt 5 (fun w h => h.sublist (sc1 (.refl _))) rfl (Ev.move rfl) ?_
  refine HdJ.tk hsel hlt 6 (fun w h => h.sublist (sc1 (.refl _))) rfl (Ev.move rfl) ?_
  refine HdJ.tk hsel hlt 7 (fun w h => h.sublist (sc1 (.refl _))) rfl (Ev.sub rfl rfl) ?_
  refine HdJ.tk hsel hlt 10 (fun w h => h.sublist (sc1 (.refl _))) rfl (Ev.move rfl) ?_
  refine HdJ.tk hsel hlt 11 (fun w h => h.sublist (sc1 (.refl _))) rfl (Ev.move rfl) ?_
  refine HdJ.step [8, 12] (by kernel_rfl) rfl ?_
  refine HdStep.c (fun inv => ?_) ?_
  ·have g42 := lat_some h28
   refine Lst.r (Ev.indexS (α := Str) (xs := l10) rfl rfl Try.runUnderlying50 Try.sizeOf9 rfl (by decide) (Rd.own (i := 0) rfl rfl rfl) g42.1 g42.2.1) ?_
   refine Lst.nil ?_
   refine At.hd inv (fun w h => (h.weaken (FLe.refl _)).sublist (sc1 (.refl _))) ?_
   refine HdJ.step [9, 12] (by kernel_rfl) rfl ?_
   refine HdStep.c (fun inv => ?_) ?_
   ·refine Lst.r (Ev.loadS (α := Str) rfl (Rd.own (i := 0) rfl rfl rfl) Try.isAgg9 (v := Str.v x27) ((Get.elemN (s := 1) (x := x27) rfl g42.2.2 (Get.here _)).off (by omega))) ?_
    refine Lst.nil ?_
    refine At.hd inv (fun w h => (h.weaken (FLe.refl _)).sublist (sc1 (.refl _))) ?_
    refine HdJ.step [12] (by kernel_rfl) rfl ?_
    refine HdStep.c (fun inv => ?_) ?_
    ·have g43 := lat_some h31
     refine Lst.r (Ev.indexS (α := Str) (xs := l10) rfl rfl Try.runUnderlying50 Try.sizeOf9 rfl (by decide) (Rd.own (i := 0) rfl rfl rfl) g43.1 g43.2.1) ?_
     refine Lst.nil ?_
     refine At.hd inv (fun w h => (h.weaken (FLe.refl _)).sublist (sc1 (.refl _))) ?_
     refine HdJ.step [13] (by kernel_rfl) rfl ?_
     refine HdStep.c (fun inv => ?_) ?_
     ·refine Lst.r (Ev.loadS (α := Str) rfl (Rd.own (i := 0) rfl rfl rfl) Try.isAgg9 (v := Str.v x30) ((Get.elemN (s := 1) (x := x30) rfl g43.2.2 (Get.here _)).off (by omega))) ?_
      refine Lst.nil ?_
      refine At.hd inv (fun w h => (h.weaken (FLe.refl _)).sublist (sc1 (.refl _))) ?_
      refine HdJ.step [14] (by kernel_rfl) rfl ?_
      refine HdStep.c (fun inv => ?_) ?_
      ·have g44 := lat_some h34
       refine Lst.r (Ev.indexS (α := Str) (xs := l10) rfl rfl Try.runUnderlying50 Try.sizeOf9 rfl (by decide) (Rd.own (i := 0) rfl rfl rfl) g44.1 g44.2.1) ?_
       refine Lst.nil ?_
       refine At.hd inv (fun w h => (h.weaken (FLe.refl _)).sublist (sc1 (.refl _))) ?_
       refine HdJ.step [15] (by kernel_rfl) rfl ?_
       refine HdStep.c (fun inv => ?_) ?_
       ·refine Lst.storeS (i := 0) rfl rfl rfl rfl rfl Try.sizeOf9 (vs := [Str.v x27]) rfl rfl (by decide) rfl (xs' := encs p36) (by rw [← h37]; exact (Put.elemN (s := 1) (x := x33) rfl g44.2.2 (Put.here (vs := [Str.v x27]) rfl)).off (by omega)) (L' := (.own s_a0 9 1 (encs p36)) :: L) rfl ?_
        refine Lst.nil ?_
        refine At.hd inv (fun w h => (h.weaken (FLe.refl _)).sublist (sc1 (.refl _))) ?_
        refine HdJ.done (by kernel_rfl) ?_
        exact At.meetN p36 (FLe.refl _) ⟨rfl, rfl, rfl, rfl, rfl, rfl, rfl, rfl, trivial⟩ rfl h41
       exact trivial
      exact trivial
     exact trivial
    exact trivial
   refine HdStep.c (fun inv => ?_) ?_
   ·have g45 := lat_some h31
    refine Lst.r (Ev.indexS (α := Str) (xs := l10) rfl rfl Try.runUnderlying50 Try.sizeOf9 rfl (by decide) (Rd.own (i := 0) rfl rfl rfl) g45.1 g45.2.1) ?_
    refine Lst.nil ?_
    refine At.hd inv (fun w h => (h.weaken (FLe.refl _)).sublist (sc1 (.refl _))) ?_
    refine HdJ.step [9, 13] (by kernel_rfl) rfl ?_
    refine HdStep.c (fun inv => ?_) ?_
    ·refine Lst.r (Ev.loadS (α := Str) rfl (Rd.own (i := 0) rfl rfl rfl) Try.isAgg9 (v := Str.v x27) ((Get.elemN (s := 1) (x := x27) rfl g42.2.2 (Get.here _)).off (by omega))) ?_
     refine Lst.nil ?_
     refine At.hd inv (fun w h => (h.weaken (FLe.refl _)).sublist (sc1 (.refl _))) ?_
     refine HdJ.step [13] (by kernel_rfl) rfl ?_
     refine HdStep.c (fun inv => ?_) ?_
     ·refine Lst.r (Ev.loadS (α := Str) rfl (Rd.own (i := 0) rfl rfl rfl) Try.isAgg9 (v := Str.v x30) ((Get.elemN (s := 1) (x := x30) rfl g45.2.2 (Get.here _)).off (by omega))) ?_
      refine Lst.nil ?_
      refine At.hd inv (fun w h => (h.weaken (FLe.refl _)).sublist (sc1 (.refl _))) ?_
      refine HdJ.step [14] (by kernel_rfl) rfl ?_
      refine HdStep.c (fun inv => ?_) ?_
      ·have g46 := lat_some h34
       refine Lst.r (Ev.indexS (α := Str) (xs := l10) rfl rfl Try.runUnderlying50 Try.sizeOf9 rfl (by decide) (Rd.own (i := 0) rfl rfl rfl) g46.1 g46.2.1) ?_
       refine Lst.nil ?_
       refine At.hd inv (fun w h => (h.weaken (FLe.refl _)).sublist (sc1 (.refl _))) ?_
       refine HdJ.step [15] (by kernel_rfl) rfl ?_
       refine HdStep.c (fun inv => ?_) ?_
       ·refine Lst.storeS (i := 0) rfl rfl rfl rfl rfl Try.sizeOf9 (vs := [Str.v x27]) rfl rfl (by decide) rfl (xs' := encs p36) (by rw [← h37]; exact (Put.elemN (s := 1) (x := x33) rfl g46.2.2 (Put.here (vs := [Str.v x27]) rfl)).off (by omega)) (L' := (.own s_a0 9 1 (encs p36)) :: L) rfl ?_
        refine Lst.nil ?_
        refine At.hd inv (fun w h => (h.weaken (FLe.refl _)).sublist (sc1 (.refl _))) ?_
        refine HdJ.done (by kernel_rfl) ?_
        exact At.meetN p36 (FLe.refl _) ⟨rfl, rfl, rfl, rfl, rfl, rfl, rfl, rfl, trivial⟩ rfl h41
       exact trivial
      exact trivial
     exact trivial
    refine HdStep.c (fun inv => ?_) ?_
    ·refine Lst.r (Ev.loadS (α := Str) rfl (Rd.own (i := 0) rfl rfl rfl) Try.isAgg9 (v := Str.v x30) ((Get.elemN (s := 1) (x := x30) rfl g45.2.2 (Get.here _)).off (by omega))) ?_
     refine Lst.nil ?_
     refine At.hd inv (fun w h => (h.weaken (FLe.refl _)).sublist (sc1 (.refl _))) ?_
     refine HdJ.step [9] (by kernel_rfl) rfl ?_
     refine HdStep.c (fun inv => ?_) ?_
     ·refine Lst.r (Ev.loadS (α := Str) rfl (Rd.own (i := 0) rfl rfl rfl) Try.isAgg9 (v := Str.v x27) ((Get.elemN (s := 1) (x := x27) rfl g42.2.2 (Get.here _)).off (by omega))) ?_
      refine Lst.nil ?_
      refine At.hd inv (fun w h => (h.weaken (FLe.refl _)).sublist (sc1 (.refl _))) ?_
      refine HdJ.step [14] (by kernel_rfl) rfl ?_
      refine HdStep.c (fun inv => ?_) ?_
      ·have g47 := lat_some h34
       refine Lst.r (Ev.indexS (α := Str) (xs := l10) rfl rfl Try.runUnderlying50 Try.sizeOf9 rfl (by decide) (Rd.own (i := 0) rfl rfl rfl) g47.1 g47.2.1) ?_
       refine Lst.nil ?_
       refine At.hd inv (fun w h => (h.weaken (FLe.refl _)).sublist (sc1 (.refl _))) ?_
       refine HdJ.step [15] (by kernel_rfl) rfl ?_
       refine HdStep.c (fun inv => ?_) ?_
       ·refine Lst.storeS (i := 0) rfl rfl rfl rfl rfl Try.sizeOf9 (vs := [Str.v x27]) rfl rfl (by decide) rfl (xs' := encs p36) (by rw [← h37]; exact (Put.elemN (s := 1) (x := x33) rfl g47.2.2 (Put.here (vs := [Str.v x27]) rfl)).off (by omega)) (L' := (.own s_a0 9 1 (encs p36)) :: L) rfl ?_
        refine Lst.nil ?_
        refine At.hd inv (fun w h => (h.weaken (FLe.refl _)).sublist (sc1 (.refl _))) ?_
        refine HdJ.done (by kernel_rfl) ?_
        exact At.meetN p36 (FLe.refl _) ⟨rfl, rfl, rfl, rfl, rfl, rfl, rfl, rfl, trivial⟩ rfl h41
       exact trivial
      exact trivial
     exact trivial
    exact trivial
   exact trivial
  refine HdStep.c (fun inv => ?_) ?_
  ·have g48 := lat_some h31
   refine Lst.r (Ev.indexS (α := Str) (xs := l10) rfl rfl Try.runUnderlying50 Try.sizeOf9 rfl (by decide) (Rd.own (i := 0) rfl rfl rfl) g48.1 g48.2.1) ?_
   refine Lst.nil ?_
   refine At.hd inv (fun w h => (h.weaken (FLe.refl _)).sublist (sc1 (.refl _))) ?_
   refine HdJ.step [8, 13] (by kernel_rfl) rfl ?_
   refine HdStep.c (fun inv => ?_) ?_
   ·have g49 := lat_some h28
    refine Lst.r (Ev.indexS (α := Str) (xs := l10) rfl rfl Try.runUnderlying50 Try.sizeOf9 rfl (by decide) (Rd.own (i := 0) rfl rfl rfl) g49.1 g49.2.1) ?_
    refine Lst.nil ?_
    refine At.hd inv (fun w h => (h.weaken (FLe.refl _)).sublist (sc1 (.refl _))) ?_
    refine HdJ.step [9, 13] (by kernel_rfl) rfl ?_
    refine HdStep.c (fun inv => ?_) ?_
    ·refine Lst.r (Ev.loadS (α := Str) rfl (Rd.own (i := 0) rfl rfl rfl) Try.isAgg9 (v := Str.v x27) ((Get.elemN (s := 1) (x := x27) rfl g49.2.2 (Get.here _)).off (by omega))) ?_
     refine Lst.nil ?_
     refine At.hd inv (fun w h => (h.weaken (FLe.refl _)).sublist (sc1 (.refl _))) ?_
     refine HdJ.step [13] (by kernel_rfl) rfl ?_
     refine HdStep.c (fun inv => ?_) ?_
     ·refine Lst.r (Ev.loadS (α := Str) rfl (Rd.own (i := 0) rfl rfl rfl) Try.isAgg9 (v := Str.v x30) ((Get.elemN (s := 1) (x := x30) rfl g48.2.2 (Get.here _)).off (by omega))) ?_
      refine Lst.nil ?_
      refine At.hd inv (fun w h => (h.weaken (FLe.refl _)).sublist (sc1 (.refl _))) ?_
      refine HdJ.step [14] (by kernel_rfl) rfl ?_
      refine HdStep.c (fun inv => ?_) ?_
      ·have g50 := lat_some h34
       refine Lst.r (Ev.indexS (α := Str) (xs := l10) rfl rfl Try.runUnderlying50 Try.sizeOf9 rfl (by decide) (Rd.own (i := 0) rfl rfl rfl) g50.1 g50.2.1) ?_
       refine Lst.nil ?_
       refine At.hd inv (fun w h => (h.weaken (FLe.refl _)).sublist (sc1 (.refl _))) ?_
       refine HdJ.step [15] (by kernel_rfl) rfl ?_
       refine HdStep.c (fun inv => ?_) ?_
       ·refine Lst.storeS (i := 0) rfl rfl rfl rfl rfl Try.sizeOf9 (vs := [Str.v x27]) rfl rfl (by decide) rfl (xs' := encs p36) (by rw [← h37]; exact (Put.elemN (s := 1) (x := x33) rfl g50.2.2 (Put.here (vs := [Str.v x27]) rfl)).off (by omega)) (L' := (.own s_a0 9 1 (encs p36)) :: L) rfl ?_
        refine Lst.nil ?_
        refine At.hd inv (fun w h => (h.weaken (FLe.refl _)).sublist (sc1 (.refl _))) ?_
        refine HdJ.done (by kernel_rfl) ?_
        exact At.meetN p36 (FLe.refl _) ⟨rfl, rfl, rfl, rfl, rfl, rfl, rfl, rfl, trivial⟩ rfl h41
       exact trivial
      exact trivial
     exact trivial
    refine HdStep.c (fun inv => ?_) ?_
    ·refine Lst.r (Ev.loadS (α := Str) rfl (Rd.own (i := 0) rfl rfl rfl) Try.isAgg9 (v := Str.v x30) ((Get.elemN (s := 1) (x := x30) rfl g48.2.2 (Get.here _)).off (by omega))) ?_
     refine Lst.nil ?_
     refine At.hd inv (fun w h => (h.weaken (FLe.refl _)).sublist (sc1 (.refl _))) ?_
     refine HdJ.step [9] (by kernel_rfl) rfl ?_
     refine HdStep.c (fun inv => ?_) ?_
     ·refine Lst.r (Ev.loadS (α := Str) rfl (Rd.own (i := 0) rfl rfl rfl) Try.isAgg9 (v := Str.v x27) ((Get.elemN (s := 1) (x := x27) rfl g49.2.2 (Get.here _)).off (by omega))) ?_
      refine Lst.nil ?_
      refine At.hd inv (fun w h => (h.weaken (FLe.refl _)).sublist (sc1 (.refl _))) ?_
      refine HdJ.step [14] (by kernel_rfl) rfl ?_
      refine HdStep.c (fun inv => ?_) ?_
      ·have g51 := lat_some h34
       refine Lst.r (Ev.indexS (α := Str) (xs := l10) rfl rfl Try.runUnderlying50 Try.sizeOf9 rfl (by decide) (Rd.own (i := 0) rfl rfl rfl) g51.1 g51.2.1) ?_
       refine Lst.nil ?_
       refine At.hd inv (fun w h => (h.weaken (FLe.refl _)).sublist (sc1 (.refl _))) ?_
       refine HdJ.step [15] (by kernel_rfl) rfl ?_
       refine HdStep.c (fun inv => ?_) ?_
       ·refine Lst.storeS (i := 0) rfl rfl rfl rfl rfl Try.sizeOf9 (vs := [Str.v x27]) rfl rfl (by decide) rfl (xs' := encs p36) (by rw [← h37]; exact (Put.elemN (s := 1) (x := x33) rfl g51.2.2 (Put.here (vs := [Str.v x27]) rfl)).off (by omega)) (L' := (.own s_a0 9 1 (encs p36)) :: L) rfl ?_
        refine Lst.nil ?_
        refine At.hd inv (fun w h => (h.weaken (FLe.refl _)).sublist (sc1 (.refl _))) ?_
        refine HdJ.done (by kernel_rfl) ?_
        exact At.meetN p36 (FLe.refl _) ⟨rfl, rfl, rfl, rfl, rfl, rfl, rfl, rfl, trivial⟩ rfl h41
       exact trivial
      exact trivial
     exact trivial
    exact trivial
   refine HdStep.c (fun inv => ?_) ?_
   ·refine Lst.r (Ev.loadS (α := Str) rfl (Rd.own (i := 0) rfl rfl rfl) Try.isAgg9 (v := Str.v x30) ((Get.elemN (s := 1) (x := x30) rfl g48.2.2 (Get.here _)).off (by omega))) ?_
    refine Lst.nil ?_
    refine At.hd inv (fun w h => (h.weaken (FLe.refl _)).sublist (sc1 (.refl _))) ?_
    refine HdJ.step [8] (by kernel_rfl) rfl ?_
    refine HdStep.c (fun inv => ?_) ?_
    ·have g52 := lat_some h28
     refine Lst.r (Ev.indexS (α := Str) (xs := l10) rfl rfl Try.runUnderlying50 Try.sizeOf9 rfl (by decide) (Rd.own (i := 0) rfl rfl rfl) g52.1 g52.2.1) ?_
     refine Lst.nil ?_
     refine At.hd inv (fun w h => (h.weaken (FLe.refl _)).sublist (sc1 (.refl _))) ?_
     refine HdJ.step [9] (by kernel_rfl) rfl ?_
     refine HdStep.c (fun inv => ?_) ?_
     ·refine Lst.r (Ev.loadS (α := Str) rfl (Rd.own (i := 0) rfl rfl rfl) Try.isAgg9 (v := Str.v x27) ((Get.elemN (s := 1) (x := x27) rfl g52.2.2 (Get.here _)).off (by omega))) ?_
      refine Lst.nil ?_
      refine At.hd inv (fun w h => (h.weaken (FLe.refl _)).sublist (sc1 (.refl _))) ?_
      refine HdJ.step [14] (by kernel_rfl) rfl ?_
      refine HdStep.c (fun inv => ?_) ?_
      ·have g53 := lat_some h34
       refine Lst.r (Ev.indexS (α := Str) (xs := l10) rfl rfl Try.runUnderlying50 Try.sizeOf9 rfl (by decide) (Rd.own (i := 0) rfl rfl rfl) g53.1 g53.2.1) ?_
       refine Lst.nil ?_
       refine At.hd inv (fun w h => (h.weaken (FLe.refl _)).sublist (sc1 (.refl _))) ?_
       refine HdJ.step [15] (by kernel_rfl) rfl ?_
       refine HdStep.c (fun inv => ?_) ?_
       ·refine Lst.storeS (i := 0) rfl rfl rfl rfl rfl Try.sizeOf9 (vs := [Str.v x27]) rfl rfl (by decide) rfl (xs' := encs p36) (by rw [← h37]; exact (Put.elemN (s := 1) (x := x33) rfl g53.2.2 (Put.here (vs := [Str.v x27]) rfl)).off (by omega)) (L' := (.own s_a0 9 1 (encs p36)) :: L) rfl ?_
        refine Lst.nil ?_
        refine At.hd inv (fun w h => (h.weaken (FLe.refl _)).sublist (sc1 (.refl _))) ?_
        refine HdJ.done (by kernel_rfl) ?_
        exact At.meetN p36 (FLe.refl _) ⟨rfl, rfl, rfl, rfl, rfl, rfl, rfl, rfl, trivial⟩ rfl h41
       exact trivial
      exact trivial
     exact trivial
    exact trivial
   exact trivial
  exact trivial
 rintro F54 l39 hF55 hy
 subst hy
 refine Lst.as (e' := [(0, Sl.v s_a0), (1, iv a1), (2, iv a2), (6, iv y3), (7, iv y9), (35, Sl.v s_a0), (37, iv (w64 (y9 - (1 : Int)))), (46, Str.v x30)]) (L' := (.own s_a0 9 1 (encs l39)) :: L) ⟨rfl, rfl, rfl, rfl, rfl, rfl, rfl, rfl, trivial⟩ rfl ?_
 obtain ⟨x56, h57, H⟩ := bind_some H
 have g58 := lat_some h57
 refine Lst.r (Ev.indexS (α := Str) (xs := l39) rfl rfl Try.runUnderlying50 Try.sizeOf9 rfl (by decide) (Rd.own (i := 0) rfl rfl rfl) g58.1 g58.2.1) ?_
 obtain ⟨p59, h60, H⟩ := Let_some H
 refine Lst.storeS (i := 0) rfl rfl rfl rfl rfl Try.sizeOf9 (vs := [Str.v x30]) rfl rfl (by decide) rfl (xs' := encs p59) (by rw [← h60]; exact (Put.elemN (s := 1) (x := x56) rfl g58.2.2 (Put.here (vs := [Str.v x30]) rfl)).off (by omega)) (L' := (.own s_a0 9 1 (encs p59)) :: L) rfl ?_
 refine Lst.nil ?_
 refine At.in_normal ?_
 refine At.then ?_
 refine Cd.region ?_
 refine Lst.r (Ev.move rfl) ?_
 refine Lst.r (Ev.sub rfl rfl) ?_
 refine Lst.r (Ev.assign rfl) ?_
 refine Lst.nil ?_
 exact At.meet (k8, w64 (y9 - (1 : Int)), p59) (FLe.trans hF12 hF55) ⟨rfl, rfl, rfl, rfl, rfl, trivial⟩ rfl ⟨hgo8 _ (some_inj H).symm, Nat.lt_succ_self _⟩
set_option maxRecDepth 20000 in
theorem slices_siftDownOrdered_string_sim {fu : Nat} {a0 : List Str} {a1 : Int} {a2 : Int} {a3 : Int} {s_a0 : Sl} {r : (List Str)} (H : slices_siftDownOrdered_string fu a0 a1 a2 a3 = some r) (w0 : World) (F : Frz) (M L : List Item) (hM : M.Sublist L) : Ok Try.prog w0 142 [Sl.v s_a0, iv a1, iv a2, iv a3] F ((.own s_a0 9 1 (encs a0)) :: L) (fun _ L' v => v = .tuple #[] ∧ L' = (.own s_a0 9 1 (encs r)) :: L) := by
 unfold slices_siftDownOrdered_string at H
 refine Ok.enter (m := 4) (n := 76) Try.func142 rfl rfl rfl (by decide) ?_
 refine Cd.env (e' := [(0, Sl.v s_a0), (1, iv a1), (2, iv a2), (3, iv a3)]) rfl ?_
 refine Cd.seq ?_
 refine Cd.region ?_
 refine Lst.r (Ev.move rfl) ?_
 refine Lst.r (Ev.assign rfl) ?_
 refine Lst.nil ?_
 refine At.then ?_
 refine Cd.block ?_
 obtain ⟨ol2, H, HKl2⟩ := andThen_some H
 refine Cd.loop (σ := Nat × Int × (List Str)) (fun (k2, y3, l4) => [(0, Sl.v s_a0), (2, iv a2), (3, iv a3), (8, iv y3)]) (fun (k2, y3, l4) => (.own s_a0 9 1 (encs l4)) :: L) (fun _ => (fun (k2, y3, l4) => whileM (slices_siftDownOrdered_string_B0 a2 a3) k2 (y3, l4) = some ol2)) (fun (k2, y3, l4) => k2) (fu, a1, a0) ⟨rfl, rfl, rfl, rfl, trivial⟩ rfl H ?_
 rintro F5 ⟨k2, y3, l4⟩ hF6 H
 refine Cd.as (e' := [(0, Sl.v s_a0), (2, iv a2), (3, iv a3), (8, iv y3)]) (L' := (.own s_a0 9 1 (encs l4)) :: L) ⟨rfl, rfl, rfl, rfl, trivial⟩ rfl ?_
 rcases k2 with _ | k2
 ·cases H
 obtain ⟨c2, H, hgo2, hbrk2, hret2⟩ := whileM_go H
 unfold slices_siftDownOrdered_string_B0 at H
 try dsimp only at H
 refine Cd.block ?_
 refine Cd.seq ?_
 refine Cd.region ?_
 refine Lst.r (Ev.move rfl) ?_
 refine Lst.r (Ev.mul rfl rfl) ?_
 refine Lst.r (Ev.add rfl rfl) ?_
 refine Lst.r (Ev.assign rfl) ?_
 refine Lst.nil ?_
 refine At.then ?_
 refine Cd.seq ?_
 refine Cd.seq ?_
 refine Cd.region ?_
 refine Lst.r (Ev.move rfl) ?_
 refine Lst.r (Ev.move rfl) ?_
 refine Lst.r (Ev.geq rfl rfl) ?_
 refine Lst.nil ?_
 refine At.then ?_
 rcases Bool.eq_false_or_eq_true (decide ((w64 ((w64 ((2 : Int) * y3)) + (1 : Int))) ≥ a2)) with hb7 | hb7
 ·replace H := ite_t hb7 H
  refine Cd.condT rfl hb7 ?_
  refine Cd.exit ?_
  refine At.then_exit ?_
  refine At.in_other rfl ?_
  refine At.then_exit ?_
  refine At.in_exit ?_
  have H := hbrk2 _ (some_inj H).symm
  subst H
  replace H := HKl2
  obtain rfl := some_inj H
  exact At.ret0 (.inr rfl) rfl hF6 (sk1 (.refl _)) ⟨rfl, rfl⟩
 replace H := ite_f hb7 H
 refine Cd.condF rfl hb7 ?_
 refine Cd.skip ?_
 refine At.then ?_
 obtain ⟨o9, H, HKo9⟩ := bind_some H
 refine Cd.join (σ := Int) (fun y8 => [(0, Sl.v s_a0), (2, iv a2), (3, iv a3), (8, iv y3), (9, iv y8)]) (fun y8 => (.own s_a0 9 1 (encs l4)) :: L) (fun _ y8 => y8 = o9) ?_ ?_
 ·refine Cd.seq ?_
  refine Cd.quiet (by kernel_rfl) (by kernel_rfl) ?_
  refine Qt.r (Ev.move rfl) ?_
  refine Qt.r (Ev.add rfl rfl) ?_
  refine Qt.r (Ev.move rfl) ?_
  refine Qt.r (Ev.lss rfl rfl) ?_
  refine Qt.r (Ev.move rfl) ?_
  obtain ⟨o10, H, HKo10⟩ := bind_some H
  refine Qt.join (σ := Bool) 15 (fun y11 => [(0, Sl.v s_a0), (2, iv a2), (3, iv a3), (8, iv y3), (9, iv (w64 ((w64 ((2 : Int) * y3)) + (1 : Int)))), (36, .bool y11)]) (fun y11 => y11 = o10) ?_ ?_
  ·rcases (Bool.eq_false_or_eq_true (decide ((w64 ((w64 ((w64 ((2 : Int) * y3)) + (1 : Int))) + (1 : Int))) < a2))).symm with hb12 | hb12
   ·replace H := ite_f hb12 H
    refine Qt.skip rfl rfl rfl hb12 rfl (by decide) ?_
    refine Qt.skip rfl rfl rfl hb12 rfl (by decide) ?_
    refine Qt.skip rfl rfl rfl hb12 rfl (by decide) ?_
    refine Qt.skip rfl rfl rfl hb12 rfl (by decide) ?_
    refine Qt.skip rfl rfl rfl hb12 rfl (by decide) ?_
    refine Qt.skip rfl rfl rfl hb12 rfl (by decide) ?_
    refine Qt.skip rfl rfl rfl hb12 rfl (by decide) ?_
    refine Qt.skip rfl rfl rfl hb12 rfl (by decide) ?_
    refine Qt.skip rfl rfl rfl hb12 rfl (by decide) ?_
    refine Qt.skip rfl rfl rfl hb12 rfl (by decide) ?_
    refine Qt.skip rfl rfl rfl hb12 rfl (by decide) ?_
    refine Qt.skip rfl rfl rfl hb12 rfl (by decide) ?_
    refine Qt.skip rfl rfl rfl hb12 rfl (by decide) ?_
    refine Qt.skip rfl rfl rfl hb12 rfl (by decide) ?_
    refine Qt.r (Ev.pickF rfl hb12 rfl) ?_
    exact Qt.meet false ⟨rfl, rfl, rfl, rfl, rfl, rfl, trivial⟩ (some_inj H)
   replace H := ite_t hb12 H
   refine Qt.rG hb12 (Ev.move rfl) ?_
   refine Qt.rG hb12 (Ev.move rfl) ?_
   refine Qt.rG hb12 (Ev.move rfl) ?_
   refine Qt.rG hb12 (Ev.add rfl rfl) ?_
   obtain ⟨x13, h14, H⟩ := bind_some H
   have g15 := lat_some h14
   refine Qt.rG hb12 (Ev.indexS (α := Str) (xs := l4) rfl rfl Try.runUnderlying50 Try.sizeOf9 rfl (by decide) (Rd.own (i := 0) rfl rfl rfl) g15.1 g15.2.1) ?_
   refine Qt.rG hb12 (Ev.loadS (α := Str) rfl (Rd.own (i := 0) rfl rfl rfl) Try.isAgg9 (v := Str.v x13) ((Get.elemN (s := 1) (x := x13) rfl g15.2.2 (Get.here _)).off (by omega))) ?_
   refine Qt.rG hb12 (Ev.move rfl) ?_
   refine Qt.rG hb12 (Ev.move rfl) ?_
   refine Qt.rG hb12 (Ev.move rfl) ?_
   refine Qt.rG hb12 (Ev.add rfl rfl) ?_
   refine Qt.rG hb12 (Ev.add rfl rfl) ?_
   obtain ⟨x16, h17, H⟩ := bind_some H
   have g18 := lat_some h17
   refine Qt.rG hb12 (Ev.indexS (α := Str) (xs := l4) rfl rfl Try.runUnderlying50 Try.sizeOf9 rfl (by decide) (Rd.own (i := 0) rfl rfl rfl) g18.1 g18.2.1) ?_
   refine Qt.rG hb12 (Ev.loadS (α := Str) rfl (Rd.own (i := 0) rfl rfl rfl) Try.isAgg9 (v := Str.v x16) ((Get.elemN (s := 1) (x := x16) rfl g18.2.2 (Get.here _)).off (by omega))) ?_
   obtain ⟨r19, h20, H⟩ := bind_some H
   refine Qt.callG rfl rfl rfl hb12 rfl (by decide) (vs := [Str.v x13, Str.v x16]) ⟨rfl, rfl, trivial⟩ Try.call121 (cmp_Less_string_sim h20 w0 _ M _ (sc1 hM)) ?_
   refine Qt.r (Ev.pickT rfl hb12 rfl) ?_
   exact Qt.meet r19 ⟨rfl, rfl, rfl, rfl, rfl, rfl, trivial⟩ (some_inj H)
  rintro y11 hy
  subst hy
  refine Qt.as (e' := [(0, Sl.v s_a0), (2, iv a2), (3, iv a3), (8, iv y3), (9, iv (w64 ((w64 ((2 : Int) * y3)) + (1 : Int)))), (36, .bool y11)]) ⟨rfl, rfl, rfl, rfl, rfl, rfl, trivial⟩ ?_
  replace H := HKo10
  refine Qt.done ?_
  refine At.then ?_
  rcases (Bool.eq_false_or_eq_true y11).symm with hb23 | hb23
  ·replace H := ite_f hb23 H
   refine Cd.condF rfl hb23 ?_
   refine Cd.skip ?_
   exact At.meet (w64 ((w64 ((2 : Int) * y3)) + (1 : Int))) (FLe.refl _) ⟨rfl, rfl, rfl, rfl, rfl, trivial⟩ rfl (some_inj H)
  replace H := ite_t hb23 H
  refine Cd.condT rfl hb23 ?_
  refine Cd.region ?_
  refine Lst.r (Ev.move rfl) ?_
  refine Lst.r (Ev.add rfl rfl) ?_
  refine Lst.r (Ev.assign rfl) ?_
  refine Lst.nil ?_
  exact At.meet (w64 ((w64 ((w64 ((2 : Int) * y3)) + (1 : Int))) + (1 : Int))) (FLe.refl _) ⟨rfl, rfl, rfl, rfl, rfl, trivial⟩ rfl (some_inj H)
 rintro F24 y8 hF25 hy
 subst hy
 refine Cd.as (e' := [(0, Sl.v s_a0), (2, iv a2), (3, iv a3), (8, iv y3), (9, iv y8)]) (L' := (.own s_a0 9 1 (encs l4)) :: L) ⟨rfl, rfl, rfl, rfl, rfl, trivial⟩ rfl ?_
 replace H := HKo9
 refine Cd.seq ?_
 refine Cd.seq ?_
 refine Cd.quiet (by kernel_rfl) (by kernel_rfl) ?_
 refine Qt.r (Ev.move rfl) ?_
 refine Qt.r (Ev.move rfl) ?_
 refine Qt.r (Ev.move rfl) ?_
 refine Qt.r (Ev.add rfl rfl) ?_
 obtain ⟨x26, h27, H⟩ := bind_some H
 have g28 := lat_some h27
 refine Qt.r (Ev.indexS (α := Str) (xs := l4) rfl rfl Try.runUnderlying50 Try.sizeOf9 rfl (by decide) (Rd.own (i := 0) rfl rfl rfl) g28.1 g28.2.1) ?_
 refine Qt.r (Ev.loadS (α := Str) rfl (Rd.own (i := 0) rfl rfl rfl) Try.isAgg9 (v := Str.v x26) ((Get.elemN (s := 1) (x := x26) rfl g28.2.2 (Get.here _)).off (by omega))) ?_
 refine Qt.r (Ev.move rfl) ?_
 refine Qt.r (Ev.move rfl) ?_
 refine Qt.r (Ev.move rfl) ?_
 refine Qt.r (Ev.add rfl rfl) ?_
 obtain ⟨x29, h30, H⟩ := bind_some H
 have g31 := lat_some h30
 refine Qt.r (Ev.indexS (α := Str) (xs := l4) rfl rfl Try.runUnderlying50 Try.sizeOf9 rfl (by decide) (Rd.own (i := 0) rfl rfl rfl) g31.1 g31.2.1) ?_
 refine Qt.r (Ev.loadS (α := Str) rfl (Rd.own (i := 0) rfl rfl rfl) Try.isAgg9 (v := Str.v x29) ((Get.elemN (s := 1) (x := x29) rfl g31.2.2 (Get.here _)).off (by omega))) ?_
 obtain ⟨r32, h33, H⟩ := bind_some H
 refine Qt.call rfl rfl (by decide) (vs := [Str.v x26, Str.v x29]) ⟨rfl, rfl, trivial⟩ Try.call121 (cmp_Less_string_sim h33 w0 _ M _ (sc1 hM)) ?_
 refine Qt.r (Ev.not rfl) ?_
 refine Qt.done ?_
 refine At.then ?_
 rcases Bool.eq_false_or_eq_true (!r32) with hb36 | hb36
 ·replace H := ite_t hb36 H
  refine Cd.condT rfl hb36 ?_
  have H := hret2 _ (some_inj H).symm
  subst H
  replace H := HKl2
  obtain rfl := some_inj H
  refine Cd.ret ?_
  refine At.then_ret ?_
  refine At.in_ret ?_
  refine At.then_ret ?_
  refine At.in_ret ?_
  exact At.ret0 (.inl rfl) rfl (FLe.trans hF6 hF25) (sk1 (.refl _)) ⟨rfl, rfl⟩
 replace H := ite_f hb36 H
 refine Cd.condF rfl hb36 ?_
 refine Cd.skip ?_
 refine At.then ?_
 refine Cd.seq ?_
 obtain ⟨x37, h38, H⟩ := bind_some H
 obtain ⟨x40, h41, H⟩ := bind_some H
 obtain ⟨x43, h44, H⟩ := bind_some H
 obtain ⟨p46, h47, H⟩ := Let_some H
 obtain ⟨o50, h51, H⟩ := Let_some H
 refine Cd.headMeet (σ := (List Str)) 22 (fun l49 => [(0, Sl.v s_a0), (2, iv a2), (3, iv a3), (8, iv y3), (9, iv y8), (57, Sl.v s_a0), (60, iv (w64 (a3 + y8))), (72, Str.v x40)]) (fun l49 => (.own s_a0 9 1 (encs l49)) :: L) (fun _ l49 => l49 = o50) (by kernel_rfl) (by kernel_rfl) (behind_sink (by kernel_rfl) (by kernel_rfl) (by kernel_rfl)) (by kernel_rfl) (fun hsel hlt => ?_) ?_
 ·refine HdJ.keep (fun w => St w0 F24 (L) w) (fun w h => trivial) ?_
  refine HdJ.tk hsel hlt 0 (fun w h => h.sublist (sc1 (.refl _))) rfl (Ev.move rfl) ?_
  refine HdJ.tk hsel hlt 1 (fun w h => h.sublist (sc1 (.refl _))) rfl (Ev.move rfl) ?_
  refine HdJ.tk hsel hlt 2 (fun w h => h.sublist (sc1 (.refl _))) rfl (Ev.move rfl) ?_
  refine HdJ.tk hsel hlt 3 (fun w h => h.sublist (sc1 (.refl _))) rfl (Ev.add rfl rfl) ?_
  refine HdJ.tk hsel hlt 4 (fun w h => h.sublist (sc1 (.refl _))) rfl (Ev.move rfl) ?_
  refine HdJ.tk hsel hlt 5 (fun w h => h.sublist (sc1 (.refl _))) rfl (Ev.move rfl) ?_
  refine HdJ.tk hsel hlt 6 (fun w h => h.sublist (sc1 (.refl _))) rfl (Ev.move rfl) ?_
  refine HdJ.tk hsel hlt 7 (fun w h => h.sublist (sc1 (.refl _))) rfl (Ev.add rfl rfl) ?_
  refine HdJ.tk hsel hlt 8 (fun w h => h.sublist (sc1 (.refl _))) rfl (Ev.move rfl) ?_
  refine HdJ.tk hsel hlt 9 (fun w h => h.sublist (sc1 (.refl _))) rfl (Ev.move rfl) ?_
  refine HdJ.tk hsel hlt 10 (fun w h => h.sublist (sc1 (.refl _))) rfl (Ev.move rfl) ?_
  refine HdJ.tk hsel hlt 11 (fun w h => h.sublist (sc1 (.refl _))) rfl (Ev.add rfl rfl) ?_
  refine HdJ.tk hsel hlt 14 (fun w h => h.sublist (sc1 (.refl _))) rfl (Ev.move rfl) ?_
  refine HdJ.tk hsel hlt 15 (fun w h => h.sublist (sc1 (.refl _))) rfl (Ev.move rfl) ?_
  refine HdJ.tk hsel hlt 16 (fun w h => h.sublist (sc1 (.refl _))) rfl (Ev.move rfl) ?_
  refine HdJ.tk hsel hlt 17 (fun w h => h.sublist (sc1 (.refl _))) rfl (Ev.add rfl rfl) ?_
  refine HdJ.step [12, 18] (by kernel_rfl) rfl ?_
  refine HdStep.c (fun inv => ?_) ?_
  ·have g52 := lat_some h38
   refine Lst.r (Ev.indexS (α := Str) (xs := l4) rfl rfl Try.runUnderlying50 Try.sizeOf9 rfl (by decide) (Rd.own (i := 0) rfl rfl rfl) g52.1 g52.2.1) ?_
   refine Lst.nil ?_
   refine At.hd inv (fun w h => (h.weaken (FLe.refl _)).sublist (sc1 (.refl _))) ?_
   refine HdJ.step [13, 18] (by kernel_rfl) rfl ?_
   refine HdStep.c (fun inv => ?_) ?_
   ·refine Lst.r (Ev.loadS (α := Str) rfl (Rd.own (i := 0) rfl rfl rfl) Try.isAgg9 (v := Str.v x37) ((Get.elemN (s := 1) (x := x37) rfl g52.2.2 (Get.here _)).off (by omega))) ?_
    refine Lst.nil ?_
    refine At.hd inv (fun w h => (h.weaken (FLe.refl _)).sublist (sc1 (.refl _))) ?_
    refine HdJ.step [18] (by kernel_rfl) rfl ?_
    refine HdStep.c (fun inv => ?_) ?_
    ·have g53 := lat_some h41
     refine Lst.r (Ev.indexS (α := Str) (xs := l4) rfl rfl Try.runUnderlying50 Try.sizeOf9 rfl (by decide) (Rd.own (i := 0) rfl rfl rfl) g53.1 g53.2.1) ?_
     refine Lst.nil ?_
     refine At.hd inv (fun w h => (h.weaken (FLe.refl _)).sublist (sc1 (.refl _))) ?_
     refine HdJ.step [19] (by kernel_rfl) rfl ?_
     refine HdStep.c (fun inv => ?_) ?_
     ·refine Lst.r (Ev.loadS (α := Str) rfl (Rd.own (i := 0) rfl rfl rfl) Try.isAgg9 (v := Str.v x40) ((Get.elemN (s := 1) (x := x40) rfl g53.2.2 (Get.here _)).off (by omega))) ?_
      refine Lst.nil ?_
      refine At.hd inv (fun w h => (h.weaken (FLe.refl _)).sublist (sc1 (.refl _))) ?_
      refine HdJ.step [20] (by kernel_rfl) rfl ?_
      refine HdStep.c (fun inv => ?_) ?_
      ·have g54 := lat_some h44
       refine Lst.r (Ev.indexS (α := Str) (xs := l4) rfl rfl Try.runUnderlying50 Try.sizeOf9 rfl (by decide) (Rd.own (i := 0) rfl rfl rfl) g54.1 g54.2.1) ?_
       refine Lst.nil ?_
       refine At.hd inv (fun w h => (h.weaken (FLe.refl _)).sublist (sc1 (.refl _))) ?_
       refine HdJ.step [21] (by kernel_rfl) rfl ?_
       refine HdStep.c (fun inv => ?_) ?_
       ·refine Lst.storeS (i := 0) rfl rfl rfl rfl rfl Try.sizeOf9 (vs := [Str.v x37]) rfl rfl (by decide) rfl (xs' := encs p46) (by rw [← h47]; exact (Put.elemN (s := 1) (x := x43) rfl g54.2.2 (Put.here (vs := [Str.v x37]) rfl)).off (by omega)) (L' := (.own s_a0 9 1 (encs p46)) :: L) rfl ?_
        refine Lst.nil ?_
        refine At.hd inv (fun w h => (h.weaken (FLe.refl _)).sublist (sc1 (.refl _))) ?_
        refine HdJ.done (by kernel_rfl) ?_
        exact At.meetN p46 (FLe.refl _) ⟨rfl, rfl, rfl, rfl, rfl, rfl, rfl, rfl, trivial⟩ rfl h51
       exact trivial
      exact trivial
     exact trivial
    exact trivial
   refine HdStep.c (fun inv => ?_) ?_
   ·have g55 := lat_some h41
    refine Lst.r (Ev.indexS (α := Str) (xs := l4) rfl rfl Try.runUnderlying50 Try.sizeOf9 rfl (by decide) (Rd.own (i := 0) rfl rfl rfl) g55.1 g55.2.1) ?_
    refine Lst.nil ?_
    refine At.hd inv (fun w h => (h.weaken (FLe.refl _)).sublist (sc1 (.refl _))) ?_
    refine HdJ.step [13, 19] (by kernel_rfl) rfl ?_
    refine HdStep.c (fun inv => ?_) ?_
    ·refine Lst.r (Ev.loadS (α := Str) rfl (Rd.own (i := 0) rfl rfl rfl) Try.isAgg9 (v := Str.v x37) ((Get.elemN (s := 1) (x := x37) rfl g52.2.2 (Get.here _)).off (by omega))) ?_
     refine Lst.nil ?_
     refine At.hd inv (fun w h => (h.weaken (FLe.refl _)).sublist (sc1 (.refl _))) ?_
     refine HdJ.step [19] (by kernel_rfl) rfl ?_
     refine HdStep.c (fun inv => ?_) ?_
     ·refine Lst.r (Ev.loadS (α := Str) rfl (Rd.own (i := 0) rfl rfl rfl) Try.isAgg9 (v := Str.v x40) ((Get.elemN (s := 1) (x := x40) rfl g55.2.2 (Get.here _)).off (by omega))) ?_
      refine Lst.nil ?_
      refine At.hd inv (fun w h => (h.weaken (FLe.refl _)).sublist (sc1 (.refl _))) ?_
      refine HdJ.step [20] (by kernel_rfl) rfl ?_
      refine HdStep.c (fun inv => ?_) ?_
      ·have g56 := lat_some h44
       refine Lst.r (Ev.indexS (α := Str) (xs := l4) rfl rfl Try.runUnderlying50 Try.sizeOf9 rfl (by decide) (Rd.own (i := 0) rfl rfl rfl) g56.1 g56.2.1) ?_
       refine Lst.nil ?_
       refine At.hd inv (fun w h => (h.weaken (FLe.refl _)).sublist (sc1 (.refl _))) ?_
       refine HdJ.step [21] (by kernel_rfl) rfl ?_
       refine HdStep.c (fun inv => ?_) ?_
       ·refine Lst.storeS (i := 0) rfl rfl rfl rfl rfl Try.sizeOf9 (vs := [Str.v x37]) rfl rfl (by decide) rfl (xs' := encs p46) (by rw [← h47]; exact (Put.elemN (s := 1) (x := x43) rfl g56.2.2 (Put.here (vs := [Str.v x37]) rfl)).off (by omega)) (L' := (.own s_a0 9 1 (encs p46)) :: L) rfl ?_
        refine Lst.nil ?_
        refine At.hd inv (fun w h => (h.weaken (FLe.refl _)).sublist (sc1 (.refl _))) ?_
        refine HdJ.done (by kernel_rfl) ?_
        exact At.meetN p46 (FLe.refl _) ⟨rfl, rfl, rfl, rfl, rfl, rfl, rfl, rfl, trivial⟩ rfl h51
       exact trivial
      exact trivial
     exact trivial
    refine HdStep.c (fun inv => ?_) ?_
    ·refine Lst.r (Ev.loadS (α := Str) rfl (Rd.own (i := 0) rfl rfl rfl) Try.isAgg9 (v := Str.v x40) ((Get.elemN (s := 1) (x := x40) rfl g55.2.2 (Get.here _)).off (by omega))) ?_
     refine Lst.nil ?_
     refine At.hd inv (fun w h => (h.weaken (FLe.refl _)).sublist (sc1 (.refl _))) ?_
     refine HdJ.step [13] (by kernel_rfl) rfl ?_
     refine HdStep.c (fun inv => ?_) ?_
     ·refine Lst.r (Ev.loadS (α := Str) rfl (Rd.own (i := 0) rfl rfl rfl) Try.isAgg9 (v := Str.v x37) ((Get.elemN (s := 1) (x := x37) rfl g52.2.2 (Get.here _)).off (by omega))) ?_
      refine Lst.nil ?_
      refine At.hd inv (fun w h => (h.weaken (FLe.refl _)).sublist (sc1 (.refl _))) ?_
      refine HdJ.step [20] (by kernel_rfl) rfl ?_
      refine HdStep.c (fun inv => ?_) ?_
      ·have g57 := lat_some h44
       refine Lst.r (Ev.indexS (α := Str) (xs := l4) rfl rfl Try.runUnderlying50 Try.sizeOf9 rfl (by decide) (Rd.own (i := 0) rfl rfl rfl) g57.1 g57.2.1) ?_
       refine Lst.nil ?_
       refine At.hd inv (fun w h => (h.weaken (FLe.refl _)).sublist (sc1 (.refl _))) ?_
       refine HdJ.step [21] (by kernel_rfl) rfl ?_
       refine HdStep.c (fun inv => ?_) ?_
       ·refine Lst.storeS (i := 0) rfl rfl rfl rfl rfl Try.sizeOf9 (vs := [Str.v x37]) rfl rfl (by decide) rfl (xs' := encs p46) (by rw [← h47]; exact (Put.elemN (s := 1) (x := x43) rfl g57.2.2 (Put.here (vs := [Str.v x37]) rfl)).off (by omega)) (L' := (.own s_a0 9 1 (encs p46)) :: L) rfl ?_
        refine Lst.nil ?_
        refine At.hd inv (fun w h => (h.weaken (FLe.refl _)).sublist (sc1 (.refl _))) ?_
        refine HdJ.done (by kernel_rfl) ?_
        exact At.meetN p46 (FLe.refl _) ⟨rfl, rfl, rfl, rfl, rfl, rfl, rfl, rfl, trivial⟩ rfl h51
       exact trivial
      exact trivial
     exact trivial
    exact trivial
   exact trivial
  refine HdStep.c (fun inv => ?_) ?_
  ·have g58 := lat_some h41
   refine Lst.r (Ev.indexS (α := Str) (xs := l4) rfl rfl Try.runUnderlying50 Try.sizeOf9 rfl (by decide) (Rd.own (i := 0) rfl rfl rfl) g58.1 g58.2.1) ?_
   refine Lst.nil ?_
   refine At.hd inv (fun w h => (h.weaken (FLe.refl _)).sublist (sc1 (.refl _))) ?_
   refine HdJ.step [12, 19] (by kernel_rfl) rfl ?_
   refine HdStep.c (fun inv => ?_) ?_
   ·have g59 := lat_some h38
    refine Lst.r (Ev.indexS (α := Str) (xs := l4) rfl rfl Try.runUnderlying50 Try.sizeOf9 rfl (by decide) (Rd.own (i := 0) rfl rfl rfl) g59.1 g59.2.1) ?_
    refine Lst.nil ?_
    refine At.hd inv (fun w h => (h.weaken (FLe.refl _)).sublist (sc1 (.refl _))) ?_
    refine HdJ.step [13, 19] (by kernel_rfl) rfl ?_
    refine HdStep.c (fun inv => ?_) ?_
    ·refine Lst.r (Ev.loadS (α := Str) rfl (Rd.own (i := 0) rfl rfl rfl) Try.isAgg9 (v := Str.v x37) ((Get.elemN (s := 1) (x := x37) rfl g59.2.2 (Get.here _)).off (by omega))) ?_
     refine Lst.nil ?_
     refine At.hd inv (fun w h => (h.weaken (FLe.refl _)).sublist (sc1 (.refl _))) ?_
     refine HdJ.step [19] (by kernel_rfl) rfl ?_
     refine HdStep.c (fun inv => ?_) ?_
     ·refine Lst.r (Ev.loadS (α := Str) rfl (Rd.own (i := 0) rfl rfl rfl) Try.isAgg9 (v := Str.v x40) ((Get.elemN (s := 1) (x := x40) rfl g58.2.2 (Get.here _)).off (by omega))) ?_
      refine Lst.nil ?_
      refine At.hd inv (fun w h => (h.weaken (FLe.refl _)).sublist (sc1 (.refl _))) ?_
      refine HdJ.step [20] (by kernel_rfl) rfl ?_
      refine HdStep.c (fun inv => ?_) ?_
      ·have g60 := lat_some h44
       refine Lst.r (Ev.indexS (α := Str) (xs := l4) rfl rfl Try.runUnderlying50 Try.sizeOf9 rfl (by decide) (Rd.own (i := 0) rfl rfl rfl) g60.1 g60.2.1) ?_
       refine Lst.nil ?_
       refine At.hd inv (fun w h => (h.weaken (FLe.refl _)).sublist (sc1 (.refl _))) ?_
       refine HdJ.step [21] (by kernel_rfl) rfl ?_
       refine HdStep.c (fun inv => ?_) ?_
       ·refine Lst.storeS (i := 0) rfl rfl rfl rfl rfl Try.sizeOf9 (vs := [Str.v x37]) rfl rfl (by decide) rfl (xs' := encs p46) (by rw [← h47]; exact (Put.elemN (s := 1) (x := x43) rfl g60.2.2 (Put.here (vs := [Str.v x37]) rfl)).off (by omega)) (L' := (.own s_a0 9 1 (encs p46)) :: L) rfl ?_
        refine Lst.nil ?_
        refine At.hd inv (fun w h => (h.weaken (FLe.refl _)).sublist (sc1 (.refl _))) ?_
        refine HdJ.done (by kernel_rfl) ?_
        exact At.meetN p46 (FLe.refl _) ⟨rfl, rfl, rfl, rfl, rfl, rfl, rfl, rfl, trivial⟩ rfl h51
       exact trivial
      exact trivial
     exact trivial
    refine HdStep.c (fun inv => ?_) ?_
    ·refine Lst.r (Ev.loadS (α := Str) rfl (Rd.own (i := 0) rfl rfl rfl) Try.isAgg9 (v := Str.v x40) ((Get.elemN (s := 1) (x := x40) rfl g58.2.2 (Get.here _)).off (by omega))) ?_
     refine Lst.nil ?_
     refine At.hd inv (fun w h => (h.weaken (FLe.refl _)).sublist (sc1 (.refl _))) ?_
     refine HdJ.step [13] (by kernel_rfl) rfl ?_
     refine HdStep.c (fun inv => ?_) ?_
     ·refine Lst.r (Ev.loadS (α := Str) rfl (Rd.own (i := 0) rfl rfl rfl) Try.isAgg9 (v := Str.v x37) ((Get.elemN (s := 1) (x := x37) rfl g59.2.2 (Get.here _)).off (by omega))) ?_
      refine Lst.nil ?_
      refine At.hd inv (fun w h => (h.weaken (FLe.refl _)).sublist (sc1 (.refl _))) ?_
      refine HdJ.step [20] (by kernel_rfl) rfl ?_
      refine HdStep.c (fun inv => ?_) ?_
      ·have g61 := lat_some h44
       refine Lst.r (Ev.indexS (α := Str) (xs := l4) rfl rfl Try.runUnderlying50 Try.sizeOf9 rfl (by decide) (Rd.own (i := 0) rfl rfl rfl) g61.1 g61.2.1) ?_
       refine Lst.nil ?_
       refine At.hd inv (fun w h => (h.weaken (FLe.refl _)).sublist (sc1 (.refl _))) ?_
       refine HdJ.step [21] (by kernel_rfl) rfl ?_
       refine HdStep.c (fun inv => ?_) ?_
       ·refine Lst.storeS (i := 0) rfl rfl rfl rfl rfl Try.sizeOf9 (vs := [Str.v x37]) rfl rfl (by decide) rfl (xs' := encs p46) (by rw [← h47]; exact (Put.elemN (s := 1) (x := x43) rfl g61.2.2 (Put.here (vs := [Str.v x37]) rfl)).off (by omega)) (L' := (.own s_a0 9 1 (encs p46)) :: L) rfl ?_
        refine Lst.nil ?_
        refine At.hd inv (fun w h => (h.weaken (FLe.refl _)).sublist (sc1 (.refl _))) ?_
        refine HdJ.done (by kernel_rfl) ?_
        exact At.meetN p46 (FLe.refl _) ⟨rfl, rfl, rfl, rfl, rfl, rfl, rfl, rfl, trivial⟩ rfl h51
       exact trivial
      exact trivial
     exact trivial
    exact trivial
   refine HdStep.c (fun inv => ?_) ?_
   ·refine Lst.r (Ev.loadS (α := Str) rfl (Rd.own (i := 0) rfl rfl rfl) Try.isAgg9 (v := Str.v x40) ((Get.elemN (s := 1) (x := x40) rfl g58.2.2 (Get.here _)).off (by omega))) ?_
    refine Lst.nil ?_
    refine At.hd inv (fun w h => (h.weaken (FLe.refl _)).sublist (sc1 (.refl _))) ?_
    refine HdJ.step [12] (by kernel_rfl) rfl ?_
    refine HdStep.c (fun inv => ?_) ?_
    ·have g62 := lat_some h38
     refine Lst.r (Ev.indexS (α := Str) (xs := l4) rfl rfl Try.runUnderlying50 Try.sizeOf9 rfl (by decide) (Rd.own (i := 0) rfl rfl rfl) g62.1 g62.2.1) ?_
     refine Lst.nil ?_
     refine At.hd inv (fun w h => (h.weaken (FLe.refl _)).sublist (sc1 (.refl _))) ?_
     refine HdJ.step [13] (by kernel_rfl) rfl ?_
     refine HdStep.c (fun inv => ?_) ?_
     ·refine Lst.r (Ev.loadS (α := Str) rfl (Rd.own (i := 0) rfl rfl rfl) Try.isAgg9 (v := Str.v x37) ((Get.elemN (s := 1) (x := x37) rfl g62.2.2 (Get.here _)).off (by omega))) ?_
      refine Lst.nil ?_
      refine At.hd inv (fun w h => (h.weaken (FLe.refl _)).sublist (sc1 (.refl _))) ?_
      refine HdJ.step [20] (by kernel_rfl) rfl ?_
      refine HdStep.c (fun inv => ?_) ?_
      ·have g63 := lat_some h44
       refine Lst.r (Ev.indexS (α := Str) (xs := l4) rfl rfl Try.runUnderlying50 Try.sizeOf9 rfl (by decide) (Rd.own (i := 0) rfl rfl rfl) g63.1 g63.2.1) ?_
       refine Lst.nil ?_
       refine At.hd inv (fun w h => (h.weaken (FLe.refl _)).sublist (sc1 (.refl _))) ?_
       refine HdJ.step [21] (by kernel_rfl) rfl ?_
       refine HdStep.c (fun inv => ?_) ?_
       ·refine Lst.storeS (i := 0) rfl rfl rfl rfl rfl Try.sizeOf9 (vs := [Str.v x37]) rfl rfl (by decide) rfl (xs' := encs p46) (by rw [← h47]; exact (Put.elemN (s := 1) (x := x43) rfl g63.2.2 (Put.here (vs := [Str.v x37]) rfl)).off (by omega)) (L' := (.own s_a0 9 1 (encs p46)) :: L) rfl ?_
        refine Lst.nil ?_
        refine At.hd inv (fun w h => (h.weaken (FLe.refl _)).sublist (sc1 (.refl _))) ?_
        refine HdJ.done (by kernel_rfl) ?_
        exact At.meetN p46 (FLe.refl _) ⟨rfl, rfl, rfl, rfl, rfl, rfl, rfl, rfl, trivial⟩ rfl h51
       exact trivial
      exact trivial
     exact trivial
    exact trivial
   exact trivial
  exact trivial
 rintro F64 l49 hF65 hy
 subst hy
 refine Lst.as (e' := [(0, Sl.v s_a0), (2, iv a2), (3, iv a3), (8, iv y3), (9, iv y8), (57, Sl.v s_a0), (60, iv (w64 (a3 + y8))), (72, Str.v x40)]) (L' := (.own s_a0 9 1 (encs l49)) :: L) ⟨rfl, rfl, rfl, rfl, rfl, rfl, rfl, rfl, trivial⟩ rfl ?_
 obtain ⟨x66, h67, H⟩ := bind_some H
 have g68 := lat_some h67
 refine Lst.r (Ev.indexS (α := Str) (xs := l49) rfl rfl Try.runUnderlying50 Try.sizeOf9 rfl (by decide) (Rd.own (i := 0) rfl rfl rfl) g68.1 g68.2.1) ?_
 obtain ⟨p69, h70, H⟩ := Let_some H
 refine Lst.storeS (i := 0) rfl rfl rfl rfl rfl Try.sizeOf9 (vs := [Str.v x40]) rfl rfl (by decide) rfl (xs' := encs p69) (by rw [← h70]; exact (Put.elemN (s := 1) (x := x66) rfl g68.2.2 (Put.here (vs := [Str.v x40]) rfl)).off (by omega)) (L' := (.own s_a0 9 1 (encs p69)) :: L) rfl ?_
 refine Lst.nil ?_
 refine At.then ?_
 refine Cd.region ?_
 refine Lst.r (Ev.move rfl) ?_
 refine Lst.r (Ev.assign rfl) ?_
 refine Lst.nil ?_
 refine At.in_normal ?_
 exact At.meet (k2, y8, p69) (FLe.trans (FLe.trans hF6 hF25) hF65) ⟨rfl, rfl, rfl, rfl, trivial⟩ rfl ⟨hgo2 _ (some_inj H).symm, Nat.lt_succ_self _⟩
set_option maxRecDepth 20000 in
theorem slices_heapSortOrdered_string_sim {fu : Nat} {a0 : List Str} {a1 : Int} {a2 : Int} {s_a0 : Sl} {r : (List Str)} (H : slices_heapSortOrdered_string fu a0 a1 a2 = some r) (w0 : World) (F : Frz) (M L : List Item) (hM : M.Sublist L) : Ok Try.prog w0 116 [Sl.v s_a0, iv a1, iv a2] F ((.own s_a0 9 1 (encs a0)) :: L) (fun _ L' v => v = .tuple #[] ∧ L' = (.own s_a0 9 1 (encs r)) :: L) := by
 unfold slices_heapSortOrdered_string at H
 refine Ok.enter (m := 3) (n := 56) Try.func116 rfl rfl rfl (by decide) ?_
 refine Cd.env (e' := [(0, Sl.v s_a0), (1, iv a1), (2, iv a2)]) rfl ?_
 refine Cd.seq ?_
 refine Cd.region ?_
 refine Lst.r (Ev.move rfl) ?_
 refine Lst.r (Ev.assign rfl) ?_
 refine Lst.nil ?_
 refine At.then ?_
 refine Cd.seq ?_
 refine Cd.region ?_
 refine Lst.r (Ev.assign rfl) ?_
 refine Lst.nil ?_
 refine At.then ?_
 refine Cd.seq ?_
 refine Cd.region ?_
 refine Lst.r (Ev.move rfl) ?_
 refine Lst.r (Ev.move rfl) ?_
 refine Lst.r (Ev.sub rfl rfl) ?_
 refine Lst.r (Ev.assign rfl) ?_
 refine Lst.nil ?_
 refine At.then ?_
 refine Cd.seq ?_
 refine Cd.seq ?_
 refine Cd.region ?_
 refine Lst.r (Ev.move rfl) ?_
 refine Lst.r (Ev.sub rfl rfl) ?_
 refine Lst.r (Ev.quo (i := w64 ((w64 (a2 - a1)) - (1 : Int))) (j := (2 : Int)) rfl rfl (by decide)) ?_
 refine Lst.r (Ev.assign rfl) ?_
 refine Lst.nil ?_
 refine At.then ?_
 refine Cd.block ?_
 obtain ⟨ol2, H, HKl2⟩ := andThen_some H
 refine Cd.loop (σ := Nat × Int × (List Str)) (fun (k2, y3, l4) => [(0, Sl.v s_a0), (6, iv a1), (7, iv (0 : Int)), (8, iv (w64 (a2 - a1))), (9, iv y3)]) (fun (k2, y3, l4) => (.own s_a0 9 1 (encs l4)) :: L) (fun _ => (fun (k2, y3, l4) => whileM (slices_heapSortOrdered_string_B0 fu a1 a2) k2 (y3, l4) = some ol2)) (fun (k2, y3, l4) => k2) (fu, w64 ((w64 ((w64 (a2 - a1)) - (1 : Int))).tdiv (2 : Int)), a0) ⟨rfl, rfl, rfl, rfl, rfl, trivial⟩ rfl H ?_
 rintro F5 ⟨k2, y3, l4⟩ hF6 H
 refine Cd.as (e' := [(0, Sl.v s_a0), (6, iv a1), (7, iv (0 : Int)), (8, iv (w64 (a2 - a1))), (9, iv y3)]) (L' := (.own s_a0 9 1 (encs l4)) :: L) ⟨rfl, rfl, rfl, rfl, rfl, trivial⟩ rfl ?_
 rcases k2 with _ | k2
 ·cases H
 obtain ⟨c2, H, hgo2, hbrk2, hret2⟩ := whileM_go H
 unfold slices_heapSortOrdered_string_B0 at H
 try dsimp only at H
 refine Cd.seq ?_
 refine Cd.seq ?_
 refine Cd.region ?_
 refine Lst.r (Ev.move rfl) ?_
 refine Lst.r (Ev.geq rfl rfl) ?_
 refine Lst.nil ?_
 refine At.then ?_
 rcases (Bool.eq_false_or_eq_true (decide (y3 ≥ (0 : Int)))).symm with hb7 | hb7
 ·replace H := ite_f hb7 H
  refine Cd.condF rfl hb7 ?_
  refine Cd.exit ?_
  refine At.then_exit ?_
  refine At.then_exit ?_
  refine At.in_exit ?_
  have H := hbrk2 _ (some_inj H).symm
  subst H
  replace H := HKl2
  refine At.then ?_
  refine Cd.seq ?_
  refine Cd.region ?_
  refine Lst.r (Ev.move rfl) ?_
  refine Lst.r (Ev.sub rfl rfl) ?_
  refine Lst.r (Ev.assign rfl) ?_
  refine Lst.nil ?_
  refine At.then ?_
  refine Cd.block ?_
  obtain ⟨ol8, H, HKl8⟩ := andThen_some H
  refine Cd.loop (σ := Nat × Int × (List Str)) (fun (k8, y9, l10) => [(0, Sl.v s_a0), (6, iv a1), (7, iv (0 : Int)), (10, iv y9)]) (fun (k8, y9, l10) => (.own s_a0 9 1 (encs l10)) :: L) (fun _ => (fun (k8, y9, l10) => whileM (slices_heapSortOrdered_string_B2 fu a1) k8 (y9, l10) = some ol8)) (fun (k8, y9, l10) => k8) (fu, w64 ((w64 (a2 - a1)) - (1 : Int)), l4) ⟨rfl, rfl, rfl, rfl, trivial⟩ rfl H ?_
  rintro F11 ⟨k8, y9, l10⟩ hF12 H
  refine Cd.as (e' := [(0, Sl.v s_a0), (6, iv a1), (7, iv (0 : Int)), (10, iv y9)]) (L' := (.own s_a0 9 1 (encs l10)) :: L) ⟨rfl, rfl, rfl, rfl, trivial⟩ rfl ?_
  rcases k8 with _ | k8
  ·cases H
  obtain ⟨c8, H, hgo8, hbrk8, hret8⟩ := whileM_go H
  unfold slices_heapSortOrdered_string_B2 at H
  try dsimp only at H
  refine Cd.seq ?_
  refine Cd.seq ?_
  refine Cd.region ?_
  refine Lst.r (Ev.move rfl) ?_
  refine Lst.r (Ev.geq rfl rfl) ?_
  refine Lst.nil ?_
  refine At.then ?_
  rcases (Bool.eq_false_or_eq_true (decide (y9 ≥ (0 : Int)))).symm with hb13 | hb13
  ·replace H := ite_f hb13 H
   refine Cd.condF rfl hb13 ?_
   refine Cd.exit ?_
   refine At.then_exit ?_
   refine At.then_exit ?_
   refine At.in_exit ?_
   have H := hbrk8 _ (some_inj H).symm
   subst H
   replace H := HKl8
   obtain rfl := some_inj H
   exact At.ret0 (.inr rfl) rfl (FLe.trans hF6 hF12) (sk1 (.refl _)) ⟨rfl, rfl⟩
  replace H := ite_t hb13 H
  refine Cd.condT rfl hb13 ?_
  refine Cd.skip ?_
  refine At.then ?_
  refine Cd.seq ?_
  refine Cd.block ?_
  refine Cd.seq ?_
  obtain ⟨x14, h15, H⟩ := bind_some H
  obtain ⟨x17, h18, H⟩ := bind_some H
  obtain ⟨x20, h21, H⟩ := bind_some H
  obtain ⟨p23, h24, H⟩ := Let_some H
  obtain ⟨o27, h28, H⟩ := Let_some H
  refine Cd.headMeet (σ := (List Str)) 18 (fun l26 => [(0, Sl.v s_a0), (6, iv a1), (7, iv (0 : Int)), (10, iv y9), (35, Sl.v s_a0), (38, iv (w64 (a1 + y9))), (48, Str.v x17)]) (fun l26 => (.own s_a0 9 1 (encs l26)) :: L) (fun _ l26 => l26 = o27) (by kernel_rfl) (by kernel_rfl) (behind_sink (by kernel_rfl) (by kernel_rfl) (by kernel_rfl)) (by kernel_rfl) (fun hsel hlt => ?_) ?_
  ·refine HdJ.keep (fun w => St w0 F11 (L) w) (fun w h => trivial) ?_
   refine HdJ.tk hsel hlt 0 (fun w h => h.sublist (sc1 (.refl _))) rfl (Ev.move rfl) ?_
   refine HdJ.tk hsel hlt 1 (fun w h => h.sublist (sc1 (.refl _))) rfl (Ev.move rfl) ?_
   refine HdJ.tk hsel hlt 2 (fun w h => h.sublist (sc1 (.refl _))) rfl (Ev.move rfl) ?_
   refine HdJ.tk hsel hlt 3 (fun w h => h.sublist (sc1 (.refl _))) rfl (Ev.move rfl) ?_
   refine HdJ.tk hsel hlt 4 (fun w h => h.sublist (sc1 (.refl _))) rfl (Ev.move rfl) ?_
   refine HdJ.tk hsel hlt 5 (fun w h => h.sublist (sc1 (.refl _))) rfl (Ev.add rfl rfl) ?_
   refine HdJ.tk hsel hlt 6 (fun w h => h.sublist (sc1 (.refl _))) rfl (Ev.move rfl) ?_
   refine HdJ.tk hsel hlt 7 (fun w h => h.sublist (sc1 (.refl _))) rfl (Ev.move rfl) ?_
   refine HdJ.tk hsel hlt 8 (fun w h => h.sublist (sc1 (.refl _))) rfl (Ev.move rfl) ?_
   refine HdJ.tk hsel hlt 9 (fun w h => h.sublist (sc1 (.refl _))) rfl (Ev.add rfl rfl) ?_
   refine HdJ.tk hsel hlt 12 (fun w h => h.sublist (sc1 (.refl _))) rfl (Ev.move rfl) ?_
   refine HdJ.tk hsel hlt 13 (fun w h => h.sublist (sc1 (.refl _))) rfl (Ev.move rfl) ?_
   refine HdJ.step [10, 14] (by kernel_rfl) rfl ?_
   refine HdStep.c (fun inv => ?_) ?_
   ·have g29 := lat_some h15
    refine Lst.r (Ev.indexS (α := Str) (xs := l10) rfl rfl Try.runUnderlying50 Try.sizeOf9 rfl (by decide) (Rd.own (i := 0) rfl rfl rfl) g29.1 g29.2.1) ?_
    refine Lst.nil ?_
    refine At.hd inv (fun w h => (h.weaken (FLe.refl _)).sublist (sc1 (.refl _))) ?_
    refine HdJ.step [11, 14] (by kernel_rfl) rfl ?_
    refine HdStep.c (fun inv => ?_) ?_
    ·refine Lst.r (Ev.loadS (α := Str) rfl (Rd.own (i := 0) rfl rfl rfl) Try.isAgg9 (v := Str.v x14) ((Get.elemN (s := 1) (x := x14) rfl g29.2.2 (Get.here _)).off (by omega))) ?_
     refine Lst.nil ?_
     refine At.hd inv (fun w h => (h.weaken (FLe.refl _)).sublist (sc1 (.refl _))) ?_
     refine HdJ.step [14] (by kernel_rfl) rfl ?_
     refine HdStep.c (fun inv => ?_) ?_
     ·have g30 := lat_some h18
      refine Lst.r (Ev.indexS (α := Str) (xs := l10) rfl rfl Try.runUnderlying50 Try.sizeOf9 rfl (by decide) (Rd.own (i := 0) rfl rfl rfl) g30.1 g30.2.1) ?_
      refine Lst.nil ?_
      refine At.hd inv (fun w h => (h.weaken (FLe.refl _)).sublist (sc1 (.refl _))) ?_
      refine HdJ.step [15] (by kernel_rfl) rfl ?_
      refine HdStep.c (fun inv => ?_) ?_
      ·refine Lst.r (Ev.loadS (α := Str) rfl (Rd.own (i := 0) rfl rfl rfl) Try.isAgg9 (v := Str.v x17) ((Get.elemN (s := 1) (x := x17) rfl g30.2.2 (Get.here _)).off (by omega))) ?_
       refine Lst.nil ?_
       refine At.hd inv (fun w h => (h.weaken (FLe.refl _)).sublist (sc1 (.refl _))) ?_
       refine HdJ.step [16] (by kernel_rfl) rfl ?_
       refine HdStep.c (fun inv => ?_) ?_
       ·have g31 := lat_some h21
        refine Lst.r (Ev.indexS (α := Str) (xs := l10) rfl rfl Try.runUnderlying50 Try.sizeOf9 rfl (by decide) (Rd.own (i := 0) rfl rfl rfl) g31.1 g31.2.1) ?_
        refine Lst.nil ?_
        refine At.hd inv (fun w h => (h.weaken (FLe.refl _)).sublist (sc1 (.refl _))) ?_
        refine HdJ.step [17] (by kernel_rfl) rfl ?_
        refine HdStep.c (fun inv => ?_) ?_
        ·refine Lst.storeS (i := 0) rfl rfl rfl rfl rfl Try.sizeOf9 (vs := [Str.v x14]) rfl rfl (by decide) rfl (xs' := encs p23) (by rw [← h24]; exact (Put.elemN (s := 1) (x := x20) rfl g31.2.2 (Put.here (vs := [Str.v x14]) rfl)).off (by omega)) (L' := (.own s_a0 9 1 (encs p23)) :: L) rfl ?_
         refine Lst.nil ?_
         refine At.hd inv (fun w h => (h.weaken (FLe.refl _)).sublist (sc1 (.refl _))) ?_
         refine HdJ.done (by kernel_rfl) ?_
         exact At.meetN p23 (FLe.refl _) ⟨rfl, rfl, rfl, rfl, rfl, rfl, rfl, trivial⟩ rfl h28
        exact trivial
       exact trivial
      exact trivial
     exact trivial
    refine HdStep.c (fun inv => ?_) ?_
    ·have g32 := lat_some h18
     refine Lst.r (Ev.indexS (α := Str) (xs := l10) rfl rfl Try.runUnderlying50 Try.sizeOf9 rfl (by decide) (Rd.own (i := 0) rfl rfl rfl) g32.1 g32.2.1) ?_
     refine Lst.nil ?_
     refine At.hd inv (fun w h => (h.weaken (FLe.refl _)).sublist (sc1 (.refl _))) ?_
     refine HdJ.step [11, 15] (by kernel_rfl) rfl ?_
     refine HdStep.c (fun inv => ?_) ?_
     ·refine Lst.r (Ev.loadS (α := Str) rfl (Rd.own (i := 0) rfl rfl rfl) Try.isAgg9 (v := Str.v x14) ((Get.elemN (s := 1) (x := x14) rfl g29.2.2 (Get.here _)).off (by omega))) ?_
      refine Lst.nil ?_
      refine At.hd inv (fun w h => (h.weaken (FLe.refl _)).sublist (sc1 (.refl _))) ?_
      refine HdJ.step [15] (by kernel_rfl) rfl ?_
      refine HdStep.c (fun inv => ?_) ?_
      ·refine Lst.r (Ev.loadS (α := Str) rfl (Rd.own (i := 0) rfl rfl rfl) Try.isAgg9 (v := Str.v x17) ((Get.elemN (s := 1) (x := x17) rfl g32.2.2 (Get.here _)).off (by omega))) ?_
       refine Lst.nil ?_
       refine At.hd inv (fun w h => (h.weaken (FLe.refl _)).sublist (sc1 (.refl _))) ?_
       refine HdJ.step [16] (by kernel_rfl) rfl ?_
       refine HdStep.c (fun inv => ?_) ?_
       ·have g33 := lat_some h21
        refine Lst.r (Ev.indexS (α := Str) (xs := l10) rfl rfl Try.runUnderlying50 Try.sizeOf9 rfl (by decide) (Rd.own (i := 0) rfl rfl rfl) g33.1 g33.2.1) ?_
        refine Lst.nil ?_
        refine At.hd inv (fun w h => (h.weaken (FLe.refl _)).sublist (sc1 (.refl _))) ?_
        refine HdJ.step [17] (by kernel_rfl) rfl ?_
        refine HdStep.c (fun inv => ?_) ?_
        ·refine Lst.storeS (i := 0) rfl rfl rfl rfl rfl Try.sizeOf9 (vs := [Str.v x14]) rfl rfl (by decide) rfl (xs' := encs p23) (by rw [← h24]; exact (Put.elemN (s := 1) (x := x20) rfl g33.2.2 (Put.here (vs := [Str.v x14]) rfl)).off (by omega)) (L' := (.own s_a0 9 1 (encs p23)) :: L) rfl ?_
         refine Lst.nil ?_
         refine At.hd inv (fun w h => (h.weaken (FLe.refl _)).sublist (sc1 (.refl _))) ?_
         refine HdJ.done (by kernel_rfl) ?_
         exact At.meetN p23 (FLe.refl _) ⟨rfl, rfl, rfl, rfl, rfl, rfl, rfl, trivial⟩ rfl h28
        exact trivial
       exact trivial
      exact trivial
     refine HdStep.c (fun inv => ?_) ?_
     ·refine Lst.r (Ev.loadS (α := Str) rfl (Rd.own (i := 0) rfl rfl rfl) Try.isAgg9 (v := Str.v x17) ((Get.elemN (s := 1) (x := x17) rfl g32.2.2 (Get.here _)).off (by omega))) ?_
      refine Lst.nil ?_
      refine At.hd inv (fun w h => (h.weaken (FLe.refl _)).sublist (sc1 (.refl _))) ?_
      refine HdJ.step [11] (by kernel_rfl) rfl ?_
      refine HdStep.c (fun inv => ?_) ?_
      ·refine Lst.r (Ev.loadS (α := Str) rfl (Rd.own (i := 0) rfl rfl rfl) Try.isAgg9 (v := Str.v x14) ((Get.elemN (s := 1) (x := x14) rfl g29.2.2 (Get.here _)).off (by omega))) ?_
       refine Lst.nil ?_
       refine At.hd inv (fun w h => (h.weaken (FLe.refl _)).sublist (sc1 (.refl _))) ?_
       refine HdJ.step [16] (by kernel_rfl) rfl ?_
       refine HdStep.c (fun inv => ?_) ?_
       ·have g34 := lat_some h21
        refine Lst.r (Ev.indexS (α := Str) (xs := l10) rfl rfl Try.runUnderlying50 Try.sizeOf9 rfl (by decide) (Rd.own (i := 0) rfl rfl rfl) g34.1 g34.2.1) ?_
        refine Lst.nil ?_
        refine At.hd inv (fun w h => (h.weaken (FLe.refl _)).sublist (sc1 (.refl _))) ?_
        refine HdJ.step [17] (by kernel_rfl) rfl ?_
        refine HdStep.c (fun inv => ?_) ?_
        ·refine Lst.storeS (i := 0) rfl rfl rfl rfl rfl Try.sizeOf9 (vs := [Str.v x14]) rfl rfl (by decide) rfl (xs' := encs p23) (by rw [← h24]; exact (Put.elemN (s := 1) (x := x20) rfl g34.2.2 (Put.here (vs := [Str.v x14]) rfl)).off (by omega)) (L' := (.own s_a0 9 1 (encs p23)) :: L) rfl ?_
         refine Lst.nil ?_
         refine At.hd inv (fun w h => (h.weaken (FLe.refl _)).sublist (sc1 (.refl _))) ?_
         refine HdJ.done (by kernel_rfl) ?_
         exact At.meetN p23 (FLe.refl _) ⟨rfl, rfl, rfl, rfl, rfl, rfl, rfl, trivial⟩ rfl h28
        exact trivial
       exact trivial
      exact trivial
     exact trivial
    exact trivial
   refine HdStep.c (fun inv => ?_) ?_
   ·have g35 := lat_some h18
    refine Lst.r (Ev.indexS (α := Str) (xs := l10) rfl rfl Try.runUnderlying50 Try.sizeOf9 rfl (by decide) (Rd.own (i := 0) rfl rfl rfl) g35.1 g35.2.1) ?_
    refine Lst.nil ?_
    refine At.hd inv (fun w h => (h.weaken (FLe.refl _)).sublist (sc1 (.refl _))) ?_
    refine HdJ.step [10, 15] (by kernel_rfl) rfl ?_
    refine HdStep.c (fun inv => ?_) ?_
    ·have g36 := lat_some h15
     refine Lst.r (Ev.indexS (α := Str) (xs := l10) rfl rfl Try.runUnderlying50 Try.sizeOf9 rfl (by decide) (Rd.own (i := 0) rfl rfl rfl) g36.1 g36.2.1) ?_
     refine Lst.nil ?_
     refine At.hd inv (fun w h => (h.weaken (FLe.refl _)).sublist (sc1 (.refl _))) ?_
     refine HdJ.step [11, 15] (by kernel_rfl) rfl ?_
     refine HdStep.c (fun inv => ?_) ?_
     ·refine Lst.r (Ev.loadS (α := Str) rfl (Rd.own (i := 0) rfl rfl rfl) Try.isAgg9 (v := Str.v x14) ((Get.elemN (s := 1) (x := x14) rfl g36.2.2 (Get.here _)).off (by omega))) ?_
      refine Lst.nil ?_
      refine At.hd inv (fun w h => (h.weaken (FLe.refl _)).sublist (sc1 (.refl _))) ?_
      refine HdJ.step [15] (by kernel_rfl) rfl ?_
      refine HdStep.c (fun inv => ?_) ?_
      ·refine Lst.r (Ev.loadS (α := Str) rfl (Rd.own (i := 0) rfl rfl rfl) Try.isAgg9 (v := Str.v x17) ((Get.elemN (s := 1) (x := x17) rfl g35.2.2 (Get.here _)).off (by omega))) ?_
       refine Lst.nil ?_
       refine At.hd inv (fun w h => (h.weaken (FLe.refl _)).sublist (sc1 (.refl _))) ?_
       refine HdJ.step [16] (by kernel_rfl) rfl ?_
       refine HdStep.c (fun inv => ?_) ?_
       ·have g37 := lat_some h21
        refine Lst.r (Ev.indexS (α := Str) (xs := l10) rfl rfl Try.runUnderlying50 Try.sizeOf9 rfl (by decide) (Rd.own (i := 0) rfl rfl rfl) g37.1 g37.2.1) ?_
        refine Lst.nil ?_
        refine At.hd inv (fun w h => (h.weaken (FLe.refl _)).sublist (sc1 (.refl _))) ?_
        refine HdJ.step [17] (by kernel_rfl) rfl ?_
        refine HdStep.c (fun inv => ?_) ?_
        ·refine Lst.storeS (i := 0) rfl rfl rfl rfl rfl Try.sizeOf9 (vs := [Str.v x14]) rfl rfl (by decide) rfl (xs' := encs p23) (by rw [← h24]; exact (Put.elemN (s := 1) (x := x20) rfl g37.2.2 (Put.here (vs := [Str.v x14]) rfl)).off (by omega)) (L' := (.own s_a0 9 1 (encs p23)) :: L) rfl ?_
         refine Lst.nil ?_
         refine At.hd inv (fun w h => (h.weaken (FLe.refl _)).sublist (sc1 (.refl _))) ?_
         refine HdJ.done (by kernel_rfl) ?_
         exact At.meetN p23 (FLe.refl _) ⟨rfl, rfl, rfl, rfl, rfl, rfl, rfl, trivial⟩ rfl h28
        exact trivial
       exact trivial
      exact trivial
     refine HdStep.c (fun inv => ?_) ?_
     ·refine Lst.r (Ev.loadS (α := Str) rfl (Rd.own (i := 0) rfl rfl rfl) Try.isAgg9 (v := Str.v x17) ((Get.elemN (s := 1) (x := x17) rfl g35.2.2 (Get.here _)).off (by omega))) ?_
      refine Lst.nil ?_
      refine At.hd inv (fun w h => (h.weaken (FLe.refl _)).sublist (sc1 (.refl _))) ?_
      refine HdJ.step [11] (by kernel_rfl) rfl ?_
      refine HdStep.c (fun inv => ?_) ?_
      ·refine Lst.r (Ev.loadS (α := Str) rfl (Rd.own (i := 0) rfl rfl rfl) Try.isAgg9 (v := Str.v x14) ((Get.elemN (s := 1) (x := x14) rfl g36.2.2 (Get.here _)).off (by omega))) ?_
       refine Lst.nil ?_
       refine At.hd inv (fun w h => (h.weaken (FLe.refl _)).sublist (sc1 (.refl _))) ?_
       refine HdJ.step [16] (by kernel_rfl) rfl ?_
       refine HdStep.c (fun inv => ?_) ?_
       ·have g38 := lat_some h21
        refine Lst.r (Ev.indexS (α := Str) (xs := l10) rfl rfl Try.runUnderlying50 Try.sizeOf9 rfl (by decide) (Rd.own (i := 0) rfl rfl rfl) g38.1 g38.2.1) ?_
        refine Lst.nil ?_
        refine At.hd inv (fun w h => (h.weaken (FLe.refl _)).sublist (sc1 (.refl _))) ?_
        refine HdJ.step [17] (by kernel_rfl) rfl ?_
        refine HdStep.c (fun inv => ?_) ?_
        ·refine Lst.storeS (i := 0) rfl rfl rfl rfl rfl Try.sizeOf9 (vs := [Str.v x14]) rfl rfl (by decide) rfl (xs' := encs p23) (by rw [← h24]; exact (Put.elemN (s := 1) (x := x20) rfl g38.2.2 (Put.here (vs := [Str.v x14]) rfl)).off (by omega)) (L' := (.own s_a0 9 1 (encs p23)) :: L) rfl ?_
         refine Lst.nil ?_
         refine At.hd inv (fun w h => (h.weaken (FLe.refl _)).sublist (sc1 (.refl _))) ?_
         refine HdJ.done (by kernel_rfl) ?_
         exact At.meetN p23 (FLe.refl _) ⟨rfl, rfl, rfl, rfl, rfl, rfl, rfl, trivial⟩ rfl h28
        exact trivial
       exact trivial
      exact trivial
     exact trivial
    refine HdStep.c (fun inv => ?_) ?_
    ·refine Lst.r (Ev.loadS (α := Str) rfl (Rd.own (i := 0) rfl rfl rfl) Try.isAgg9 (v := Str.v x17) ((Get.elemN (s := 1) (x := x17) rfl g35.2.2 (Get.here _)).off (by omega))) ?_
     refine Lst.nil ?_
     refine At.hd inv (fun w h => (h.weaken (FLe.refl _)).sublist (sc1 (.refl _))) ?_
     refine HdJ.step [10] (by kernel_rfl) rfl ?_
     refine HdStep.c (fun inv => ?_) ?_
     ·have g39 := lat_some h15
      refine Lst.r (Ev.indexS (α := Str) (xs := l10) rfl rfl Try.runUnderlying50 Try.sizeOf9 rfl (by decide) (Rd.own (i := 0) rfl rfl rfl) g39.1 g39.2.1) ?_
      refine Lst.nil ?_
      refine At.hd inv (fun w h => (h.weaken (FLe.refl _)).sublist (sc1 (.refl _))) ?_
      refine HdJ.step [11] (by kernel_rfl) rfl ?_
      refine HdStep.c (fun inv => ?_) ?_
      ·refine Lst.r (Ev.loadS (α := Str) rfl (Rd.own (i := 0) rfl rfl rfl) Try.isAgg9 (v := Str.v x14) ((Get.elemN (s := 1) (x := x14) rfl g39.2.2 (Get.here _)).off (by omega))) ?_
       refine Lst.nil ?_
       refine At.hd inv (fun w h => (h.weaken (FLe.refl _)).sublist (sc1 (.refl _))) ?_
       refine HdJ.step [16] (by kernel_rfl) rfl ?_
       refine HdStep.c (fun inv => ?_) ?_
       ·have g40 := lat_some h21
        refine Lst.r (Ev.indexS (α := Str) (xs := l10) rfl rfl Try.runUnderlying50 Try.sizeOf9 rfl (by decide) (Rd.own (i := 0) rfl rfl rfl) g40.1 g40.2.1) ?_
        refine Lst.nil ?_
        refine At.hd inv (fun w h => (h.weaken (FLe.refl _)).sublist (sc1 (.refl _))) ?_
        refine HdJ.step [17] (by kernel_rfl) rfl ?_
        refine HdStep.c (fun inv => ?_) ?_
        ·refine Lst.storeS (i := 0) rfl rfl rfl rfl rfl Try.sizeOf9 (vs := [Str.v x14]) rfl rfl (by decide) rfl (xs' := encs p23) (by rw [← h24]; exact (Put.elemN (s := 1) (x := x20) rfl g40.2.2 (Put.here (vs := [Str.v x14]) rfl)).off (by omega)) (L' := (.own s_a0 9 1 (encs p23)) :: L) rfl ?_
         refine Lst.nil ?_
         refine At.hd inv (fun w h => (h.weaken (FLe.refl _)).sublist (sc1 (.refl _))) ?_
         refine HdJ.done (by kernel_rfl) ?_
         exact At.meetN p23 (FLe.refl _) ⟨rfl, rfl, rfl, rfl, rfl, rfl, rfl, trivial⟩ rfl h28
        exact trivial
       exact trivial
      exact trivial
     exact trivial
    exact trivial
   exact trivial
  rintro F41 l26 hF42 hy
  subst hy
  refine Lst.as (e' := [(0, Sl.v s_a0), (6, iv a1), (7, iv (0 : Int)), (10, iv y9), (35, Sl.v s_a0), (38, iv (w64 (a1 + y9))), (48, Str.v x17)]) (L' := (.own s_a0 9 1 (encs l26)) :: L) ⟨rfl, rfl, rfl, rfl, rfl, rfl, rfl, trivial⟩ rfl ?_
  obtain ⟨x43, h44, H⟩ := bind_some H
  have g45 := lat_some h44
  refine Lst.r (Ev.indexS (α := Str) (xs := l26) rfl rfl Try.runUnderlying50 Try.sizeOf9 rfl (by decide) (Rd.own (i := 0) rfl rfl rfl) g45.1 g45.2.1) ?_
  obtain ⟨p46, h47, H⟩ := Let_some H
  refine Lst.storeS (i := 0) rfl rfl rfl rfl rfl Try.sizeOf9 (vs := [Str.v x17]) rfl rfl (by decide) rfl (xs' := encs p46) (by rw [← h47]; exact (Put.elemN (s := 1) (x := x43) rfl g45.2.2 (Put.here (vs := [Str.v x17]) rfl)).off (by omega)) (L' := (.own s_a0 9 1 (encs p46)) :: L) rfl ?_
  refine Lst.nil ?_
  refine At.then ?_
  refine Cd.region ?_
  refine Lst.r (Ev.move rfl) ?_
  refine Lst.r (Ev.move rfl) ?_
  refine Lst.r (Ev.move rfl) ?_
  refine Lst.r (Ev.move rfl) ?_
  obtain ⟨r48, h49, H⟩ := bind_some H
  refine Lst.call rfl rfl (by decide) (vs := [Sl.v s_a0, iv (0 : Int), iv y9, iv a1]) ⟨rfl, rfl, rfl, rfl, trivial⟩ Try.call142 (slices_siftDownOrdered_string_sim h49 w0 _ M _ hM) (fun F50 L' v hF51 hv => ?_)
  obtain ⟨rfl, rfl⟩ := hv
  refine Lst.nil ?_
  refine At.in_normal ?_
  refine At.then ?_
  refine Cd.region ?_
  refine Lst.r (Ev.move rfl) ?_
  refine Lst.r (Ev.sub rfl rfl) ?_
  refine Lst.r (Ev.assign rfl) ?_
  refine Lst.nil ?_
  exact At.meet (k8, w64 (y9 - (1 : Int)), r48) (FLe.trans (FLe.trans hF12 hF42) hF51) ⟨rfl, rfl, rfl, rfl, trivial⟩ rfl ⟨hgo8 _ (some_inj H).symm, Nat.lt_succ_self _⟩
 replace H := ite_t hb7 H
 refine Cd.condT rfl hb7 ?_
 refine Cd.skip ?_
 refine At.then ?_
 refine Cd.seq ?_
 refine Cd.block ?_
 refine Cd.region ?_
 refine Lst.r (Ev.move rfl) ?_
 refine Lst.r (Ev.move rfl) ?_
 refine Lst.r (Ev.move rfl) ?_
 refine Lst.r (Ev.move rfl) ?_
 obtain ⟨r52, h53, H⟩ := bind_some H
 refine Lst.call rfl rfl (by decide) (vs := [Sl.v s_a0, iv y3, iv (w64 (a2 - a1)), iv a1]) ⟨rfl, rfl, rfl, rfl, trivial⟩ Try.call142 (slices_siftDownOrdered_string_sim h53 w0 _ M _ hM) (fun F54 L' v hF55 hv => ?_)
 obtain ⟨rfl, rfl⟩ := hv
 refine Lst.nil ?_
 refine At.in_normal ?_
 refine At.then ?_
 refine Cd.region ?_
 refine Lst.r (Ev.move rfl) ?_
 refine Lst.r (Ev.sub rfl rfl) ?_
 refine Lst.r (Ev.assign rfl) ?_
 refine Lst.nil ?_
 exact At.meet (k2, w64 (y3 - (1 : Int)), r52) (FLe.trans hF6 hF55) ⟨rfl, rfl, rfl, rfl, rfl, trivial⟩ rfl ⟨hgo2 _ (some_inj H).symm, Nat.lt_succ_self _⟩
set_option maxRecDepth 20000 in
theorem slices_nextPowerOfTwo_sim {a0 : Int} {r : (BitVec 64)} (H : slices_nextPowerOfTwo a0 = some r) (w0 : World) (F : Frz) (M L : List Item) (hM : M.Sublist L) : Ok Try.prog w0 143 [iv a0] F (L) (Is (.int .u64 r.toNat) (L)) := by
 unfold slices_nextPowerOfTwo at H
 refine Ok.enter (m := 1) (n := 7) Try.func143 rfl rfl rfl (by decide) ?_
 refine Cd.env (e' := [(0, iv a0)]) rfl ?_
 refine Cd.seq ?_
 refine Cd.region ?_
 refine Lst.r (Ev.assign rfl) ?_
 refine Lst.nil ?_
 refine At.then ?_
 refine Cd.seq ?_
 refine Cd.region ?_
 refine Lst.r (Ev.move rfl) ?_
 refine Lst.r (Ev.convTo64 rfl Try.runUnderlying3 Try.runUnderlying131) ?_
 obtain ⟨r1, h2, H⟩ := bind_some H
 refine Lst.call1 rfl rfl (by decide) (vs := [.int .u64 (BitVec.ofInt 64 a0).toNat]) ⟨rfl, trivial⟩ Try.call106 (math_bits_Len_sim h2 w0 _ M _ hM) ?_
 obtain ⟨n5, h6, H⟩ := bind_some H
 refine Lst.r (Ev.shlU64 (i := (1 : BitVec 64)) (m := n5) rfl (congrArg some (congrArg (Value.int .i64) (cnt_some h6)))) ?_
 refine Lst.r (Ev.assign rfl) ?_
 refine Lst.nil ?_
 refine At.then ?_
 obtain rfl := some_inj H
 refine Cd.ret ?_
 exact At.ret1 rfl (Res.tmp rfl) (FLe.refl _) (.refl _) ⟨rfl, rfl⟩
set_option maxRecDepth 20000 in
theorem slices_xorshift_Next_sim {a0 : BitVec 64} {b_a0 : Nat} {r : (BitVec 64) × (BitVec 64)} (H : slices_xorshift_Next a0 = some r) (w0 : World) (F : Frz) (M L : List Item) (hM : M.Sublist L) : Ok Try.prog w0 144 [pv b_a0 0] F ((.blk b_a0 (enc a0) 159) :: L) (fun _ L' v => v = .int .u64 r.2.toNat ∧ L' = (.blk b_a0 (enc r.1) 159) :: L) := by
 unfold slices_xorshift_Next at H
 refine Ok.enter (m := 1) (n := 33) Try.func144 rfl rfl rfl (by decide) ?_
 refine Cd.env (e' := [(0, pv b_a0 0)]) rfl ?_
 refine Cd.seq ?_
 refine Cd.region ?_
 refine Lst.r (Ev.assign rfl) ?_
 refine Lst.nil ?_
 refine At.then ?_
 refine Cd.seq ?_
 refine Cd.tail 9 (by kernel_rfl) (by kernel_rfl) ?_
 refine Qt.r (Ev.move rfl) ?_
 refine Qt.r (Ev.nilCheck rfl) ?_
 refine Qt.r (Ev.load (i := 0) rfl rfl Try.isAgg159 (v := .int .u64 a0.toNat) (Get.here _)) ?_
 refine Qt.r (Ev.move rfl) ?_
 refine Qt.r (Ev.nilCheck rfl) ?_
 refine Qt.r (Ev.load (i := 0) rfl rfl Try.isAgg159 (v := .int .u64 a0.toNat) (Get.here _)) ?_
 refine Qt.r (Ev.shlU64 (i := a0) (m := 13) rfl rfl) ?_
 refine Qt.r (Ev.xorU64 (i := a0) (j := a0 <<< 13) rfl rfl) ?_
 refine Qt.r (Ev.nilCheck rfl) ?_
 refine Qt.tail ?_
 refine Lst.store (i := 0) rfl rfl rfl rfl rfl Try.sizeOf159 (vs := [.int .u64 (a0 ^^^ (a0 <<< 13)).toNat]) rfl rfl rfl (cs' := enc (a0 ^^^ (a0 <<< 13))) (Put.here (vs := [.int .u64 (a0 ^^^ (a0 <<< 13)).toNat]) rfl) (L' := (.blk b_a0 (enc (a0 ^^^ (a0 <<< 13))) 159) :: L) rfl ?_
 refine Lst.nil ?_
 refine At.then ?_
 refine Cd.seq ?_
 refine Cd.tail 9 (by kernel_rfl) (by kernel_rfl) ?_
 refine Qt.r (Ev.move rfl) ?_
 refine Qt.r (Ev.nilCheck rfl) ?_
 refine Qt.r (Ev.load (i := 0) rfl rfl Try.isAgg159 (v := .int .u64 (a0 ^^^ (a0 <<< 13)).toNat) (Get.here _)) ?_
 refine Qt.r (Ev.move rfl) ?_
 refine Qt.r (Ev.nilCheck rfl) ?_
 refine Qt.r (Ev.load (i := 0) rfl rfl Try.isAgg159 (v := .int .u64 (a0 ^^^ (a0 <<< 13)).toNat) (Get.here _)) ?_
 refine Qt.r (Ev.shrU64 (i := a0 ^^^ (a0 <<< 13)) (m := 7) rfl rfl) ?_
 refine Qt.r (Ev.xorU64 (i := a0 ^^^ (a0 <<< 13)) (j := (a0 ^^^ (a0 <<< 13)) >>> 7) rfl rfl) ?_
 refine Qt.r (Ev.nilCheck rfl) ?_
 refine Qt.tail ?_
 refine Lst.store (i := 0) rfl rfl rfl rfl rfl Try.sizeOf159 (vs := [.int .u64 ((a0 ^^^ (a0 <<< 13)) ^^^ ((a0 ^^^ (a0 <<< 13)) >>> 7)).toNat]) rfl rfl rfl (cs' := enc ((a0 ^^^ (a0 <<< 13)) ^^^ ((a0 ^^^ (a0 <<< 13)) >>> 7))) (Put.here (vs := [.int .u64 ((a0 ^^^ (a0 <<< 13)) ^^^ ((a0 ^^^ (a0 <<< 13)) >>> 7)).toNat]) rfl) (L' := (.blk b_a0 (enc ((a0 ^^^ (a0 <<< 13)) ^^^ ((a0 ^^^ (a0 <<< 13)) >>> 7))) 159) :: L) rfl ?_
 refine Lst.nil ?_
 refine At.then ?_
 refine Cd.seq ?_
 refine Cd.as (e' := [(0, pv b_a0 0)]) (L' := (.blk b_a0 (enc ((a0 ^^^ (a0 <<< 13)) ^^^ ((a0 ^^^ (a0 <<< 13)) >>> 7))) 159) :: L) ⟨rfl, trivial⟩ rfl ?_
 refine Cd.tail 9 (by kernel_rfl) (by kernel_rfl) ?_
 refine Qt.r (Ev.move rfl) ?_
 refine Qt.r (Ev.nilCheck rfl) ?_
 refine Qt.r (Ev.load (i := 0) rfl rfl Try.isAgg159 (v := .int .u64 ((a0 ^^^ (a0 <<< 13)) ^^^ ((a0 ^^^ (a0 <<< 13)) >>> 7)).toNat) (Get.here _)) ?_
 refine Qt.r (Ev.move rfl) ?_
 refine Qt.r (Ev.nilCheck rfl) ?_
 refine Qt.r (Ev.load (i := 0) rfl rfl Try.isAgg159 (v := .int .u64 ((a0 ^^^ (a0 <<< 13)) ^^^ ((a0 ^^^ (a0 <<< 13)) >>> 7)).toNat) (Get.here _)) ?_
 refine Qt.r (Ev.shlU64 (i := (a0 ^^^ (a0 <<< 13)) ^^^ ((a0 ^^^ (a0 <<< 13)) >>> 7)) (m := 17) rfl rfl) ?_
 refine Qt.r (Ev.xorU64 (i := (a0 ^^^ (a0 <<< 13)) ^^^ ((a0 ^^^ (a0 <<< 13)) >>> 7)) (j := ((a0 ^^^ (a0 <<< 13)) ^^^ ((a0 ^^^ (a0 <<< 13)) >>> 7)) <<< 17) rfl rfl) ?_
 refine Qt.r (Ev.nilCheck rfl) ?_
 refine Qt.tail ?_
 refine Lst.store (i := 0) rfl rfl rfl rfl rfl Try.sizeOf159 (vs := [.int .u64 (((a0 ^^^ (a0 <<< 13)) ^^^ ((a0 ^^^ (a0 <<< 13)) >>> 7)) ^^^ (((a0 ^^^ (a0 <<< 13)) ^^^ ((a0 ^^^ (a0 <<< 13)) >>> 7)) <<< 17)).toNat]) rfl rfl rfl (cs' := enc (((a0 ^^^ (a0 <<< 13)) ^^^ ((a0 ^^^ (a0 <<< 13)) >>> 7)) ^^^ (((a0 ^^^ (a0 <<< 13)) ^^^ ((a0 ^^^ (a0 <<< 13)) >>> 7)) <<< 17))) (Put.here (vs := [.int .u64 (((a0 ^^^ (a0 <<< 13)) ^^^ ((a0 ^^^ (a0 <<< 13)) >>> 7)) ^^^ (((a0 ^^^ (a0 <<< 13)) ^^^ ((a0 ^^^ (a0 <<< 13)) >>> 7)) <<< 17)).toNat]) rfl) (L' := (.blk b_a0 (enc (((a0 ^^^ (a0 <<< 13)) ^^^ ((a0 ^^^ (a0 <<< 13)) >>> 7)) ^^^ (((a0 ^^^ (a0 <<< 13)) ^^^ ((a0 ^^^ (a0 <<< 13)) >>> 7)) <<< 17))) 159) :: L) rfl ?_
 refine Lst.nil ?_
 refine At.then ?_
 refine Cd.seq ?_
 refine Cd.region ?_
 refine Lst.r (Ev.move rfl) ?_
 refine Lst.r (Ev.nilCheck rfl) ?_
 refine Lst.r (Ev.load (i := 0) rfl rfl Try.isAgg159 (v := .int .u64 (((a0 ^^^ (a0 <<< 13)) ^^^ ((a0 ^^^ (a0 <<< 13)) >>> 7)) ^^^ (((a0 ^^^ (a0 <<< 13)) ^^^ ((a0 ^^^ (a0 <<< 13)) >>> 7)) <<< 17)).toNat) (Get.here _)) ?_
 refine Lst.r (Ev.assign rfl) ?_
 refine Lst.nil ?_
 refine At.then ?_
 obtain rfl := some_inj H
 refine Cd.ret ?_
 exact At.ret1 rfl (Res.tmp rfl) (FLe.refl _) (sk1 (.refl _)) ⟨rfl, rfl⟩
set_option maxRecDepth 20000 in
theorem slices_breakPatternsOrdered_string_sim {fu : Nat} {a0 : List Str} {a1 : Int} {a2 : Int} {s_a0 : Sl} {r : (List Str)} (H : slices_breakPatternsOrdered_string fu a0 a1 a2 = some r) (w0 : World) (F : Frz) (M L : List Item) (hM : M.Sublist L) : Ok Try.prog w0 117 [Sl.v s_a0, iv a1, iv a2] F ((.own s_a0 9 1 (encs a0)) :: L) (fun _ L' v => v = .tuple #[] ∧ L' = (.own s_a0 9 1 (encs r)) :: L) := by
 unfold slices_breakPatternsOrdered_string at H
 refine Ok.enter (m := 3) (n := 65) Try.func117 rfl rfl rfl (by decide) ?_
 refine Cd.env (e' := [(0, Sl.v s_a0), (1, iv a1), (2, iv a2)]) rfl ?_
 refine Cd.seq ?_
 refine Cd.region ?_
 refine Lst.r (Ev.move rfl) ?_
 refine Lst.r (Ev.move rfl) ?_
 refine Lst.r (Ev.sub rfl rfl) ?_
 refine Lst.r (Ev.assign rfl) ?_
 refine Lst.nil ?_
 refine At.then ?_
 refine Cd.seq ?_
 refine Cd.region ?_
 refine Lst.r (Ev.move rfl) ?_
 refine Lst.r (Ev.geq rfl rfl) ?_
 refine Lst.nil ?_
 refine At.then ?_
 rcases (Bool.eq_false_or_eq_true (decide ((w64 (a2 - a1)) ≥ (8 : Int)))).symm with hb2 | hb2
 ·replace H := ite_f hb2 H
  refine Cd.condF rfl hb2 ?_
  refine Cd.skip ?_
  obtain rfl := some_inj H
  exact At.ret0 (.inr rfl) rfl (FLe.refl _) (sk1 (.refl _)) ⟨rfl, rfl⟩
 replace H := ite_t hb2 H
 refine Cd.condT rfl hb2 ?_
 refine Cd.seq ?_
 refine Cd.region ?_
 refine Lst.r (Ev.move rfl) ?_
 refine Lst.r (Ev.convTo64 rfl Try.runUnderlying3 Try.runUnderlying159) ?_
 refine Lst.alloc (cs := enc (0 : BitVec 64)) rfl rfl (by decide) Try.zeroValue159 rfl (fun b3 => ?_)
 refine Lst.store (i := 0) rfl rfl rfl rfl rfl Try.sizeOf159 (vs := [.int .u64 (BitVec.ofInt 64 (w64 (a2 - a1))).toNat]) rfl rfl rfl (cs' := enc (BitVec.ofInt 64 (w64 (a2 - a1)))) (Put.here (vs := [.int .u64 (BitVec.ofInt 64 (w64 (a2 - a1))).toNat]) rfl) (L' := (.blk b3 (enc (BitVec.ofInt 64 (w64 (a2 - a1)))) 159) :: (.own s_a0 9 1 (encs a0)) :: L) rfl ?_
 refine Lst.nil ?_
 refine At.then ?_
 refine Cd.seq ?_
 refine Cd.region ?_
 refine Lst.r (Ev.move rfl) ?_
 obtain ⟨r5, h6, H⟩ := bind_some H
 refine Lst.call1 rfl rfl (by decide) (vs := [iv (w64 (a2 - a1))]) ⟨rfl, trivial⟩ Try.call143 (slices_nextPowerOfTwo_sim h6 w0 _ M _ (sc2 hM)) ?_
 refine Lst.r (Ev.assign rfl) ?_
 refine Lst.nil ?_
 refine At.then ?_
 refine Cd.seq ?_
 refine Cd.region ?_
 refine Lst.r (Ev.move rfl) ?_
 refine Lst.r (Ev.move rfl) ?_
 refine Lst.r (Ev.quo (i := w64 (a2 - a1)) (j := (4 : Int)) rfl rfl (by decide)) ?_
 refine Lst.r (Ev.mul rfl rfl) ?_
 refine Lst.r (Ev.add rfl rfl) ?_
 refine Lst.r (Ev.sub rfl rfl) ?_
 refine Lst.r (Ev.assign rfl) ?_
 refine Lst.nil ?_
 refine At.then ?_
 refine Cd.block ?_
 obtain ⟨ol9, H, HKl9⟩ := andThen_some H
 refine Cd.loop (σ := Nat × Int × (BitVec 64) × (List Str)) (fun (k9, y10, y11, l12) => [(0, Sl.v s_a0), (1, iv a1), (6, iv (w64 (a2 - a1))), (7, pv b3 0), (8, .int .u64 r5.toNat), (9, iv y10)]) (fun (k9, y10, y11, l12) => (.blk b3 (enc y11) 159) :: (.own s_a0 9 1 (encs l12)) :: L) (fun _ => (fun (k9, y10, y11, l12) => whileM (slices_breakPatternsOrdered_string_B0 a1 a2 r5) k9 (y10, y11, l12) = some ol9)) (fun (k9, y10, y11, l12) => k9) (fu, w64 ((w64 (a1 + (w64 ((w64 ((w64 (a2 - a1)).tdiv (4 : Int))) * (2 : Int))))) - (1 : Int)), BitVec.ofInt 64 (w64 (a2 - a1)), a0) ⟨rfl, rfl, rfl, rfl, rfl, rfl, trivial⟩ rfl H ?_
 rintro F13 ⟨k9, y10, y11, l12⟩ hF14 H
 refine Cd.as (e' := [(0, Sl.v s_a0), (1, iv a1), (6, iv (w64 (a2 - a1))), (7, pv b3 0), (8, .int .u64 r5.toNat), (9, iv y10)]) (L' := (.blk b3 (enc y11) 159) :: (.own s_a0 9 1 (encs l12)) :: L) ⟨rfl, rfl, rfl, rfl, rfl, rfl, trivial⟩ rfl ?_
 rcases k9 with _ | k9
 ·cases H
 obtain ⟨c9, H, hgo9, hbrk9, hret9⟩ := whileM_go H
 unfold slices_breakPatternsOrdered_string_B0 at H
 try dsimp only at H
 refine Cd.seq ?_
 refine Cd.seq ?_
 refine Cd.region ?_
 refine Lst.r (Ev.move rfl) ?_
 refine Lst.r (Ev.move rfl) ?_
 refine Lst.r (Ev.move rfl) ?_
 refine Lst.r (Ev.quo (i := w64 (a2 - a1)) (j := (4 : Int)) rfl rfl (by decide)) ?_
 refine Lst.r (Ev.mul rfl rfl) ?_
 refine Lst.r (Ev.add rfl rfl) ?_
 refine Lst.r (Ev.add rfl rfl) ?_
 refine Lst.r (Ev.leq rfl rfl) ?_
 refine Lst.nil ?_
 refine At.then ?_
 rcases (Bool.eq_false_or_eq_true (decide (y10 ≤ (w64 ((w64 (a1 + (w64 ((w64 ((w64 (a2 - a1)).tdiv (4 : Int))) * (2 : Int))))) + (1 : Int)))))).symm with hb15 | hb15
 ·replace H := ite_f hb15 H
  refine Cd.condF rfl hb15 ?_
  refine Cd.exit ?_
  refine At.then_exit ?_
  refine At.then_exit ?_
  refine At.in_exit ?_
  have H := hbrk9 _ (some_inj H).symm
  subst H
  replace H := HKl9
  obtain rfl := some_inj H
  exact At.ret0 (.inr rfl) rfl hF14 (sc1 (sk1 (.refl _))) ⟨rfl, rfl⟩
 replace H := ite_t hb15 H
 refine Cd.condT rfl hb15 ?_
 refine Cd.skip ?_
 refine At.then ?_
 refine Cd.seq ?_
 refine Cd.block ?_
 refine Cd.seq ?_
 refine Cd.region ?_
 obtain ⟨r16, h17, H⟩ := bind_some H
 refine Lst.call rfl rfl (by decide) (vs := [pv b3 0]) ⟨rfl, trivial⟩ Try.call144 (slices_xorshift_Next_sim h17 w0 _ M _ (sc1 hM)) (fun F18 L' v hF19 hv => ?_)
 obtain ⟨rfl, rfl⟩ := hv
 refine Lst.r (Ev.move rfl) ?_
 refine Lst.r (Ev.subU64 (i := r5) (j := (1 : BitVec 64)) rfl rfl) ?_
 refine Lst.r (Ev.andU64 (i := r16.2) (j := r5 - (1 : BitVec 64)) rfl rfl) ?_
 refine Lst.r (Ev.conv64 rfl Try.runUnderlying131 Try.runUnderlying3) ?_
 refine Lst.r (Ev.assign rfl) ?_
 refine Lst.nil ?_
 refine At.then ?_
 obtain ⟨o21, H, HKo21⟩ := bind_some H
 refine Cd.join (σ := Int) (fun y20 => [(0, Sl.v s_a0), (1, iv a1), (6, iv (w64 (a2 - a1))), (7, pv b3 0), (8, .int .u64 r5.toNat), (9, iv y10), (10, iv y20)]) (fun y20 => (.blk b3 (enc r16.1) 159) :: (.own s_a0 9 1 (encs l12)) :: L) (fun _ y20 => y20 = o21) ?_ ?_
 ·refine Cd.seq ?_
  refine Cd.region ?_
  refine Lst.r (Ev.move rfl) ?_
  refine Lst.r (Ev.move rfl) ?_
  refine Lst.r (Ev.geq rfl rfl) ?_
  refine Lst.nil ?_
  refine At.then ?_
  rcases (Bool.eq_false_or_eq_true (decide ((w64 ((r16.2 &&& (r5 - (1 : BitVec 64))).toNat : Int)) ≥ (w64 (a2 - a1))))).symm with hb22 | hb22
  ·replace H := ite_f hb22 H
   refine Cd.condF rfl hb22 ?_
   refine Cd.skip ?_
   exact At.meet (w64 ((r16.2 &&& (r5 - (1 : BitVec 64))).toNat : Int)) (FLe.refl _) ⟨rfl, rfl, rfl, rfl, rfl, rfl, rfl, trivial⟩ rfl (some_inj H)
  replace H := ite_t hb22 H
  refine Cd.condT rfl hb22 ?_
  refine Cd.as (e' := [(0, Sl.v s_a0), (1, iv a1), (6, iv (w64 (a2 - a1))), (7, pv b3 0), (8, .int .u64 r5.toNat), (9, iv y10), (10, iv (w64 ((r16.2 &&& (r5 - (1 : BitVec 64))).toNat : Int)))]) (L' := (.blk b3 (enc r16.1) 159) :: (.own s_a0 9 1 (encs l12)) :: L) ⟨rfl, rfl, rfl, rfl, rfl, rfl, rfl, trivial⟩ rfl ?_
  refine Cd.region ?_
  refine Lst.r (Ev.move rfl) ?_
  refine Lst.r (Ev.move rfl) ?_
  refine Lst.r (Ev.sub rfl rfl) ?_
  refine Lst.r (Ev.assign rfl) ?_
  refine Lst.nil ?_
  exact At.meet (w64 ((w64 ((r16.2 &&& (r5 - (1 : BitVec 64))).toNat : Int)) - (w64 (a2 - a1)))) (FLe.refl _) ⟨rfl, rfl, rfl, rfl, rfl, rfl, rfl, trivial⟩ rfl (some_inj H)
 rintro F23 y20 hF24 hy
 subst hy
 refine Cd.as (e' := [(0, Sl.v s_a0), (1, iv a1), (6, iv (w64 (a2 - a1))), (7, pv b3 0), (8, .int .u64 r5.toNat), (9, iv y10), (10, iv y20)]) (L' := (.blk b3 (enc r16.1) 159) :: (.own s_a0 9 1 (encs l12)) :: L) ⟨rfl, rfl, rfl, rfl, rfl, rfl, rfl, trivial⟩ rfl ?_
 replace H := HKo21
 obtain ⟨x25, h26, H⟩ := bind_some H
 obtain ⟨x28, h29, H⟩ := bind_some H
 obtain ⟨x31, h32, H⟩ := bind_some H
 obtain ⟨p34, h35, H⟩ := Let_some H
 obtain ⟨o38, h39, H⟩ := Let_some H
 refine Cd.headMeet (σ := (List Str)) 18 (fun l37 => [(0, Sl.v s_a0), (1, iv a1), (6, iv (w64 (a2 - a1))), (7, pv b3 0), (8, .int .u64 r5.toNat), (9, iv y10), (49, Sl.v s_a0), (52, iv (w64 (a1 + y20))), (62, Str.v x28)]) (fun l37 => (.blk b3 (enc r16.1) 159) :: (.own s_a0 9 1 (encs l37)) :: L) (fun _ l37 => l37 = o38) (by kernel_rfl) (by kernel_rfl) (behind_sink (by kernel_rfl) (by kernel_rfl) (by kernel_rfl)) (by kernel_rfl) (fun hsel hlt => ?_) ?_
 ·refine HdJ.keep (fun w => St w0 F23 ((.blk b3 (enc r16.1) 159) :: L) w) (fun w h => trivial) ?_
  refine HdJ.tk hsel hlt 0 (fun w h => h.sublist (sk1 (sc1 (.refl _)))) rfl (Ev.move rfl) ?_
  refine HdJ.tk hsel hlt 1 (fun w h => h.sublist (sk1 (sc1 (.refl _)))) rfl (Ev.move rfl) ?_
  refine HdJ.tk hsel hlt 2 (fun w h => h.sublist (sk1 (sc1 (.refl _)))) rfl (Ev.move rfl) ?_
  refine HdJ.tk hsel hlt 3 (fun w h => h.sublist (sk1 (sc1 (.refl _)))) rfl (Ev.move rfl) ?_
  refine HdJ.tk hsel hlt 4 (fun w h => h.sublist (sk1 (sc1 (.refl _)))) rfl (Ev.move rfl) ?_
  refine HdJ.tk hsel hlt 5 (fun w h => h.sublist (sk1 (sc1 (.refl _)))) rfl (Ev.add rfl rfl) ?_
  refine HdJ.tk hsel hlt 6 (fun w h => h.sublist (sk1 (sc1 (.refl _)))) rfl (Ev.move rfl) ?_
  refine HdJ.tk hsel hlt 7 (fun w h => h.sublist (sk1 (sc1 (.refl _)))) rfl (Ev.move rfl) ?_
  refine HdJ.tk hsel hlt 8 (fun w h => h.sublist (sk1 (sc1 (.refl _)))) rfl (Ev.move rfl) ?_
  refine HdJ.tk hsel hlt 9 (fun w h => h.sublist (sk1 (sc1 (.refl _)))) rfl (Ev.add rfl rfl) ?_
  refine HdJ.tk hsel hlt 12 (fun w h => h.sublist (sk1 (sc1 (.refl _)))) rfl (Ev.move rfl) ?_
  refine HdJ.tk hsel hlt 13 (fun w h => h.sublist (sk1 (sc1 (.refl _)))) rfl (Ev.move rfl) ?_
  refine HdJ.step [10, 14] (by kernel_rfl) rfl ?_
  refine HdStep.c (fun inv => ?_) ?_
  ·have g40 := lat_some h26
   refine Lst.r (Ev.indexS (α := Str) (xs := l12) rfl rfl Try.runUnderlying50 Try.sizeOf9 rfl (by decide) (Rd.own (i := 1) rfl rfl rfl) g40.1 g40.2.1) ?_
   refine Lst.nil ?_
   refine At.hd inv (fun w h => (h.weaken (FLe.refl _)).sublist (sk1 (sc1 (.refl _)))) ?_
   refine HdJ.step [11, 14] (by kernel_rfl) rfl ?_
   refine HdStep.c (fun inv => ?_) ?_
   ·refine Lst.r (Ev.loadS (α := Str) rfl (Rd.own (i := 1) rfl rfl rfl) Try.isAgg9 (v := Str.v x25) ((Get.elemN (s := 1) (x := x25) rfl g40.2.2 (Get.here _)).off (by omega))) ?_
    refine Lst.nil ?_
    refine At.hd inv (fun w h => (h.weaken (FLe.refl _)).sublist (sk1 (sc1 (.refl _)))) ?_
    refine HdJ.step [14] (by kernel_rfl) rfl ?_
    refine HdStep.c (fun inv => ?_) ?_
    ·have g41 := lat_some h29
     refine Lst.r (Ev.indexS (α := Str) (xs := l12) rfl rfl Try.runUnderlying50 Try.sizeOf9 rfl (by decide) (Rd.own (i := 1) rfl rfl rfl) g41.1 g41.2.1) ?_
     refine Lst.nil ?_
     refine At.hd inv (fun w h => (h.weaken (FLe.refl _)).sublist (sk1 (sc1 (.refl _)))) ?_
     refine HdJ.step [15] (by kernel_rfl) rfl ?_
     refine HdStep.c (fun inv => ?_) ?_
     ·refine Lst.r (Ev.loadS (α := Str) rfl (Rd.own (i := 1) rfl rfl rfl) Try.isAgg9 (v := Str.v x28) ((Get.elemN (s := 1) (x := x28) rfl g41.2.2 (Get.here _)).off (by omega))) ?_
      refine Lst.nil ?_
      refine At.hd inv (fun w h => (h.weaken (FLe.refl _)).sublist (sk1 (sc1 (.refl _)))) ?_
      refine HdJ.step [16] (by kernel_rfl) rfl ?_
      refine HdStep.c (fun inv => ?_) ?_
      ·have g42 := lat_some h32
       refine Lst.r (Ev.indexS (α := Str) (xs := l12) rfl rfl Try.runUnderlying50 Try.sizeOf9 rfl (by decide) (Rd.own (i := 1) rfl rfl rfl) g42.1 g42.2.1) ?_
       refine Lst.nil ?_
       refine At.hd inv (fun w h => (h.weaken (FLe.refl _)).sublist (sk1 (sc1 (.refl _)))) ?_
       refine HdJ.step [17] (by kernel_rfl) rfl ?_
       refine HdStep.c (fun inv => ?_) ?_
       ·refine Lst.storeS (i := 1) rfl rfl rfl rfl rfl Try.sizeOf9 (vs := [Str.v x25]) rfl rfl (by decide) rfl (xs' := encs p34) (by rw [← h35]; exact (Put.elemN (s := 1) (x := x31) rfl g42.2.2 (Put.here (vs := [Str.v x25]) rfl)).off (by omega)) (L' := (.blk b3 (enc r16.1) 159) :: (.own s_a0 9 1 (encs p34)) :: L) rfl ?_
        refine Lst.nil ?_
        refine At.hd inv (fun w h => (h.weaken (FLe.refl _)).sublist (sk1 (sc1 (.refl _)))) ?_
        refine HdJ.done (by kernel_rfl) ?_
        exact At.meetN p34 (FLe.refl _) ⟨rfl, rfl, rfl, rfl, rfl, rfl, rfl, rfl, rfl, trivial⟩ rfl h39
       exact trivial
      exact trivial
     exact trivial
    exact trivial
   refine HdStep.c (fun inv => ?_) ?_
   ·have g43 := lat_some h29
    refine Lst.r (Ev.indexS (α := Str) (xs := l12) rfl rfl Try.runUnderlying50 Try.sizeOf9 rfl (by decide) (Rd.own (i := 1) rfl rfl rfl) g43.1 g43.2.1) ?_
    refine Lst.nil ?_
    refine At.hd inv (fun w h => (h.weaken (FLe.refl _)).sublist (sk1 (sc1 (.refl _)))) ?_
    refine HdJ.step [11, 15] (by kernel_rfl) rfl ?_
    refine HdStep.c (fun inv => ?_) ?_
    ·refine Lst.r (Ev.loadS (α := Str) rfl (Rd.own (i := 1) rfl rfl rfl) Try.isAgg9 (v := Str.v x25) ((Get.elemN (s := 1) (x := x25) rfl g40.2.2 (Get.here _)).off (by omega))) ?_
     refine Lst.nil ?_
     refine At.hd inv (fun w h => (h.weaken (FLe.refl _)).sublist (sk1 (sc1 (.refl _)))) ?_
     refine HdJ.step [15] (by kernel_rfl) rfl ?_
     refine HdStep.c (fun inv => ?_) ?_
     ·refine Lst.r (Ev.loadS (α := Str) rfl (Rd.own (i := 1) rfl rfl rfl) Try.isAgg9 (v := Str.v x28) ((Get.elemN (s := 1) (x := x28) rfl g43.2.2 (Get.here _)).off (by omega))) ?_
      refine Lst.nil ?_
      refine At.hd inv (fun w h => (h.weaken (FLe.refl _)).sublist (sk1 (sc1 (.refl _)))) ?_
      refine HdJ.step [16] (by kernel_rfl) rfl ?_
      refine HdStep.c (fun inv => ?_) ?_
      ·have g44 := lat_some h32
       refine Lst.r (Ev.indexS (α := Str) (xs := l12) rfl rfl Try.runUnderlying50 Try.sizeOf9 rfl (by decide) (Rd.own (i := 1) rfl rfl rfl) g44.1 g44.2.1) ?_
       refine Lst.nil ?_
       refine At.hd inv (fun w h => (h.weaken (FLe.refl _)).sublist (sk1 (sc1 (.refl _)))) ?_
       refine HdJ.step [17] (by kernel_rfl) rfl ?_
       refine HdStep.c (fun inv => ?_) ?_
       ·refine Lst.storeS (i := 1) rfl rfl rfl rfl rfl Try.sizeOf9 (vs := [Str.v x25]) rfl rfl (by decide) rfl (xs' := encs p34) (by rw [← h35]; exact (Put.elemN (s := 1) (x := x31) rfl g44.2.2 (Put.here (vs := [Str.v x25]) rfl)).off (by omega)) (L' := (.blk b3 (enc r16.1) 159) :: (.own s_a0 9 1 (encs p34)) :: L) rfl ?_
        refine Lst.nil ?_
        refine At.hd inv (fun w h => (h.weaken (FLe.refl _)).sublist (sk1 (sc1 (.refl _)))) ?_
        refine HdJ.done (by kernel_rfl) ?_
        exact At.meetN p34 (FLe.refl _) ⟨rfl, rfl, rfl, rfl, rfl, rfl, rfl, rfl, rfl, trivial⟩ rfl h39
       exact trivial
      exact trivial
     exact trivial
    refine HdStep.c (fun inv => ?_) ?_
    ·refine Lst.r (Ev.loadS (α := Str) rfl (Rd.own (i := 1) rfl rfl rfl) Try.isAgg9 (v := Str.v x28) ((Get.elemN (s := 1) (x := x28) rfl g43.2.2 (Get.here _)).off (by omega))) ?_
     refine Lst.nil ?_
     refine At.hd inv (fun w h => (h.weaken (FLe.refl _)).sublist (sk1 (sc1 (.refl _)))) ?_
     refine HdJ.step [11] (by kernel_rfl) rfl ?_
     refine HdStep.c (fun inv => ?_) ?_
     ·refine Lst.r (Ev.loadS (α := Str) rfl (Rd.own (i := 1) rfl rfl rfl) Try.isAgg9 (v := Str.v x25) ((Get.elemN (s := 1) (x := x25) rfl g40.2.2 (Get.here _)).off (by omega))) ?_
      refine Lst.nil ?_
      refine At.hd inv (fun w h => (h.weaken (FLe.refl _)).sublist (sk1 (sc1 (.refl _)))) ?_
      refine HdJ.step [16] (by kernel_rfl) rfl ?_
      refine HdStep.c (fun inv => ?_) ?_
      ·have g45 := lat_some h32
       refine Lst.r (Ev.indexS (α := Str) (xs := l12) rfl rfl Try.runUnderlying50 Try.sizeOf9 rfl (by decide) (Rd.own (i := 1) rfl rfl rfl) g45.1 g45.2.1) ?_
       refine Lst.nil ?_
       refine At.hd inv (fun w h => (h.weaken (FLe.refl _)).sublist (sk1 (sc1 (.refl _)))) ?_
       refine HdJ.step [17] (by kernel_rfl) rfl ?_
       refine HdStep.c (fun inv => ?_) ?_
       ·refine Lst.storeS (i := 1) rfl rfl rfl rfl rfl Try.sizeOf9 (vs := [Str.v x25]) rfl rfl (by decide) rfl (xs' := encs p34) (by rw [← h35]; exact (Put.elemN (s := 1) (x := x31) rfl g45.2.2 (Put.here (vs := [Str.v x25]) rfl)).off (by omega)) (L' := (.blk b3 (enc r16.1) 159) :: (.own s_a0 9 1 (encs p34)) :: L) rfl ?_
        refine Lst.nil ?_
        refine At.hd inv (fun w h => (h.weaken (FLe.refl _)).sublist (sk1 (sc1 (.refl _)))) ?_
        refine HdJ.done (by kernel_rfl) ?_
        exact At.meetN p34 (FLe.refl _) ⟨rfl, rfl, rfl, rfl, rfl, rfl, rfl, rfl, rfl, trivial⟩ rfl h39
       exact trivial
      exact trivial
     exact trivial
    exact trivial
   exact trivial
  refine HdStep.c (fun inv => ?_) ?_
  ·have g46 := lat_some h29
   refine Lst.r (Ev.indexS (α := Str) (xs := l12) rfl rfl Try.runUnderlying50 Try.sizeOf9 rfl (by decide) (Rd.own (i := 1) rfl rfl rfl) g46.1 g46.2.1) ?_
   refine Lst.nil ?_
   refine At.hd inv (fun w h => (h.weaken (FLe.refl _)).sublist (sk1 (sc1 (.refl _)))) ?_
   refine HdJ.step [10, 15] (by kernel_rfl) rfl ?_
   refine HdStep.c (fun inv => ?_) ?_
   ·have g47 := lat_some h26
    refine Lst.r (Ev.indexS (α := Str) (xs := l12) rfl rfl Try.runUnderlying50 Try.sizeOf9 rfl (by decide) (Rd.own (i := 1) rfl rfl rfl) g47.1 g47.2.1) ?_
    refine Lst.nil ?_
    refine At.hd inv (fun w h => (h.weaken (FLe.refl _)).sublist (sk1 (sc1 (.refl _)))) ?_
    refine HdJ.step [11, 15] (by kernel_rfl) rfl ?_
    refine HdStep.c (fun inv => ?_) ?_
    ·refine Lst.r (Ev.loadS (α := Str) rfl (Rd.own (i := 1) rfl rfl rfl) Try.isAgg9 (v := Str.v x25) ((Get.elemN (s := 1) (x := x25) rfl g47.2.2 (Get.here _)).off (by omega))) ?_
     refine Lst.nil ?_
     refine At.hd inv (fun w h => (h.weaken (FLe.refl _)).sublist (sk1 (sc1 (.refl _)))) ?_
     refine HdJ.step [15] (by kernel_rfl) rfl ?_
     refine HdStep.c (fun inv => ?_) ?_
     ·refine Lst.r (Ev.loadS (α := Str) rfl (Rd.own (i := 1) rfl rfl rfl) Try.isAgg9 (v := Str.v x28) ((Get.elemN (s := 1) (x := x28) rfl g46.2.2 (Get.here _)).off (by omega))) ?_
      refine Lst.nil ?_
      refine At.hd inv (fun w h => (h.weaken (FLe.refl _)).sublist (sk1 (sc1 (.refl _)))) ?_
      refine HdJ.step [16] (by kernel_rfl) rfl ?_
      refine HdStep.c (fun inv => ?_) ?_
      ·have g48 := lat_some h32
       refine Lst.r (Ev.indexS (α := Str) (xs := l12) rfl rfl Try.runUnderlying50 Try.sizeOf9 rfl (by decide) (Rd.own (i := 1) rfl rfl rfl) g48.1 g48.2.1) ?_
       refine Lst.nil ?_
       refine At.hd inv (fun w h => (h.weaken (FLe.refl _)).sublist (sk1 (sc1 (.refl _)))) ?_
       refine HdJ.step [17] (by kernel_rfl) rfl ?_
       refine HdStep.c (fun inv => ?_) ?_
       ·refine Lst.storeS (i := 1) rfl rfl rfl rfl rfl Try.sizeOf9 (vs := [Str.v x25]) rfl rfl (by decide) rfl (xs' := encs p34) (by rw [← h35]; exact (Put.elemN (s := 1) (x := x31) rfl g48.2.2 (Put.here (vs := [Str.v x25]) rfl)).off (by omega)) (L' := (.blk b3 (enc r16.1) 159) :: (.own s_a0 9 1 (encs p34)) :: L) rfl ?_
        refine Lst.nil ?_
        refine At.hd inv (fun w h => (h.weaken (FLe.refl _)).sublist (sk1 (sc1 (.refl _)))) ?_
        refine HdJ.done (by kernel_rfl) ?_
        exact At.meetN p34 (FLe.refl _) ⟨rfl, rfl, rfl, rfl, rfl, rfl, rfl, rfl, rfl, trivial⟩ rfl h39
       exact trivial
      exact trivial
     exact trivial
    refine HdStep.c (fun inv => ?_) ?_
    ·refine Lst.r (Ev.loadS (α := Str) rfl (Rd.own (i := 1) rfl rfl rfl) Try.isAgg9 (v := Str.v x28) ((Get.elemN (s := 1) (x := x28) rfl g46.2.2 (Get.here _)).off (by omega))) ?_
     refine Lst.nil ?_
     refine At.hd inv (fun w h => (h.weaken (FLe.refl _)).sublist (sk1 (sc1 (.refl _)))) ?_
     refine HdJ.step [11] (by kernel_rfl) rfl ?_
     refine HdStep.c (fun inv => ?_) ?_
     ·refine Lst.r (Ev.loadS (α := Str) rfl (Rd.own (i := 1) rfl rfl rfl) Try.isAgg9 (v := Str.v x25) ((Get.elemN (s := 1) (x := x25) rfl g47.2.2 (Get.here _)).off (by omega))) ?_
      refine Lst.nil ?_
      refine At.hd inv (fun w h => (h.weaken (FLe.refl _)).sublist (sk1 (sc1 (.refl _)))) ?_
      refine HdJ.step [16] (by kernel_rfl) rfl ?_
      refine HdStep.c (fun inv => ?_) ?_
      ·have g49 := lat_some h32
       refine Lst.r (Ev.indexS (α := Str) (xs := l12) rfl rfl Try.runUnderlying50 Try.sizeOf9 rfl (by decide) (Rd.own (i := 1) rfl rfl rfl) g49.1 g49.2.1) ?_
       refine Lst.nil ?_
       refine At.hd inv (fun w h => (h.weaken (FLe.refl _)).sublist (sk1 (sc1 (.refl _)))) ?_
       refine HdJ.step [17] (by kernel_rfl) rfl ?_
       refine HdStep.c (fun inv => ?_) ?_
       ·refine Lst.storeS (i := 1) rfl rfl rfl rfl rfl Try.sizeOf9 (vs := [Str.v x25]) rfl rfl (by decide) rfl (xs' := encs p34) (by rw [← h35]; exact (Put.elemN (s := 1) (x := x31) rfl g49.2.2 (Put.here (vs := [Str.v x25]) rfl)).off (by omega)) (L' := (.blk b3 (enc r16.1) 159) :: (.own s_a0 9 1 (encs p34)) :: L) rfl ?_
        refine Lst.nil ?_
        refine At.hd inv (fun w h => (h.weaken (FLe.refl _)).sublist (sk1 (sc1 (.refl _)))) ?_
        refine HdJ.done (by kernel_rfl) ?_
        exact At.meetN p34 (FLe.refl _) ⟨rfl, rfl, rfl, rfl, rfl, rfl, rfl, rfl, rfl, trivial⟩ rfl h39
       exact trivial
      exact trivial
     exact trivial
    exact trivial
   refine HdStep.c (fun inv => ?_) ?_
   ·refine Lst.r (Ev.loadS (α := Str) rfl (Rd.own (i := 1) rfl rfl rfl) Try.isAgg9 (v := Str.v x28) ((Get.elemN (s := 1) (x := x28) rfl g46.2.2 (Get.here _)).off (by omega))) ?_
    refine Lst.nil ?_
    refine At.hd inv (fun w h => (h.weaken (FLe.refl _)).sublist (sk1 (sc1 (.refl _)))) ?_
    refine HdJ.step [10] (by kernel_rfl) rfl ?_
    refine HdStep.c (fun inv => ?_) ?_
    ·have g50 := lat_some h26
     refine Lst.r (Ev.indexS (α := Str) (xs := l12) rfl rfl Try.runUnderlying50 Try.sizeOf9 rfl (by decide) (Rd.own (i := 1) rfl rfl rfl) g50.1 g50.2.1) ?_
     refine Lst.nil ?_
     refine At.hd inv (fun w h => (h.weaken (FLe.refl _)).sublist (sk1 (sc1 (.refl _)))) ?_
     refine HdJ.step [11] (by kernel_rfl) rfl ?_
     refine HdStep.c (fun inv => ?_) ?_
     ·refine Lst.r (Ev.loadS (α := Str) rfl (Rd.own (i := 1) rfl rfl rfl) Try.isAgg9 (v := Str.v x25) ((Get.elemN (s := 1) (x := x25) rfl g50.2.2 (Get.here _)).off (by omega))) ?_
      refine Lst.nil ?_
      refine At.hd inv (fun w h => (h.weaken (FLe.refl _)).sublist (sk1 (sc1 (.refl _)))) ?_
      refine HdJ.step [16] (by kernel_rfl) rfl ?_
      refine HdStep.c (fun inv => ?_) ?_
      ·have g51 := lat_some h32
       refine Lst.r (Ev.indexS (α := Str) (xs := l12) rfl rfl Try.runUnderlying50 Try.sizeOf9 rfl (by decide) (Rd.own (i := 1) rfl rfl rfl) g51.1 g51.2.1) ?_
       refine Lst.nil ?_
       refine At.hd inv (fun w h => (h.weaken (FLe.refl _)).sublist (sk1 (sc1 (.refl _)))) ?_
       refine HdJ.step [17] (by kernel_rfl) rfl ?_
       refine HdStep.c (fun inv => ?_) ?_
       ·refine Lst.storeS (i := 1) rfl rfl rfl rfl rfl Try.sizeOf9 (vs := [Str.v x25]) rfl rfl (by decide) rfl (xs' := encs p34) (by rw [← h35]; exact (Put.elemN (s := 1) (x := x31) rfl g51.2.2 (Put.here (vs := [Str.v x25]) rfl)).off (by omega)) (L' := (.blk b3 (enc r16.1) 159) :: (.own s_a0 9 1 (encs p34)) :: L) rfl ?_
        refine Lst.nil ?_
        refine At.hd inv (fun w h => (h.weaken (FLe.refl _)).sublist (sk1 (sc1 (.refl _)))) ?_
        refine HdJ.done (by kernel_rfl) ?_
        exact At.meetN p34 (FLe.refl _) ⟨rfl, rfl, rfl, rfl, rfl, rfl, rfl, rfl, rfl, trivial⟩ rfl h39
       exact trivial
      exact trivial
     exact trivial
    exact trivial
   exact trivial
  exact trivial
 rintro F52 l37 hF53 hy
 subst hy
 refine Lst.as (e' := [(0, Sl.v s_a0), (1, iv a1), (6, iv (w64 (a2 - a1))), (7, pv b3 0), (8, .int .u64 r5.toNat), (9, iv y10), (49, Sl.v s_a0), (52, iv (w64 (a1 + y20))), (62, Str.v x28)]) (L' := (.blk b3 (enc r16.1) 159) :: (.own s_a0 9 1 (encs l37)) :: L) ⟨rfl, rfl, rfl, rfl, rfl, rfl, rfl, rfl, rfl, trivial⟩ rfl ?_
 obtain ⟨x54, h55, H⟩ := bind_some H
 have g56 := lat_some h55
 refine Lst.r (Ev.indexS (α := Str) (xs := l37) rfl rfl Try.runUnderlying50 Try.sizeOf9 rfl (by decide) (Rd.own (i := 1) rfl rfl rfl) g56.1 g56.2.1) ?_
 obtain ⟨p57, h58, H⟩ := Let_some H
 refine Lst.storeS (i := 1) rfl rfl rfl rfl rfl Try.sizeOf9 (vs := [Str.v x28]) rfl rfl (by decide) rfl (xs' := encs p57) (by rw [← h58]; exact (Put.elemN (s := 1) (x := x54) rfl g56.2.2 (Put.here (vs := [Str.v x28]) rfl)).off (by omega)) (L' := (.blk b3 (enc r16.1) 159) :: (.own s_a0 9 1 (encs p57)) :: L) rfl ?_
 refine Lst.nil ?_
 refine At.in_normal ?_
 refine At.then ?_
 refine Cd.region ?_
 refine Lst.r (Ev.move rfl) ?_
 refine Lst.r (Ev.add rfl rfl) ?_
 refine Lst.r (Ev.assign rfl) ?_
 refine Lst.nil ?_
 exact At.meet (k9, w64 (y10 + (1 : Int)), r16.1, p57) (FLe.trans (FLe.trans (FLe.trans hF14 hF19) hF24) hF53) ⟨rfl, rfl, rfl, rfl, rfl, rfl, trivial⟩ rfl ⟨hgo9 _ (some_inj H).symm, Nat.lt_succ_self _⟩
set_option maxRecDepth 20000 in
theorem slices_order2Ordered_string_sim {a0 : List Str} {a1 : Int} {a2 : Int} {a3 : Int} {s_a0 : Sl} {b_a3 : Nat} {r : Int × Int × Int} (H : slices_order2Ordered_string a0 a1 a2 a3 = some r) (w0 : World) (F : Frz) (M L : List Item) (hM : M.Sublist L) (hs_a0 : Rd w0 F M s_a0 a0) : Ok Try.prog w0 154 [Sl.v s_a0, iv a1, iv a2, pv b_a3 0] F ((.blk b_a3 (enc a3) 3) :: L) (fun _ L' v => v = .tuple #[iv r.2.1, iv r.2.2] ∧ L' = (.blk b_a3 (enc r.1) 3) :: L) := by
 unfold slices_order2Ordered_string at H
 refine Ok.enter (m := 4) (n := 28) Try.func154 rfl rfl rfl (by decide) ?_
 refine Cd.env (e' := [(0, Sl.v s_a0), (1, iv a1), (2, iv a2), (3, pv b_a3 0)]) rfl ?_
 refine Cd.seq ?_
 refine Cd.region ?_
 refine Lst.r (Ev.assign rfl) ?_
 refine Lst.r (Ev.assign rfl) ?_
 refine Lst.nil ?_
 refine At.then ?_
 refine Cd.seq ?_
 refine Cd.seq ?_
 refine Cd.quiet (by kernel_rfl) (by kernel_rfl) ?_
 refine Qt.r (Ev.move rfl) ?_
 refine Qt.r (Ev.move rfl) ?_
 obtain ⟨x2, h3, H⟩ := bind_some H
 have g4 := lat_some h3
 refine Qt.r (Ev.indexS (α := Str) (xs := a0) rfl rfl Try.runUnderlying50 Try.sizeOf9 rfl (by decide) (hs_a0.mono (FLe.refl _) (sc1 hM)) g4.1 g4.2.1) ?_
 refine Qt.r (Ev.loadS (α := Str) rfl (hs_a0.mono (FLe.refl _) (sc1 hM)) Try.isAgg9 (v := Str.v x2) ((Get.elemN (s := 1) (x := x2) rfl g4.2.2 (Get.here _)).off (by omega))) ?_
 refine Qt.r (Ev.move rfl) ?_
 refine Qt.r (Ev.move rfl) ?_
 obtain ⟨x5, h6, H⟩ := bind_some H
 have g7 := lat_some h6
 refine Qt.r (Ev.indexS (α := Str) (xs := a0) rfl rfl Try.runUnderlying50 Try.sizeOf9 rfl (by decide) (hs_a0.mono (FLe.refl _) (sc1 hM)) g7.1 g7.2.1) ?_
 refine Qt.r (Ev.loadS (α := Str) rfl (hs_a0.mono (FLe.refl _) (sc1 hM)) Try.isAgg9 (v := Str.v x5) ((Get.elemN (s := 1) (x := x5) rfl g7.2.2 (Get.here _)).off (by omega))) ?_
 obtain ⟨r8, h9, H⟩ := bind_some H
 refine Qt.call rfl rfl (by decide) (vs := [Str.v x2, Str.v x5]) ⟨rfl, rfl, trivial⟩ Try.call121 (cmp_Less_string_sim h9 w0 _ M _ (sc1 hM)) ?_
 refine Qt.done ?_
 refine At.then ?_
 rcases Bool.eq_false_or_eq_true r8 with hb12 | hb12
 ·replace H := ite_t hb12 H
  refine Cd.condT rfl hb12 ?_
  refine Cd.seq ?_
  refine Cd.region ?_
  refine Lst.r (Ev.move rfl) ?_
  refine Lst.r (Ev.nilCheck rfl) ?_
  refine Lst.r (Ev.load (i := 0) rfl rfl Try.isAgg3 (v := iv a3) (Get.here _)) ?_
  refine Lst.r (Ev.add rfl rfl) ?_
  refine Lst.r (Ev.nilCheck rfl) ?_
  refine Lst.store (i := 0) rfl rfl rfl rfl rfl Try.sizeOf3 (vs := [iv (w64 (a3 + (1 : Int)))]) rfl rfl rfl (cs' := enc (w64 (a3 + (1 : Int)))) (Put.here (vs := [iv (w64 (a3 + (1 : Int)))]) rfl) (L' := (.blk b_a3 (enc (w64 (a3 + (1 : Int)))) 3) :: L) rfl ?_
  refine Lst.nil ?_
  refine At.then ?_
  refine Cd.seq ?_
  refine Cd.as (e' := [(1, iv a1), (2, iv a2)]) (L' := (.blk b_a3 (enc (w64 (a3 + (1 : Int)))) 3) :: L) ⟨rfl, rfl, trivial⟩ rfl ?_
  refine Cd.region ?_
  refine Lst.r (Ev.move rfl) ?_
  refine Lst.r (Ev.move rfl) ?_
  refine Lst.r (Ev.assign rfl) ?_
  refine Lst.r (Ev.assign rfl) ?_
  refine Lst.nil ?_
  refine At.then ?_
  obtain rfl := some_inj H
  refine Cd.ret ?_
  refine At.then_ret ?_
  exact At.ret2 rfl (Res.tmp rfl) (Res.tmp rfl) (FLe.refl _) (sk1 (.refl _)) ⟨rfl, rfl⟩
 replace H := ite_f hb12 H
 refine Cd.condF rfl hb12 ?_
 refine Cd.skip ?_
 refine At.then ?_
 refine Cd.seq ?_
 refine Cd.region ?_
 refine Lst.r (Ev.move rfl) ?_
 refine Lst.r (Ev.move rfl) ?_
 refine Lst.r (Ev.assign rfl) ?_
 refine Lst.r (Ev.assign rfl) ?_
 refine Lst.nil ?_
 refine At.then ?_
 obtain rfl := some_inj H
 refine Cd.ret ?_
 exact At.ret2 rfl (Res.tmp rfl) (Res.tmp rfl) (FLe.refl _) (sk1 (.refl _)) ⟨rfl, rfl⟩
set_option maxRecDepth 20000 in
theorem slices_medianOrdered_string_sim {a0 : List Str} {a1 : Int} {a2 : Int} {a3 : Int} {a4 : Int} {s_a0 : Sl} {b_a4 : Nat} {r : Int × Int} (H : slices_medianOrdered_string a0 a1 a2 a3 a4 = some r) (w0 : World) (F : Frz) (M L : List Item) (hM : M.Sublist L) (hs_a0 : Rd w0 F M s_a0 a0) : Ok Try.prog w0 146 [Sl.v s_a0, iv a1, iv a2, iv a3, pv b_a4 0] F ((.blk b_a4 (enc a4) 3) :: L) (fun _ L' v => v = iv r.2 ∧ L' = (.blk b_a4 (enc r.1) 3) :: L) := by
 unfold slices_medianOrdered_string at H
 refine Ok.enter (m := 5) (n := 36) Try.func146 rfl rfl rfl (by decide) ?_
 refine Cd.env (e' := [(0, Sl.v s_a0), (1, iv a1), (2, iv a2), (3, iv a3), (4, pv b_a4 0)]) rfl ?_
 refine Cd.seq ?_
 refine Cd.region ?_
 refine Lst.r (Ev.assign rfl) ?_
 refine Lst.nil ?_
 refine At.then ?_
 refine Cd.seq ?_
 refine Cd.region ?_
 refine Lst.r (Ev.move rfl) ?_
 refine Lst.r (Ev.move rfl) ?_
 refine Lst.r (Ev.move rfl) ?_
 refine Lst.r (Ev.move rfl) ?_
 obtain ⟨r2, h3, H⟩ := bind_some H
 refine Lst.call rfl rfl (by decide) (vs := [Sl.v s_a0, iv a1, iv a2, pv b_a4 0]) ⟨rfl, rfl, rfl, rfl, trivial⟩ Try.call154 (slices_order2Ordered_string_sim h3 w0 _ M _ hM (hs_a0.mono (FLe.refl _) (.refl _))) (fun F4 L' v hF5 hv => ?_)
 obtain ⟨rfl, rfl⟩ := hv
 refine Lst.r (Ev.move rfl) ?_
 refine Lst.r (Ev.extract rfl rfl) ?_
 refine Lst.r (Ev.extract rfl rfl) ?_
 refine Lst.r (Ev.assign rfl) ?_
 refine Lst.r (Ev.assign rfl) ?_
 refine Lst.nil ?_
 refine At.then ?_
 refine Cd.seq ?_
 refine Cd.region ?_
 refine Lst.r (Ev.move rfl) ?_
 refine Lst.r (Ev.move rfl) ?_
 refine Lst.r (Ev.move rfl) ?_
 refine Lst.r (Ev.move rfl) ?_
 obtain ⟨r6, h7, H⟩ := bind_some H
 refine Lst.call rfl rfl (by decide) (vs := [Sl.v s_a0, iv r2.2.2, iv a3, pv b_a4 0]) ⟨rfl, rfl, rfl, rfl, trivial⟩ Try.call154 (slices_order2Ordered_string_sim h7 w0 _ M _ hM (hs_a0.mono hF5 (.refl _))) (fun F8 L' v hF9 hv => ?_)
 obtain ⟨rfl, rfl⟩ := hv
 refine Lst.r (Ev.move rfl) ?_
 refine Lst.r (Ev.extract rfl rfl) ?_
 refine Lst.r (Ev.extract rfl rfl) ?_
 refine Lst.r (Ev.assign rfl) ?_
 refine Lst.r (Ev.assign rfl) ?_
 refine Lst.nil ?_
 refine At.then ?_
 refine Cd.seq ?_
 refine Cd.as (e' := [(0, Sl.v s_a0), (1, iv r2.2.1), (2, iv r6.2.1), (4, pv b_a4 0)]) (L' := (.blk b_a4 (enc r6.1) 3) :: L) ⟨rfl, rfl, rfl, rfl, trivial⟩ rfl ?_
 refine Cd.region ?_
 refine Lst.r (Ev.move rfl) ?_
 refine Lst.r (Ev.move rfl) ?_
 refine Lst.r (Ev.move rfl) ?_
 refine Lst.r (Ev.move rfl) ?_
 obtain ⟨r10, h11, H⟩ := bind_some H
 refine Lst.call rfl rfl (by decide) (vs := [Sl.v s_a0, iv r2.2.1, iv r6.2.1, pv b_a4 0]) ⟨rfl, rfl, rfl, rfl, trivial⟩ Try.call154 (slices_order2Ordered_string_sim h11 w0 _ M _ hM (hs_a0.mono (FLe.trans hF5 hF9) (.refl _))) (fun F12 L' v hF13 hv => ?_)
 obtain ⟨rfl, rfl⟩ := hv
 refine Lst.r (Ev.move rfl) ?_
 refine Lst.r (Ev.extract rfl rfl) ?_
 refine Lst.r (Ev.extract rfl rfl) ?_
 refine Lst.r (Ev.assign rfl) ?_
 refine Lst.r (Ev.assign rfl) ?_
 refine Lst.nil ?_
 refine At.then ?_
 refine Cd.seq ?_
 refine Cd.region ?_
 refine Lst.r (Ev.move rfl) ?_
 refine Lst.r (Ev.assign rfl) ?_
 refine Lst.nil ?_
 refine At.then ?_
 obtain rfl := some_inj H
 refine Cd.ret ?_
 exact At.ret1 rfl (Res.tmp rfl) (FLe.trans (FLe.trans hF5 hF9) hF13) (sk1 (.refl _)) ⟨rfl, rfl⟩
set_option maxRecDepth 20000 in
theorem slices_medianAdjacentOrdered_string_sim {a0 : List Str} {a1 : Int} {a2 : Int} {s_a0 : Sl} {b_a2 : Nat} {r : Int × Int} (H : slices_medianAdjacentOrdered_string a0 a1 a2 = some r) (w0 : World) (F : Frz) (M L : List Item) (hM : M.Sublist L) (hs_a0 : Rd w0 F M s_a0 a0) : Ok Try.prog w0 145 [Sl.v s_a0, iv a1, pv b_a2 0] F ((.blk b_a2 (enc a2) 3) :: L) (fun _ L' v => v = iv r.2 ∧ L' = (.blk b_a2 (enc r.1) 3) :: L) := by
 unfold slices_medianAdjacentOrdered_string at H
 refine Ok.enter (m := 3) (n := 15) Try.func145 rfl rfl rfl (by decide) ?_
 refine Cd.env (e' := [(0, Sl.v s_a0), (1, iv a1), (2, pv b_a2 0)]) rfl ?_
 refine Cd.seq ?_
 refine Cd.region ?_
 refine Lst.r (Ev.assign rfl) ?_
 refine Lst.nil ?_
 refine At.then ?_
 refine Cd.seq ?_
 refine Cd.region ?_
 refine Lst.r (Ev.move rfl) ?_
 refine Lst.r (Ev.move rfl) ?_
 refine Lst.r (Ev.sub rfl rfl) ?_
 refine Lst.r (Ev.move rfl) ?_
 refine Lst.r (Ev.move rfl) ?_
 refine Lst.r (Ev.add rfl rfl) ?_
 refine Lst.r (Ev.move rfl) ?_
 obtain ⟨r2, h3, H⟩ := bind_some H
 refine Lst.call rfl rfl (by decide) (vs := [Sl.v s_a0, iv (w64 (a1 - (1 : Int))), iv a1, iv (w64 (a1 + (1 : Int))), pv b_a2 0]) ⟨rfl, rfl, rfl, rfl, rfl, trivial⟩ Try.call146 (slices_medianOrdered_string_sim h3 w0 _ M _ hM (hs_a0.mono (FLe.refl _) (.refl _))) (fun F4 L' v hF5 hv => ?_)
 obtain ⟨rfl, rfl⟩ := hv
 refine Lst.r (Ev.assign rfl) ?_
 refine Lst.nil ?_
 refine At.then ?_
 obtain rfl := some_inj H
 refine Cd.ret ?_
 exact At.ret1 rfl (Res.tmp rfl) hF5 (sk1 (.refl _)) ⟨rfl, rfl⟩
set_option maxRecDepth 20000 in
theorem slices_choosePivotOrdered_string_sim {a0 : List Str} {a1 : Int} {a2 : Int} {s_a0 : Sl} {r : Int × Int} (H : slices_choosePivotOrdered_string a0 a1 a2 = some r) (w0 : World) (F : Frz) (M L : List Item) (hM : M.Sublist L) (hs_a0 : Rd w0 F M s_a0 a0) : Ok Try.prog w0 118 [Sl.v s_a0, iv a1, iv a2] F (L) (Is (.tuple #[iv r.1, iv r.2]) (L)) := by
 unfold slices_choosePivotOrdered_string at H
 refine Ok.enter (m := 3) (n := 57) Try.func118 rfl rfl rfl (by decide) ?_
 refine Cd.env (e' := [(0, Sl.v s_a0), (1, iv a1), (2, iv a2)]) rfl ?_
 refine Cd.seq ?_
 refine Cd.region ?_
 refine Lst.r (Ev.assign rfl) ?_
 refine Lst.r (Ev.assign rfl) ?_
 refine Lst.nil ?_
 refine At.then ?_
 refine Cd.seq ?_
 refine Cd.region ?_
 refine Lst.r (Ev.move rfl) ?_
 refine Lst.r (Ev.move rfl) ?_
 refine Lst.r (Ev.sub rfl rfl) ?_
 refine Lst.r (Ev.assign rfl) ?_
 refine Lst.nil ?_
 refine At.then ?_
 refine Cd.seq ?_
 refine Cd.region ?_
 refine Lst.alloc (cs := enc (0 : Int)) rfl rfl (by decide) Try.zeroValue3 rfl (fun b1 => ?_)
 refine Lst.nil ?_
 refine At.then ?_
 refine Cd.seq ?_
 refine Cd.region ?_
 refine Lst.r (Ev.move rfl) ?_
 refine Lst.r (Ev.move rfl) ?_
 refine Lst.r (Ev.quo (i := w64 (a2 - a1)) (j := (4 : Int)) rfl rfl (by decide)) ?_
 refine Lst.r (Ev.mul rfl rfl) ?_
 refine Lst.r (Ev.add rfl rfl) ?_
 refine Lst.r (Ev.assign rfl) ?_
 refine Lst.nil ?_
 refine At.then ?_
 refine Cd.seq ?_
 refine Cd.region ?_
 refine Lst.r (Ev.move rfl) ?_
 refine Lst.r (Ev.move rfl) ?_
 refine Lst.r (Ev.quo (i := w64 (a2 - a1)) (j := (4 : Int)) rfl rfl (by decide)) ?_
 refine Lst.r (Ev.mul rfl rfl) ?_
 refine Lst.r (Ev.add rfl rfl) ?_
 refine Lst.r (Ev.assign rfl) ?_
 refine Lst.nil ?_
 refine At.then ?_
 refine Cd.seq ?_
 refine Cd.as (e' := [(0, Sl.v s_a0), (1, iv a1), (8, iv (w64 (a2 - a1))), (9, pv b1 0), (10, iv (w64 (a1 + (w64 ((w64 ((w64 (a2 - a1)).tdiv (4 : Int))) * (1 : Int)))))), (11, iv (w64 (a1 + (w64 ((w64 ((w64 (a2 - a1)).tdiv (4 : Int))) * (2 : Int))))))]) (L' := (.blk b1 (enc (0 : Int)) 3) :: L) ⟨rfl, rfl, rfl, rfl, rfl, rfl, trivial⟩ rfl ?_
 refine Cd.region ?_
 refine Lst.r (Ev.move rfl) ?_
 refine Lst.r (Ev.move rfl) ?_
 refine Lst.r (Ev.quo (i := w64 (a2 - a1)) (j := (4 : Int)) rfl rfl (by decide)) ?_
 refine Lst.r (Ev.mul rfl rfl) ?_
 refine Lst.r (Ev.add rfl rfl) ?_
 refine Lst.r (Ev.assign rfl) ?_
 refine Lst.nil ?_
 refine At.then ?_
 obtain ⟨o5, H, HKo5⟩ := bind_some H
 refine Cd.join (σ := Int × Int) (fun (y3, y4) => [(9, pv b1 0), (11, iv y3)]) (fun (y3, y4) => (.blk b1 (enc y4) 3) :: L) (fun _ (y3, y4) => (y3, y4) = o5) ?_ ?_
 ·refine Cd.seq ?_
  refine Cd.region ?_
  refine Lst.r (Ev.move rfl) ?_
  refine Lst.r (Ev.geq rfl rfl) ?_
  refine Lst.nil ?_
  refine At.then ?_
  rcases (Bool.eq_false_or_eq_true (decide ((w64 (a2 - a1)) ≥ (8 : Int)))).symm with hb6 | hb6
  ·replace H := ite_f hb6 H
   refine Cd.condF rfl hb6 ?_
   refine Cd.skip ?_
   exact At.meet (w64 (a1 + (w64 ((w64 ((w64 (a2 - a1)).tdiv (4 : Int))) * (2 : Int)))), (0 : Int)) (FLe.refl _) ⟨rfl, rfl, trivial⟩ rfl (some_inj H)
  replace H := ite_t hb6 H
  refine Cd.condT rfl hb6 ?_
  obtain ⟨o11, H, HKo11⟩ := bind_some H
  refine Cd.join (σ := Int × Int × Int × Int) (fun (y7, y8, y9, y10) => [(0, Sl.v s_a0), (9, pv b1 0), (10, iv y7), (11, iv y8), (12, iv y9)]) (fun (y7, y8, y9, y10) => (.blk b1 (enc y10) 3) :: L) (fun _ (y7, y8, y9, y10) => (y7, y8, y9, y10) = o11) ?_ ?_
  ·refine Cd.seq ?_
   refine Cd.region ?_
   refine Lst.r (Ev.move rfl) ?_
   refine Lst.r (Ev.geq rfl rfl) ?_
   refine Lst.nil ?_
   refine At.then ?_
   rcases (Bool.eq_false_or_eq_true (decide ((w64 (a2 - a1)) ≥ (50 : Int)))).symm with hb12 | hb12
   ·replace H := ite_f hb12 H
    refine Cd.condF rfl hb12 ?_
    refine Cd.skip ?_
    exact At.meet (w64 (a1 + (w64 ((w64 ((w64 (a2 - a1)).tdiv (4 : Int))) * (1 : Int)))), w64 (a1 + (w64 ((w64 ((w64 (a2 - a1)).tdiv (4 : Int))) * (2 : Int)))), w64 (a1 + (w64 ((w64 ((w64 (a2 - a1)).tdiv (4 : Int))) * (3 : Int)))), (0 : Int)) (FLe.refl _) ⟨rfl, rfl, rfl, rfl, rfl, trivial⟩ rfl (some_inj H)
   replace H := ite_t hb12 H
   refine Cd.condT rfl hb12 ?_
   refine Cd.seq ?_
   refine Cd.region ?_
   refine Lst.r (Ev.move rfl) ?_
   refine Lst.r (Ev.move rfl) ?_
   obtain ⟨r13, h14, H⟩ := bind_some H
   refine Lst.call rfl rfl (by decide) (vs := [Sl.v s_a0, iv (w64 (a1 + (w64 ((w64 ((w64 (a2 - a1)).tdiv (4 : Int))) * (1 : Int))))), pv b1 0]) ⟨rfl, rfl, rfl, trivial⟩ Try.call145 (slices_medianAdjacentOrdered_string_sim h14 w0 _ M _ hM (hs_a0.mono (FLe.refl _) (.refl _))) (fun F15 L' v hF16 hv => ?_)
   obtain ⟨rfl, rfl⟩ := hv
   refine Lst.r (Ev.assign rfl) ?_
   refine Lst.nil ?_
   refine At.then ?_
   refine Cd.seq ?_
   refine Cd.as (e' := [(0, Sl.v s_a0), (9, pv b1 0), (10, iv r13.2), (11, iv (w64 (a1 + (w64 ((w64 ((w64 (a2 - a1)).tdiv (4 : Int))) * (2 : Int)))))), (12, iv (w64 (a1 + (w64 ((w64 ((w64 (a2 - a1)).tdiv (4 : Int))) * (3 : Int))))))]) (L' := (.blk b1 (enc r13.1) 3) :: L) ⟨rfl, rfl, rfl, rfl, rfl, trivial⟩ rfl ?_
   refine Cd.region ?_
   refine Lst.r (Ev.move rfl) ?_
   refine Lst.r (Ev.move rfl) ?_
   obtain ⟨r17, h18, H⟩ := bind_some H
   refine Lst.call rfl rfl (by decide) (vs := [Sl.v s_a0, iv (w64 (a1 + (w64 ((w64 ((w64 (a2 - a1)).tdiv (4 : Int))) * (2 : Int))))), pv b1 0]) ⟨rfl, rfl, rfl, trivial⟩ Try.call145 (slices_medianAdjacentOrdered_string_sim h18 w0 _ M _ hM (hs_a0.mono hF16 (.refl _))) (fun F19 L' v hF20 hv => ?_)
   obtain ⟨rfl, rfl⟩ := hv
   refine Lst.r (Ev.assign rfl) ?_
   refine Lst.nil ?_
   refine At.then ?_
   refine Cd.region ?_
   refine Lst.r (Ev.move rfl) ?_
   refine Lst.r (Ev.move rfl) ?_
   obtain ⟨r21, h22, H⟩ := bind_some H
   refine Lst.call rfl rfl (by decide) (vs := [Sl.v s_a0, iv (w64 (a1 + (w64 ((w64 ((w64 (a2 - a1)).tdiv (4 : Int))) * (3 : Int))))), pv b1 0]) ⟨rfl, rfl, rfl, trivial⟩ Try.call145 (slices_medianAdjacentOrdered_string_sim h22 w0 _ M _ hM (hs_a0.mono (FLe.trans hF16 hF20) (.refl _))) (fun F23 L' v hF24 hv => ?_)
   obtain ⟨rfl, rfl⟩ := hv
   refine Lst.r (Ev.assign rfl) ?_
   refine Lst.nil ?_
   exact At.meet (r13.2, r17.2, r21.2, r21.1) (FLe.trans (FLe.trans hF16 hF20) hF24) ⟨rfl, rfl, rfl, rfl, rfl, trivial⟩ rfl (some_inj H)
  rintro F25 ⟨y7, y8, y9, y10⟩ hF26 hy
  subst hy
  refine Cd.as (e' := [(0, Sl.v s_a0), (9, pv b1 0), (10, iv y7), (11, iv y8), (12, iv y9)]) (L' := (.blk b1 (enc y10) 3) :: L) ⟨rfl, rfl, rfl, rfl, rfl, trivial⟩ rfl ?_
  replace H := HKo11
  refine Cd.region ?_
  refine Lst.r (Ev.move rfl) ?_
  refine Lst.r (Ev.move rfl) ?_
  refine Lst.r (Ev.move rfl) ?_
  refine Lst.r (Ev.move rfl) ?_
  obtain ⟨r27, h28, H⟩ := bind_some H
  refine Lst.call rfl rfl (by decide) (vs := [Sl.v s_a0, iv y7, iv y8, iv y9, pv b1 0]) ⟨rfl, rfl, rfl, rfl, rfl, trivial⟩ Try.call146 (slices_medianOrdered_string_sim h28 w0 _ M _ hM (hs_a0.mono hF26 (.refl _))) (fun F29 L' v hF30 hv => ?_)
  obtain ⟨rfl, rfl⟩ := hv
  refine Lst.r (Ev.assign rfl) ?_
  refine Lst.nil ?_
  exact At.meet (r27.2, r27.1) (FLe.trans hF26 hF30) ⟨rfl, rfl, trivial⟩ rfl (some_inj H)
 rintro F31 ⟨y3, y4⟩ hF32 hy
 subst hy
 refine Cd.as (e' := [(9, pv b1 0), (11, iv y3)]) (L' := (.blk b1 (enc y4) 3) :: L) ⟨rfl, rfl, trivial⟩ rfl ?_
 replace H := HKo5
 refine Cd.seq ?_
 refine Cd.region ?_
 refine Lst.r (Ev.load (i := 0) rfl rfl Try.isAgg3 (v := iv y4) (Get.here _)) ?_
 refine Lst.nil ?_
 refine At.then ?_
 refine Cd.block ?_
 refine Cd.seq ?_
 refine Cd.region ?_
 refine Lst.r (Ev.eql rfl rfl) ?_
 refine Lst.r (Ev.assign rfl) ?_
 refine Lst.nil ?_
 refine At.then ?_
 rcases Bool.eq_false_or_eq_true (y4 == (0 : Int)) with hb33 | hb33
 ·replace H := ite_t hb33 H
  refine Cd.condT rfl hb33 ?_
  refine Cd.seq ?_
  refine Cd.region ?_
  refine Lst.r (Ev.move rfl) ?_
  refine Lst.r (Ev.assign rfl) ?_
  refine Lst.r (Ev.assign rfl) ?_
  refine Lst.nil ?_
  refine At.then ?_
  obtain rfl := some_inj H
  refine Cd.ret ?_
  refine At.in_ret ?_
  exact At.ret2 rfl (Res.tmp rfl) (Res.tmp rfl) hF32 (sc1 (.refl _)) ⟨rfl, rfl⟩
 replace H := ite_f hb33 H
 refine Cd.condF rfl hb33 ?_
 refine Cd.seq ?_
 refine Cd.region ?_
 refine Lst.r (Ev.eql rfl rfl) ?_
 refine Lst.r (Ev.assign rfl) ?_
 refine Lst.nil ?_
 refine At.then ?_
 rcases Bool.eq_false_or_eq_true (y4 == (12 : Int)) with hb34 | hb34
 ·replace H := ite_t hb34 H
  refine Cd.condT rfl hb34 ?_
  refine Cd.seq ?_
  refine Cd.region ?_
  refine Lst.r (Ev.move rfl) ?_
  refine Lst.r (Ev.assign rfl) ?_
  refine Lst.r (Ev.assign rfl) ?_
  refine Lst.nil ?_
  refine At.then ?_
  obtain rfl := some_inj H
  refine Cd.ret ?_
  refine At.in_ret ?_
  exact At.ret2 rfl (Res.tmp rfl) (Res.tmp rfl) hF32 (sc1 (.refl _)) ⟨rfl, rfl⟩
 replace H := ite_f hb34 H
 refine Cd.condF rfl hb34 ?_
 refine Cd.seq ?_
 refine Cd.region ?_
 refine Lst.r (Ev.move rfl) ?_
 refine Lst.r (Ev.assign rfl) ?_
 refine Lst.r (Ev.assign rfl) ?_
 refine Lst.nil ?_
 refine At.then ?_
 obtain rfl := some_inj H
 refine Cd.ret ?_
 refine At.in_ret ?_
 exact At.ret2 rfl (Res.tmp rfl) (Res.tmp rfl) hF32 (sc1 (.refl _)) ⟨rfl, rfl⟩
set_option maxRecDepth 20000 in
theorem slices_reverseRangeOrdered_string_sim {fu : Nat} {a0 : List Str} {a1 : Int} {a2 : Int} {s_a0 : Sl} {r : (List Str)} (H : slices_reverseRangeOrdered_string fu a0 a1 a2 = some r) (w0 : World) (F : Frz) (M L : List Item) (hM : M.Sublist L) : Ok Try.prog w0 119 [Sl.v s_a0, iv a1, iv a2] F ((.own s_a0 9 1 (encs a0)) :: L) (fun _ L' v => v = .tuple #[] ∧ L' = (.own s_a0 9 1 (encs r)) :: L) := by
 unfold slices_reverseRangeOrdered_string at H
 refine Ok.enter (m := 3) (n := 32) Try.func119 rfl rfl rfl (by decide) ?_
 refine Cd.env (e' := [(0, Sl.v s_a0), (1, iv a1), (2, iv a2)]) rfl ?_
 refine Cd.seq ?_
 refine Cd.region ?_
 refine Lst.r (Ev.move rfl) ?_
 refine Lst.r (Ev.assign rfl) ?_
 refine Lst.nil ?_
 refine At.then ?_
 refine Cd.seq ?_
 refine Cd.region ?_
 refine Lst.r (Ev.move rfl) ?_
 refine Lst.r (Ev.sub rfl rfl) ?_
 refine Lst.r (Ev.assign rfl) ?_
 refine Lst.nil ?_
 refine At.then ?_
 refine Cd.block ?_
 obtain ⟨ol2, H, HKl2⟩ := andThen_some H
 refine Cd.loop (σ := Nat × Int × Int × (List Str)) (fun (k2, y3, y4, l5) => [(0, Sl.v s_a0), (6, iv y3), (7, iv y4)]) (fun (k2, y3, y4, l5) => (.own s_a0 9 1 (encs l5)) :: L) (fun _ => (fun (k2, y3, y4, l5) => whileM (slices_reverseRangeOrdered_string_B0) k2 (y3, y4, l5) = some ol2)) (fun (k2, y3, y4, l5) => k2) (fu, a1, w64 (a2 - (1 : Int)), a0) ⟨rfl, rfl, rfl, trivial⟩ rfl H ?_
 rintro F6 ⟨k2, y3, y4, l5⟩ hF7 H
 refine Cd.as (e' := [(0, Sl.v s_a0), (6, iv y3), (7, iv y4)]) (L' := (.own s_a0 9 1 (encs l5)) :: L) ⟨rfl, rfl, rfl, trivial⟩ rfl ?_
 rcases k2 with _ | k2
 ·cases H
 obtain ⟨c2, H, hgo2, hbrk2, hret2⟩ := whileM_go H
 unfold slices_reverseRangeOrdered_string_B0 at H
 try dsimp only at H
 refine Cd.seq ?_
 refine Cd.seq ?_
 refine Cd.region ?_
 refine Lst.r (Ev.move rfl) ?_
 refine Lst.r (Ev.move rfl) ?_
 refine Lst.r (Ev.lss rfl rfl) ?_
 refine Lst.nil ?_
 refine At.then ?_
 rcases (Bool.eq_false_or_eq_true (decide (y3 < y4))).symm with hb8 | hb8
 ·replace H := ite_f hb8 H
  refine Cd.condF rfl hb8 ?_
  refine Cd.exit ?_
  refine At.then_exit ?_
  refine At.then_exit ?_
  refine At.in_exit ?_
  have H := hbrk2 _ (some_inj H).symm
  subst H
  replace H := HKl2
  obtain rfl := some_inj H
  exact At.ret0 (.inr rfl) rfl hF7 (sk1 (.refl _)) ⟨rfl, rfl⟩
 replace H := ite_t hb8 H
 refine Cd.condT rfl hb8 ?_
 refine Cd.skip ?_
 refine At.then ?_
 refine Cd.block ?_
 refine Cd.seq ?_
 obtain ⟨x9, h10, H⟩ := bind_some H
 obtain ⟨x12, h13, H⟩ := bind_some H
 obtain ⟨x15, h16, H⟩ := bind_some H
 obtain ⟨p18, h19, H⟩ := Let_some H
 obtain ⟨o22, h23, H⟩ := Let_some H
 refine Cd.headMeet (σ := (List Str)) 14 (fun l21 => [(0, Sl.v s_a0), (6, iv y3), (7, iv y4), (16, Sl.v s_a0), (17, iv y4), (25, Str.v x12)]) (fun l21 => (.own s_a0 9 1 (encs l21)) :: L) (fun _ l21 => l21 = o22) (by kernel_rfl) (by kernel_rfl) (behind_sink (by kernel_rfl) (by kernel_rfl) (by kernel_rfl)) (by kernel_rfl) (fun hsel hlt => ?_) ?_
 ·refine HdJ.keep (fun w => St w0 F6 (L) w) (fun w h => trivial) ?_
  refine HdJ.tk hsel hlt 0 (fun w h => h.sublist (sc1 (.refl _))) rfl (Ev.move rfl) ?_
  refine HdJ.tk hsel hlt 1 (fun w h => h.sublist (sc1 (.refl _))) rfl (Ev.move rfl) ?_
  refine HdJ.tk hsel hlt 2 (fun w h => h.sublist (sc1 (.refl _))) rfl (Ev.move rfl) ?_
  refine HdJ.tk hsel hlt 3 (fun w h => h.sublist (sc1 (.refl _))) rfl (Ev.move rfl) ?_
  refine HdJ.tk hsel hlt 4 (fun w h => h.sublist (sc1 (.refl _))) rfl (Ev.move rfl) ?_
  refine HdJ.tk hsel hlt 5 (fun w h => h.sublist (sc1 (.refl _))) rfl (Ev.move rfl) ?_
  refine HdJ.tk hsel hlt 8 (fun w h => h.sublist (sc1 (.refl _))) rfl (Ev.move rfl) ?_
  refine HdJ.tk hsel hlt 9 (fun w h => h.sublist (sc1 (.refl _))) rfl (Ev.move rfl) ?_
  refine HdJ.step [6, 10] (by kernel_rfl) rfl ?_
  refine HdStep.c (fun inv => ?_) ?_
  ·have g24 := lat_some h10
   refine Lst.r (Ev.indexS (α := Str) (xs := l5) rfl rfl Try.runUnderlying50 Try.sizeOf9 rfl (by decide) (Rd.own (i := 0) rfl rfl rfl) g24.1 g24.2.1) ?_
   refine Lst.nil ?_
   refine At.hd inv (fun w h => (h.weaken (FLe.refl _)).sublist (sc1 (.refl _))) ?_
   refine HdJ.step [7, 10] (by kernel_rfl) rfl ?_
   refine HdStep.c (fun inv => ?_) ?_
   ·refine Lst.r (Ev.loadS (α := Str) rfl (Rd.own (i := 0) rfl rfl rfl) Try.isAgg9 (v := Str.v x9) ((Get.elemN (s := 1) (x := x9) rfl g24.2.2 (Get.here _)).off (by omega))) ?_
    refine Lst.nil ?_
    refine At.hd inv (fun w h => (h.weaken (FLe.refl _)).sublist (sc1 (.refl _))) ?_
    refine HdJ.step [10] (by kernel_rfl) rfl ?_
    refine HdStep.c (fun inv => ?_) ?_
    ·have g25 := lat_some h13
     refine Lst.r (Ev.indexS (α := Str) (xs := l5) rfl rfl Try.runUnderlying50 Try.sizeOf9 rfl (by decide) (Rd.own (i := 0) rfl rfl rfl) g25.1 g25.2.1) ?_
     refine Lst.nil ?_
     refine At.hd inv (fun w h => (h.weaken (FLe.refl _)).sublist (sc1 (.refl _))) ?_
     refine HdJ.step [11] (by kernel_rfl) rfl ?_
     refine HdStep.c (fun inv => ?_) ?_
     ·refine Lst.r (Ev.loadS (α := Str) rfl (Rd.own (i := 0) rfl rfl rfl) Try.isAgg9 (v := Str.v x12) ((Get.elemN (s := 1) (x := x12) rfl g25.2.2 (Get.here _)).off (by omega))) ?_
      refine Lst.nil ?_
      refine At.hd inv (fun w h => (h.weaken (FLe.refl _)).sublist (sc1 (.refl _))) ?_
      refine HdJ.step [12] (by kernel_rfl) rfl ?_
      refine HdStep.c (fun inv => ?_) ?_
      ·have g26 := lat_some h16
       refine Lst.r (Ev.indexS (α := Str) (xs := l5) rfl rfl Try.runUnderlying50 Try.sizeOf9 rfl (by decide) (Rd.own (i := 0) rfl rfl rfl) g26.1 g26.2.1) ?_
       refine Lst.nil ?_
       refine At.hd inv (fun w h => (h.weaken (FLe.refl _)).sublist (sc1 (.refl _))) ?_
       refine HdJ.step [13] (by kernel_rfl) rfl ?_
       refine HdStep.c (fun inv => ?_) ?_
       ·refine Lst.storeS (i := 0) rfl rfl rfl rfl rfl Try.sizeOf9 (vs := [Str.v x9]) rfl rfl (by decide) rfl (xs' := encs p18) (by rw [← h19]; exact (Put.elemN (s := 1) (x := x15) rfl g26.2.2 (Put.here (vs := [Str.v x9]) rfl)).off (by omega)) (L' := (.own s_a0 9 1 (encs p18)) :: L) rfl ?_
        refine Lst.nil ?_
        refine At.hd inv (fun w h => (h.weaken (FLe.refl _)).sublist (sc1 (.refl _))) ?_
        refine HdJ.done (by kernel_rfl) ?_
        exact At.meetN p18 (FLe.refl _) ⟨rfl, rfl, rfl, rfl, rfl, rfl, trivial⟩ rfl h23
       exact trivial
      exact trivial
     exact trivial
    exact trivial
   refine HdStep.c (fun inv => ?_) ?_
   ·have g27 := lat_some h13
    refine Lst.r (Ev.indexS (α := Str) (xs := l5) rfl rfl Try.runUnderlying50 Try.sizeOf9 rfl (by decide) (Rd.own (i := 0) rfl rfl rfl) g27.1 g27.2.1) ?_
    refine Lst.nil ?_
    refine At.hd inv (fun w h => (h.weaken (FLe.refl _)).sublist (sc1 (.refl _))) ?_
    refine HdJ.step [7, 11] (by kernel_rfl) rfl ?_
    refine HdStep.c (fun inv => ?_) ?_
    ·refine Lst.r (Ev.loadS (α := Str) rfl (Rd.own (i := 0) rfl rfl rfl) Try.isAgg9 (v := Str.v x9) ((Get.elemN (s := 1) (x := x9) rfl g24.2.2 (Get.here _)).off (by omega))) ?_
     refine Lst.nil ?_
     refine At.hd inv (fun w h => (h.weaken (FLe.refl _)).sublist (sc1 (.refl _))) ?_
     refine HdJ.step [11] (by kernel_rfl) rfl ?_
     refine HdStep.c (fun inv => ?_) ?_
     ·refine Lst.r (Ev.loadS (α := Str) rfl (Rd.own (i := 0) rfl rfl rfl) Try.isAgg9 (v := Str.v x12) ((Get.elemN (s := 1) (x := x12) rfl g27.2.2 (Get.here _)).off (by omega))) ?_
      refine Lst.nil ?_
      refine At.hd inv (fun w h => (h.weaken (FLe.refl _)).sublist (sc1 (.refl _))) ?_
      refine HdJ.step [12] (by kernel_rfl) rfl ?_
      refine HdStep.c (fun inv => ?_) ?_
      ·have g28 := lat_some h16
       refine Lst.r (Ev.indexS (α := Str) (xs := l5) rfl rfl Try.runUnderlying50 Try.sizeOf9 rfl (by decide) (Rd.own (i := 0) rfl rfl rfl) g28.1 g28.2.1) ?_
       refine Lst.nil ?_
       refine At.hd inv (fun w h => (h.weaken (FLe.refl _)).sublist (sc1 (.refl _))) ?_
       refine HdJ.step [13] (by kernel_rfl) rfl ?_
       refine HdStep.c (fun inv => ?_) ?_
       ·refine Lst.storeS (i := 0) rfl rfl rfl rfl rfl Try.sizeOf9 (vs := [Str.v x9]) rfl rfl (by decide) rfl (xs' := encs p18) (by rw [← h19]; exact (Put.elemN (s := 1) (x := x15) rfl g28.2.2 (Put.here (vs := [Str.v x9]) rfl)).off (by omega)) (L' := (.own s_a0 9 1 (encs p18)) :: L) rfl ?_
        refine Lst.nil ?_
        refine At.hd inv (fun w h => (h.weaken (FLe.refl _)).sublist (sc1 (.refl _))) ?_
        refine HdJ.done (by kernel_rfl) ?_
        exact At.meetN p18 (FLe.refl _) ⟨rfl, rfl, rfl, rfl, rfl, rfl, trivial⟩ rfl h23
       exact trivial
      exact trivial
     exact trivial
    refine HdStep.c (fun inv => ?_) ?_
    ·refine Lst.r (Ev.loadS (α := Str) rfl (Rd.own (i := 0) rfl rfl rfl) Try.isAgg9 (v := Str.v x12) ((Get.elemN (s := 1) (x := x12) rfl g27.2.2 (Get.here _)).off (by omega))) ?_
     refine Lst.nil ?_
     refine At.hd inv (fun w h => (h.weaken (FLe.refl _)).sublist (sc1 (.refl _))) ?_
     refine HdJ.step [7] (by kernel_rfl) rfl ?_
     refine HdStep.c (fun inv => ?_) ?_
     ·refine Lst.r (Ev.loadS (α := Str) rfl (Rd.own (i := 0) rfl rfl rfl) Try.isAgg9 (v := Str.v x9) ((Get.elemN (s := 1) (x := x9) rfl g24.2.2 (Get.here _)).off (by omega))) ?_
      refine Lst.nil ?_
      refine At.hd inv (fun w h => (h.weaken (FLe.refl _)).sublist (sc1 (.refl _))) ?_
      refine HdJ.step [12] (by kernel_rfl) rfl ?_
      refine HdStep.c (fun inv => ?_) ?_
      ·have g29 := lat_some h16
       refine Lst.r (Ev.indexS (α := Str) (xs := l5) rfl rfl Try.runUnderlying50 Try.sizeOf9 rfl (by decide) (Rd.own (i := 0) rfl rfl rfl) g29.1 g29.2.1) ?_
       refine Lst.nil ?_
       refine At.hd inv (fun w h => (h.weaken (FLe.refl _)).sublist (sc1 (.refl _))) ?_
       refine HdJ.step [13] (by kernel_rfl) rfl ?_
       refine HdStep.c (fun inv => ?_) ?_
       ·refine Lst.storeS (i := 0) rfl rfl rfl rfl rfl Try.sizeOf9 (vs := [Str.v x9]) rfl rfl (by decide) rfl (xs' := encs p18) (by rw [← h19]; exact (Put.elemN (s := 1) (x := x15) rfl g29.2.2 (Put.here (vs := [Str.v x9]) rfl)).off (by omega)) (L' := (.own s_a0 9 1 (encs p18)) :: L) rfl ?_
        refine Lst.nil ?_
        refine At.hd inv (fun w h => (h.weaken (FLe.refl _)).sublist (sc1 (.refl _))) ?_
        refine HdJ.done (by kernel_rfl) ?_
        exact At.meetN p18 (FLe.refl _) ⟨rfl, rfl, rfl, rfl, rfl, rfl, trivial⟩ rfl h23
       exact trivial
      exact trivial
     exact trivial
    exact trivial
   exact trivial
  refine HdStep.c (fun inv => ?_) ?_
  ·have g30 := lat_some h13
   refine Lst.r (Ev.indexS (α := Str) (xs := l5) rfl rfl Try.runUnderlying50 Try.sizeOf9 rfl (by decide) (Rd.own (i := 0) rfl rfl rfl) g30.1 g30.2.1) ?_
   refine Lst.nil ?_
   refine At.hd inv (fun w h => (h.weaken (FLe.refl _)).sublist (sc1 (.refl _))) ?_
   refine HdJ.step [6, 11] (by kernel_rfl) rfl ?_
   refine HdStep.c (fun inv => ?_) ?_
   ·have g31 := lat_some h10
    refine Lst.r (Ev.indexS (α := Str) (xs := l5) rfl rfl Try.runUnderlying50 Try.sizeOf9 rfl (by decide) (Rd.own (i := 0) rfl rfl rfl) g31.1 g31.2.1) ?_
    refine Lst.nil ?_
    refine At.hd inv (fun w h => (h.weaken (FLe.refl _)).sublist (sc1 (.refl _))) ?_
    refine HdJ.step [7, 11] (by kernel_rfl) rfl ?_
    refine HdStep.c (fun inv => ?_) ?_
    ·refine Lst.r (Ev.loadS (α := Str) rfl (Rd.own (i := 0) rfl rfl rfl) Try.isAgg9 (v := Str.v x9) ((Get.elemN (s := 1) (x := x9) rfl g31.2.2 (Get.here _)).off (by omega))) ?_
     refine Lst.nil ?_
     refine At.hd inv (fun w h => (h.weaken (FLe.refl _)).sublist (sc1 (.refl _))) ?_
     refine HdJ.step [11] (by kernel_rfl) rfl ?_
     refine HdStep.c (fun inv => ?_) ?_
     ·refine Lst.r (Ev.loadS (α := Str) rfl (Rd.own (i := 0) rfl rfl rfl) Try.isAgg9 (v := Str.v x12) ((Get.elemN (s := 1) (x := x12) rfl g30.2.2 (Get.here _)).off (by omega))) ?_
      refine Lst.nil ?_
      refine At.hd inv (fun w h => (h.weaken (FLe.refl _)).sublist (sc1 (.refl _))) ?_
      refine HdJ.step [12] (by kernel_rfl) rfl ?_
      refine HdStep.c (fun inv => ?_) ?_
      ·have g32 := lat_some h16
       refine Lst.r (Ev.indexS (α := Str) (xs := l5) rfl rfl Try.runUnderlying50 Try.sizeOf9 rfl (by decide) (Rd.own (i := 0) rfl rfl rfl) g32.1 g32.2.1) ?_
       refine Lst.nil ?_
       refine At.hd inv (fun w h => (h.weaken (FLe.refl _)).sublist (sc1 (.refl _))) ?_
       refine HdJ.step [13] (by kernel_rfl) rfl ?_
       refine HdStep.c (fun inv => ?_) ?_
       ·refine Lst.storeS (i := 0) rfl rfl rfl rfl rfl Try.sizeOf9 (vs := [Str.v x9]) rfl rfl (by decide) rfl (xs' := encs p18) (by rw [← h19]; exact (Put.elemN (s := 1) (x := x15) rfl g32.2.2 (Put.here (vs := [Str.v x9]) rfl)).off (by omega)) (L' := (.own s_a0 9 1 (encs p18)) :: L) rfl ?_
        refine Lst.nil ?_
        refine At.hd inv (fun w h => (h.weaken (FLe.refl _)).sublist (sc1 (.refl _))) ?_
        refine HdJ.done (by kernel_rfl) ?_
        exact At.meetN p18 (FLe.refl _) ⟨rfl, rfl, rfl, rfl, rfl, rfl, trivial⟩ rfl h23
       exact trivial
      exact trivial
     exact trivial
    refine HdStep.c (fun inv => ?_) ?_
    ·refine Lst.r (Ev.loadS (α := Str) rfl (Rd.own (i := 0) rfl rfl rfl) Try.isAgg9 (v := Str.v x12) ((Get.elemN (s := 1) (x := x12) rfl g30.2.2 (Get.here _)).off (by omega))) ?_
     refine Lst.nil ?_
     refine At.hd inv (fun w h => (h.weaken (FLe.refl _)).sublist (sc1 (.refl _))) ?_
     refine HdJ.step [7] (by kernel_rfl) rfl ?_
     refine HdStep.c (fun inv => ?_) ?_
     ·refine Lst.r (Ev.loadS (α := Str) rfl (Rd.own (i := 0) rfl rfl rfl) Try.isAgg9 (v := Str.v x9) ((Get.elemN (s := 1) (x := x9) rfl g31.2.2 (Get.here _)).off (by omega))) ?_
      refine Lst.nil ?_
      refine At.hd inv (fun w h => (h.weaken (FLe.refl _)).sublist (sc1 (.refl _))) ?_
      refine HdJ.step [12] (by kernel_rfl) rfl ?_
      refine HdStep.c (fun inv => ?_) ?_
      ·have g33 := lat_some h16
       refine Lst.r (Ev.indexS (α := Str) (xs := l5) rfl rfl Try.runUnderlying50 Try.sizeOf9 rfl (by decide) (Rd.own (i := 0) rfl rfl rfl) g33.1 g33.2.1) ?_
       refine Lst.nil ?_
       refine At.hd inv (fun w h => (h.weaken (FLe.refl _)).sublist (sc1 (.refl _))) ?_
       refine HdJ.step [13] (by kernel_rfl) rfl ?_
       refine HdStep.c (fun inv => ?_) ?_
       ·refine Lst.storeS (i := 0) rfl rfl rfl rfl rfl Try.sizeOf9 (vs := [Str.v x9]) rfl rfl (by decide) rfl (xs' := encs p18) (by rw [← h19]; exact (Put.elemN (s := 1) (x := x15) rfl g33.2.2 (Put.here (vs := [Str.v x9]) rfl)).off (by omega)) (L' := (.own s_a0 9 1 (encs p18)) :: L) rfl ?_
        refine Lst.nil ?_
        refine At.hd inv (fun w h => (h.weaken (FLe.refl _)).sublist (sc1 (.refl _))) ?_
        refine HdJ.done (by kernel_rfl) ?_
        exact At.meetN p18 (FLe.refl _) ⟨rfl, rfl, rfl, rfl, rfl, rfl, trivial⟩ rfl h23
       exact trivial
      exact trivial
     exact trivial
    exact trivial
   refine HdStep.c (fun inv => ?_) ?_
   ·refine Lst.r (Ev.loadS (α := Str) rfl (Rd.own (i := 0) rfl rfl rfl) Try.isAgg9 (v := Str.v x12) ((Get.elemN (s := 1) (x := x12) rfl g30.2.2 (Get.here _)).off (by omega))) ?_
    refine Lst.nil ?_
    refine At.hd inv (fun w h => (h.weaken (FLe.refl _)).sublist (sc1 (.refl _))) ?_
    refine HdJ.step [6] (by kernel_rfl) rfl ?_
    refine HdStep.c (fun inv => ?_) ?_
    ·have g34 := lat_some h10
     refine Lst.r (Ev.indexS (α := Str) (xs := l5) rfl rfl Try.runUnderlying50 Try.sizeOf9 rfl (by decide) (Rd.own (i := 0) rfl rfl rfl) g34.1 g34.2.1) ?_
     refine Lst.nil ?_
     refine At.hd inv (fun w h => (h.weaken (FLe.refl _)).sublist (sc1 (.refl _))) ?_
     refine HdJ.step [7] (by kernel_rfl) rfl ?_
     refine HdStep.c (fun inv => ?_) ?_
     ·refine Lst.r (Ev.loadS (α := Str) rfl (Rd.own (i := 0) rfl rfl rfl) Try.isAgg9 (v := Str.v x9) ((Get.elemN (s := 1) (x := x9) rfl g34.2.2 (Get.here _)).off (by omega))) ?_
      refine Lst.nil ?_
      refine At.hd inv (fun w h => (h.weaken (FLe.refl _)).sublist (sc1 (.refl _))) ?_
      refine HdJ.step [12] (by kernel_rfl) rfl ?_
      refine HdStep.c (fun inv => ?_) ?_
      ·have g35 := lat_some h16
       refine Lst.r (Ev.indexS (α := Str) (xs := l5) rfl rfl Try.runUnderlying50 Try.sizeOf9 rfl (by decide) (Rd.own (i := 0) rfl rfl rfl) g35.1 g35.2.1) ?_
       refine Lst.nil ?_
       refine At.hd inv (fun w h => (h.weaken (FLe.refl _)).sublist (sc1 (.refl _))) ?_
       refine HdJ.step [13] (by kernel_rfl) rfl ?_
       refine HdStep.c (fun inv => ?_) ?_
       ·refine Lst.storeS (i := 0) rfl rfl rfl rfl rfl Try.sizeOf9 (vs := [Str.v x9]) rfl rfl (by decide) rfl (xs' := encs p18) (by rw [← h19]; exact (Put.elemN (s := 1) (x := x15) rfl g35.2.2 (Put.here (vs := [Str.v x9]) rfl)).off (by omega)) (L' := (.own s_a0 9 1 (encs p18)) :: L) rfl ?_
        refine Lst.nil ?_
        refine At.hd inv (fun w h => (h.weaken (FLe.refl _)).sublist (sc1 (.refl _))) ?_
        refine HdJ.done (by kernel_rfl) ?_
        exact At.meetN p18 (FLe.refl _) ⟨rfl, rfl, rfl, rfl, rfl, rfl, trivial⟩ rfl h23
       exact trivial
      exact trivial
     exact trivial
    exact trivial
   exact trivial
  exact trivial
 rintro F36 l21 hF37 hy
 subst hy
 refine Lst.as (e' := [(0, Sl.v s_a0), (6, iv y3), (7, iv y4), (16, Sl.v s_a0), (17, iv y4), (25, Str.v x12)]) (L' := (.own s_a0 9 1 (encs l21)) :: L) ⟨rfl, rfl, rfl, rfl, rfl, rfl, trivial⟩ rfl ?_
 obtain ⟨x38, h39, H⟩ := bind_some H
 have g40 := lat_some h39
 refine Lst.r (Ev.indexS (α := Str) (xs := l21) rfl rfl Try.runUnderlying50 Try.sizeOf9 rfl (by decide) (Rd.own (i := 0) rfl rfl rfl) g40.1 g40.2.1) ?_
 obtain ⟨p41, h42, H⟩ := Let_some H
 refine Lst.storeS (i := 0) rfl rfl rfl rfl rfl Try.sizeOf9 (vs := [Str.v x12]) rfl rfl (by decide) rfl (xs' := encs p41) (by rw [← h42]; exact (Put.elemN (s := 1) (x := x38) rfl g40.2.2 (Put.here (vs := [Str.v x12]) rfl)).off (by omega)) (L' := (.own s_a0 9 1 (encs p41)) :: L) rfl ?_
 refine Lst.nil ?_
 refine At.then ?_
 refine Cd.seq ?_
 refine Cd.region ?_
 refine Lst.r (Ev.move rfl) ?_
 refine Lst.r (Ev.add rfl rfl) ?_
 refine Lst.r (Ev.assign rfl) ?_
 refine Lst.nil ?_
 refine At.then ?_
 refine Cd.region ?_
 refine Lst.r (Ev.move rfl) ?_
 refine Lst.r (Ev.sub rfl rfl) ?_
 refine Lst.r (Ev.assign rfl) ?_
 refine Lst.nil ?_
 refine At.in_normal ?_
 exact At.meet (k2, w64 (y3 + (1 : Int)), w64 (y4 - (1 : Int)), p41) (FLe.trans hF7 hF37) ⟨rfl, rfl, rfl, trivial⟩ rfl ⟨hgo2 _ (some_inj H).symm, Nat.lt_succ_self _⟩
set_option maxHeartbeats 2000000 in
set_option maxRecDepth 20000 in
theorem slices_partialInsertionSortOrdered_string_sim {fu : Nat} {a0 : List Str} {a1 : Int} {a2 : Int} {s_a0 : Sl} {r : (List Str) × Bool} (H : slices_partialInsertionSortOrdered_string fu a0 a1 a2 = some r) (w0 : World) (F : Frz) (M L : List Item) (hM : M.Sublist L) : Ok Try.prog w0 120 [Sl.v s_a0, iv a1, iv a2] F ((.own s_a0 9 1 (encs a0)) :: L) (fun _ L' v => v = .bool r.2 ∧ L' = (.own s_a0 9 1 (encs r.1)) :: L) := by
 unfold slices_partialInsertionSortOrdered_string at H
 refine Ok.enter (m := 3) (n := 133) Try.func120 rfl rfl rfl (by decide) ?_
 refine Cd.env (e' := [(0, Sl.v s_a0), (1, iv a1), (2, iv a2)]) rfl ?_
 refine Cd.seq ?_
 refine Cd.region ?_
 refine Lst.r (Ev.assign rfl) ?_
 refine Lst.nil ?_
 refine At.then ?_
 refine Cd.seq ?_
 refine Cd.region ?_
 refine Lst.r (Ev.move rfl) ?_
 refine Lst.r (Ev.add rfl rfl) ?_
 refine Lst.r (Ev.assign rfl) ?_
 refine Lst.nil ?_
 refine At.then ?_
 refine Cd.seq ?_
 refine Cd.seq ?_
 refine Cd.region ?_
 refine Lst.r (Ev.assign rfl) ?_
 refine Lst.nil ?_
 refine At.then ?_
 refine Cd.block ?_
 obtain ⟨ol2, H, HKl2⟩ := andThen_some H
 refine Cd.loop (σ := Nat × Int × Int × (List Str)) (fun (k2, y3, y4, l5) => [(0, Sl.v s_a0), (1, iv a1), (2, iv a2), (7, iv y3), (8, iv y4)]) (fun (k2, y3, y4, l5) => (.own s_a0 9 1 (encs l5)) :: L) (fun _ => (fun (k2, y3, y4, l5) => whileM (slices_partialInsertionSortOrdered_string_B0 fu a1 a2) k2 (y3, y4, l5) = some ol2)) (fun (k2, y3, y4, l5) => k2) (fu, w64 (a1 + (1 : Int)), (0 : Int), a0) ⟨rfl, rfl, rfl, rfl, rfl, trivial⟩ rfl H ?_
 rintro F6 ⟨k2, y3, y4, l5⟩ hF7 H
 refine Cd.as (e' := [(0, Sl.v s_a0), (1, iv a1), (2, iv a2), (7, iv y3), (8, iv y4)]) (L' := (.own s_a0 9 1 (encs l5)) :: L) ⟨rfl, rfl, rfl, rfl, rfl, trivial⟩ rfl ?_
 rcases k2 with _ | k2
 ·cases H
 obtain ⟨c2, H, hgo2, hbrk2, hret2⟩ := whileM_go H
 unfold slices_partialInsertionSortOrdered_string_B0 at H
 try dsimp only at H
 refine Cd.seq ?_
 refine Cd.seq ?_
 refine Cd.region ?_
 refine Lst.r (Ev.move rfl) ?_
 refine Lst.r (Ev.lss rfl rfl) ?_
 refine Lst.nil ?_
 refine At.then ?_
 rcases (Bool.eq_false_or_eq_true (decide (y4 < (5 : Int)))).symm with hb8 | hb8
 ·replace H := ite_f hb8 H
  refine Cd.condF rfl hb8 ?_
  refine Cd.exit ?_
  refine At.then_exit ?_
  refine At.then_exit ?_
  refine At.in_exit ?_
  have H := hbrk2 _ (some_inj H).symm
  subst H
  replace H := HKl2
  refine At.then ?_
  refine Cd.seq ?_
  refine Cd.region ?_
  refine Lst.r (Ev.assign rfl) ?_
  refine Lst.nil ?_
  refine At.then ?_
  obtain rfl := some_inj H
  refine Cd.ret ?_
  exact At.ret1 rfl (Res.tmp rfl) hF7 (sk1 (.refl _)) ⟨rfl, rfl⟩
 replace H := ite_t hb8 H
 refine Cd.condT rfl hb8 ?_
 refine Cd.skip ?_
 refine At.then ?_
 refine Cd.seq ?_
 refine Cd.block ?_
 refine Cd.seq ?_
 refine Cd.block ?_
 obtain ⟨ol9, H, HKl9⟩ := andThen_some H
 refine Cd.loop (σ := Nat × Int) (fun (k9, y10) => [(0, Sl.v s_a0), (1, iv a1), (2, iv a2), (7, iv y10), (8, iv y4)]) (fun (k9, y10) => (.own s_a0 9 1 (encs l5)) :: L) (fun _ => (fun (k9, y10) => whileM (slices_partialInsertionSortOrdered_string_B2 a2 l5) k9 y10 = some ol9)) (fun (k9, y10) => k9) (fu, y3) ⟨rfl, rfl, rfl, rfl, rfl, trivial⟩ rfl H ?_
 rintro F11 ⟨k9, y10⟩ hF12 H
 refine Cd.as (e' := [(0, Sl.v s_a0), (1, iv a1), (2, iv a2), (7, iv y10), (8, iv y4)]) (L' := (.own s_a0 9 1 (encs l5)) :: L) ⟨rfl, rfl, rfl, rfl, rfl, trivial⟩ rfl ?_
 rcases k9 with _ | k9
 ·cases H
 obtain ⟨c9, H, hgo9, hbrk9, hret9⟩ := whileM_go H
 unfold slices_partialInsertionSortOrdered_string_B2 at H
 try dsimp only at H
 refine Cd.seq ?_
 refine Cd.seq ?_
 refine Cd.quiet (by kernel_rfl) (by kernel_rfl) ?_
 refine Qt.r (Ev.move rfl) ?_
 refine Qt.r (Ev.move rfl) ?_
 refine Qt.r (Ev.lss rfl rfl) ?_
 refine Qt.r (Ev.move rfl) ?_
 obtain ⟨o13, H, HKo13⟩ := bind_some H
 refine Qt.join (σ := Bool) 12 (fun y14 => [(0, Sl.v s_a0), (1, iv a1), (2, iv a2), (7, iv y10), (8, iv y4), (32, .bool y14)]) (fun y14 => y14 = o13) ?_ ?_
 ·rcases (Bool.eq_false_or_eq_true (decide (y10 < a2))).symm with hb15 | hb15
  ·replace H := ite_f hb15 H
   refine Qt.skip rfl rfl rfl hb15 rfl (by decide) ?_
   refine Qt.skip rfl rfl rfl hb15 rfl (by decide) ?_
   refine Qt.skip rfl rfl rfl hb15 rfl (by decide) ?_
   refine Qt.skip rfl rfl rfl hb15 rfl (by decide) ?_
   refine Qt.skip rfl rfl rfl hb15 rfl (by decide) ?_
   refine Qt.skip rfl rfl rfl hb15 rfl (by decide) ?_
   refine Qt.skip rfl rfl rfl hb15 rfl (by decide) ?_
   refine Qt.skip rfl rfl rfl hb15 rfl (by decide) ?_
   refine Qt.skip rfl rfl rfl hb15 rfl (by decide) ?_
   refine Qt.skip rfl rfl rfl hb15 rfl (by decide) ?_
   refine Qt.skip rfl rfl rfl hb15 rfl (by decide) ?_
   refine Qt.r (Ev.pickF rfl hb15 rfl) ?_
   exact Qt.meet false ⟨rfl, rfl, rfl, rfl, rfl, rfl, trivial⟩ (some_inj H)
  replace H := ite_t hb15 H
  refine Qt.rG hb15 (Ev.move rfl) ?_
  refine Qt.rG hb15 (Ev.move rfl) ?_
  obtain ⟨x16, h17, H⟩ := bind_some H
  have g18 := lat_some h17
  refine Qt.rG hb15 (Ev.indexS (α := Str) (xs := l5) rfl rfl Try.runUnderlying50 Try.sizeOf9 rfl (by decide) (Rd.own (i := 0) rfl rfl rfl) g18.1 g18.2.1) ?_
  refine Qt.rG hb15 (Ev.loadS (α := Str) rfl (Rd.own (i := 0) rfl rfl rfl) Try.isAgg9 (v := Str.v x16) ((Get.elemN (s := 1) (x := x16) rfl g18.2.2 (Get.here _)).off (by omega))) ?_
  refine Qt.rG hb15 (Ev.move rfl) ?_
  refine Qt.rG hb15 (Ev.move rfl) ?_
  refine Qt.rG hb15 (Ev.sub rfl rfl) ?_
  obtain ⟨x19, h20, H⟩ := bind_some H
  have g21 := lat_some h20
  refine Qt.rG hb15 (Ev.indexS (α := Str) (xs := l5) rfl rfl Try.runUnderlying50 Try.sizeOf9 rfl (by decide) (Rd.own (i := 0) rfl rfl rfl) g21.1 g21.2.1) ?_
  refine Qt.rG hb15 (Ev.loadS (α := Str) rfl (Rd.own (i := 0) rfl rfl rfl) Try.isAgg9 (v := Str.v x19) ((Get.elemN (s := 1) (x := x19) rfl g21.2.2 (Get.here _)).off (by omega))) ?_
  obtain ⟨r22, h23, H⟩ := bind_some H
  refine Qt.callG rfl rfl rfl hb15 rfl (by decide) (vs := [Str.v x16, Str.v x19]) ⟨rfl, rfl, trivial⟩ Try.call121 (cmp_Less_string_sim h23 w0 _ M _ (sc1 hM)) ?_
  refine Qt.rG hb15 (Ev.not rfl) ?_
  refine Qt.r (Ev.pickT rfl hb15 rfl) ?_
  exact Qt.meet (!r22) ⟨rfl, rfl, rfl, rfl, rfl, rfl, trivial⟩ (some_inj H)
 rintro y14 hy
 subst hy
 refine Qt.as (e' := [(0, Sl.v s_a0), (1, iv a1), (2, iv a2), (7, iv y10), (8, iv y4), (32, .bool y14)]) ⟨rfl, rfl, rfl, rfl, rfl, rfl, trivial⟩ ?_
 replace H := HKo13
 refine Qt.done ?_
 refine At.then ?_
 rcases (Bool.eq_false_or_eq_true y14).symm with hb26 | hb26
 ·replace H := ite_f hb26 H
  refine Cd.condF rfl hb26 ?_
  refine Cd.exit ?_
  refine At.then_exit ?_
  refine At.then_exit ?_
  refine At.in_exit ?_
  have H := hbrk9 _ (some_inj H).symm
  subst H
  replace H := HKl9
  refine At.then ?_
  refine Cd.seq ?_
  refine Cd.seq ?_
  refine Cd.region ?_
  refine Lst.r (Ev.move rfl) ?_
  refine Lst.r (Ev.move rfl) ?_
  refine Lst.r (Ev.eql rfl rfl) ?_
  refine Lst.nil ?_
  refine At.then ?_
  rcases Bool.eq_false_or_eq_true (y10 == a2) with hb27 | hb27
  ·replace H := ite_t hb27 H
   refine Cd.condT rfl hb27 ?_
   refine Cd.seq ?_
   refine Cd.region ?_
   refine Lst.r (Ev.assign rfl) ?_
   refine Lst.nil ?_
   refine At.then ?_
   have H := hret2 _ (some_inj H).symm
   subst H
   replace H := HKl2
   obtain rfl := some_inj H
   refine Cd.ret ?_
   refine At.then_ret ?_
   refine At.in_ret ?_
   refine At.then_ret ?_
   refine At.then_ret ?_
   refine At.in_ret ?_
   refine At.then_ret ?_
   exact At.ret1 rfl (Res.tmp rfl) (FLe.trans hF7 hF12) (sk1 (.refl _)) ⟨rfl, rfl⟩
  replace H := ite_f hb27 H
  refine Cd.condF rfl hb27 ?_
  refine Cd.skip ?_
  refine At.then ?_
  refine Cd.seq ?_
  refine Cd.seq ?_
  refine Cd.region ?_
  refine Lst.r (Ev.move rfl) ?_
  refine Lst.r (Ev.move rfl) ?_
  refine Lst.r (Ev.sub rfl rfl) ?_
  refine Lst.r (Ev.lss rfl rfl) ?_
  refine Lst.nil ?_
  refine At.then ?_
  rcases Bool.eq_false_or_eq_true (decide ((w64 (a2 - a1)) < (50 : Int))) with hb28 | hb28
  ·replace H := ite_t hb28 H
   refine Cd.condT rfl hb28 ?_
   refine Cd.seq ?_
   refine Cd.region ?_
   refine Lst.r (Ev.assign rfl) ?_
   refine Lst.nil ?_
   refine At.then ?_
   have H := hret2 _ (some_inj H).symm
   subst H
   replace H := HKl2
   obtain rfl := some_inj H
   refine Cd.ret ?_
   refine At.then_ret ?_
   refine At.in_ret ?_
   refine At.then_ret ?_
   refine At.then_ret ?_
   refine At.in_ret ?_
   refine At.then_ret ?_
   exact At.ret1 rfl (Res.tmp rfl) (FLe.trans hF7 hF12) (sk1 (.refl _)) ⟨rfl, rfl⟩
  replace H := ite_f hb28 H
  refine Cd.condF rfl hb28 ?_
  refine Cd.skip ?_
  refine At.then ?_
  refine Cd.seq ?_
  obtain ⟨x29, h30, H⟩ := bind_some H
  obtain ⟨x32, h33, H⟩ := bind_some H
  obtain ⟨x35, h36, H⟩ := bind_some H
  obtain ⟨p38, h39, H⟩ := Let_some H
  obtain ⟨o42, h43, H⟩ := Let_some H
  refine Cd.headMeet (σ := (List Str)) 16 (fun l41 => [(0, Sl.v s_a0), (1, iv a1), (2, iv a2), (7, iv y10), (8, iv y4), (44, Sl.v s_a0), (46, iv (w64 (y10 - (1 : Int)))), (55, Str.v x32)]) (fun l41 => (.own s_a0 9 1 (encs l41)) :: L) (fun _ l41 => l41 = o42) (by kernel_rfl) (by kernel_rfl) (behind_sink (by kernel_rfl) (by kernel_rfl) (by kernel_rfl)) (by kernel_rfl) (fun hsel hlt => ?_) ?_
  ·refine HdJ.keep (fun w => St w0 F11 (L) w) (fun w h => trivial) ?_
   refine HdJ.tk hsel hlt 0 (fun w h => h.sublist (sc1 (.refl _))) rfl (Ev.move rfl) ?_
   refine HdJ.tk hsel hlt 1 (fun w h => h.sublist (sc1 (.refl _))) rfl (Ev.move rfl) ?_
   refine HdJ.tk hsel hlt 2 (fun w h => h.sublist (sc1 (.refl _))) rfl (Ev.move rfl) ?_
   refine HdJ.tk hsel hlt 3 (fun w h => h.sublist (sc1 (.refl _))) rfl (Ev.move rfl) ?_
   refine HdJ.tk hsel hlt 4 (fun w h => h.sublist (sc1 (.refl _))) rfl (Ev.sub rfl rfl) ?_
   refine HdJ.tk hsel hlt 5 (fun w h => h.sublist (sc1 (.refl _))) rfl (Ev.move rfl) ?_
   refine HdJ.tk hsel hlt 6 (fun w h => h.sublist (sc1 (.refl _))) rfl (Ev.move rfl) ?_
   refine HdJ.tk hsel hlt 7 (fun w h => h.sublist (sc1 (.refl _))) rfl (Ev.sub rfl rfl) ?_
   refine HdJ.tk hsel hlt 10 (fun w h => h.sublist (sc1 (.refl _))) rfl (Ev.move rfl) ?_
   refine HdJ.tk hsel hlt 11 (fun w h => h.sublist (sc1 (.refl _))) rfl (Ev.move rfl) ?_
   refine HdJ.step [8, 12] (by kernel_rfl) rfl ?_
   refine HdStep.c (fun inv => ?_) ?_
   ·have g44 := lat_some h30
    refine Lst.r (Ev.indexS (α := Str) (xs := l5) rfl rfl Try.runUnderlying50 Try.sizeOf9 rfl (by decide) (Rd.own (i := 0) rfl rfl rfl) g44.1 g44.2.1) ?_
    refine Lst.nil ?_
    refine At.hd inv (fun w h => (h.weaken (FLe.refl _)).sublist (sc1 (.refl _))) ?_
    refine HdJ.step [9, 12] (by kernel_rfl) rfl ?_
    refine HdStep.c (fun inv => ?_) ?_
    ·refine Lst.r (Ev.loadS (α := Str) rfl (Rd.own (i := 0) rfl rfl rfl) Try.isAgg9 (v := Str.v x29) ((Get.elemN (s := 1) (x := x29) rfl g44.2.2 (Get.here _)).off (by omega))) ?_
     refine Lst.nil ?_
     refine At.hd inv (fun w h => (h.weaken (FLe.refl _)).sublist (sc1 (.refl _))) ?_
     refine HdJ.step [12] (by kernel_rfl) rfl ?_
     refine HdStep.c (fun inv => ?_) ?_
     ·have g45 := lat_some h33
      refine Lst.r (Ev.indexS (α := Str) (xs := l5) rfl rfl Try.runUnderlying50 Try.sizeOf9 rfl (by decide) (Rd.own (i := 0) rfl rfl rfl) g45.1 g45.2.1) ?_
      refine Lst.nil ?_
      refine At.hd inv (fun w h => (h.weaken (FLe.refl _)).sublist (sc1 (.refl _))) ?_
      refine HdJ.step [13] (by kernel_rfl) rfl ?_
      refine HdStep.c (fun inv => ?_) ?_
      ·refine Lst.r (Ev.loadS (α := Str) rfl (Rd.own (i := 0) rfl rfl rfl) Try.isAgg9 (v := Str.v x32) ((Get.elemN (s := 1) (x := x32) rfl g45.2.2 (Get.here _)).off (by omega))) ?_
       refine Lst.nil ?_
       refine At.hd inv (fun w h => (h.weaken (FLe.refl _)).sublist (sc1 (.refl _))) ?_
       refine HdJ.step [14] (by kernel_rfl) rfl ?_
       refine HdStep.c (fun inv => ?_) ?_
       ·have g46 := lat_some h36
        refine Lst.r (Ev.indexS (α := Str) (xs := l5) rfl rfl Try.runUnderlying50 Try.sizeOf9 rfl (by decide) (Rd.own (i := 0) rfl rfl rfl) g46.1 g46.2.1) ?_
        refine Lst.nil ?_
        refine At.hd inv (fun w h => (h.weaken (FLe.refl _)).sublist (sc1 (.refl _))) ?_
        refine HdJ.step [15] (by kernel_rfl) rfl ?_
        refine HdStep.c (fun inv => ?_) ?_
        ·refine Lst.storeS (i := 0) rfl rfl rfl rfl rfl Try.sizeOf9 (vs := [Str.v x29]) rfl rfl (by decide) rfl (xs' := encs p38) (by rw [← h39]; exact (Put.elemN (s := 1) (x := x35) rfl g46.2.2 (Put.here (vs := [Str.v x29]) rfl)).off (by omega)) (L' := (.own s_a0 9 1 (encs p38)) :: L) rfl ?_
         refine Lst.nil ?_
         refine At.hd inv (fun w h => (h.weaken (FLe.refl _)).sublist (sc1 (.refl _))) ?_
         refine HdJ.done (by kernel_rfl) ?_
         exact At.meetN p38 (FLe.refl _) ⟨rfl, rfl, rfl, rfl, rfl, rfl, rfl, rfl, trivial⟩ rfl h43
        exact trivial
       exact trivial
      exact trivial
     exact trivial
    refine HdStep.c (fun inv => ?_) ?_
    ·have g47 := lat_some h33
     refine Lst.r (Ev.indexS (α := Str) (xs := l5) rfl rfl Try.runUnderlying50 Try.sizeOf9 rfl (by decide) (Rd.own (i := 0) rfl rfl rfl) g47.1 g47.2.1) ?_
     refine Lst.nil ?_
     refine At.hd inv (fun w h => (h.weaken (FLe.refl _)).sublist (sc1 (.refl _))) ?_
     refine HdJ.step [9, 13] (by kernel_rfl) rfl ?_
     refine HdStep.c (fun inv => ?_) ?_
     ·refine Lst.r (Ev.loadS (α := Str) rfl (Rd.own (i := 0) rfl rfl rfl) Try.isAgg9 (v := Str.v x29) ((Get.elemN (s := 1) (x := x29) rfl g44.2.2 (Get.here _)).off (by omega))) ?_
      refine Lst.nil ?_
      refine At.hd inv (fun w h => (h.weaken (FLe.refl _)).sublist (sc1 (.refl _))) ?_
      refine HdJ.step [13] (by kernel_rfl) rfl ?_
      refine HdStep.c (fun inv => ?_) ?_
      ·refine Lst.r (Ev.loadS (α := Str) rfl (Rd.own (i := 0) rfl rfl rfl) Try.isAgg9 (v := Str.v x32) ((Get.elemN (s := 1) (x := x32) rfl g47.2.2 (Get.here _)).off (by omega))) ?_
       refine Lst.nil ?_
       refine At.hd inv (fun w h => (h.weaken (FLe.refl _)).sublist (sc1 (.refl _))) ?_
       refine HdJ.step [14] (by kernel_rfl) rfl ?_
       refine HdStep.c (fun inv => ?_) ?_
       ·have g48 := lat_some h36
        refine Lst.r (Ev.indexS (α := Str) (xs := l5) rfl rfl Try.runUnderlying50 Try.sizeOf9 rfl (by decide) (Rd.own (i := 0) rfl rfl rfl) g48.1 g48.2.1) ?_
        refine Lst.nil ?_
        refine At.hd inv (fun w h => (h.weaken (FLe.refl _)).sublist (sc1 (.refl _))) ?_
        refine HdJ.step [15] (by kernel_rfl) rfl ?_
        refine HdStep.c (fun inv => ?_) ?_
        ·refine Lst.storeS (i := 0) rfl rfl rfl rfl rfl Try.sizeOf9 (vs := [Str.v x29]) rfl rfl (by decide) rfl (xs' := encs p38) (by rw [← h39]; exact (Put.elemN (s := 1) (x := x35) rfl g48.2.2 (Put.here (vs := [Str.v x29]) rfl)).off (by omega)) (L' := (.own s_a0 9 1 (encs p38)) :: L) rfl ?_
         refine Lst.nil ?_
         refine At.hd inv (fun w h => (h.weaken (FLe.refl _)).sublist (sc1 (.refl _))) ?_
         refine HdJ.done (by kernel_rfl) ?_
         exact At.meetN p38 (FLe.refl _) ⟨rfl, rfl, rfl, rfl, rfl, rfl, rfl, rfl, trivial⟩ rfl h43
        exact trivial
       exact trivial
      exact trivial
     refine HdStep.c (fun inv => ?_) ?_
     ·refine Lst.r (Ev.loadS (α := Str) rfl (Rd.own (i := 0) rfl rfl rfl) Try.isAgg9 (v := Str.v x32) ((Get.elemN (s := 1) (x := x32) rfl g47.2.2 (Get.here _)).off (by omega))) ?_
      refine Lst.nil ?_
      refine At.hd inv (fun w h => (h.weaken (FLe.refl _)).sublist (sc1 (.refl _))) ?_
      refine HdJ.step [9] (by kernel_rfl) rfl ?_
      refine HdStep.c (fun inv => ?_) ?_
      ·refine Lst.r (Ev.loadS (α := Str) rfl (Rd.own (i := 0) rfl rfl rfl) Try.isAgg9 (v := Str.v x29) ((Get.elemN (s := 1) (x := x29) rfl g44.2.2 (Get.here _)).off (by omega))) ?_
       refine Lst.nil ?_
       refine At.hd inv (fun w h => (h.weaken (FLe.refl _)).sublist (sc1 (.refl _))) ?_
       refine HdJ.step [14] (by kernel_rfl) rfl ?_
       refine HdStep.c (fun inv => ?_) ?_
       ·have g49 := lat_some h36
        refine Lst.r (Ev.indexS (α := Str) (xs := l5) rfl rfl Try.runUnderlying50 Try.sizeOf9 rfl (by decide) (Rd.own (i := 0) rfl rfl rfl) g49.1 g49.2.1) ?_
        refine Lst.nil ?_
        refine At.hd inv (fun w h => (h.weaken (FLe.refl _)).sublist (sc1 (.refl _))) ?_
        refine HdJ.step [15] (by kernel_rfl) rfl ?_
        refine HdStep.c (fun inv => ?_) ?_
        ·refine Lst.storeS (i := 0) rfl rfl rfl rfl rfl Try.sizeOf9 (vs := [Str.v x29]) rfl rfl (by decide) rfl (xs' := encs p38) (by rw [← h39]; exact (Put.elemN (s := 1) (x := x35) rfl g49.2.2 (Put.here (vs := [Str.v x29]) rfl)).off (by omega)) (L' := (.own s_a0 9 1 (encs p38)) :: L) rfl ?_
         refine Lst.nil ?_
         refine At.hd inv (fun w h => (h.weaken (FLe.refl _)).sublist (sc1 (.refl _))) ?_
         refine HdJ.done (by kernel_rfl) ?_
         exact At.meetN p38 (FLe.refl _) ⟨rfl, rfl, rfl, rfl, rfl, rfl, rfl, rfl, trivial⟩ rfl h43
        exact trivial
       exact trivial
      exact trivial
     exact trivial
    exact trivial
   refine HdStep.c (fun inv => ?_) ?_
   ·have g50 := lat_some h33
    refine Lst.r (Ev.indexS (α := Str) (xs := l5) rfl rfl Try.runUnderlying50 Try.sizeOf9 rfl (by decide) (Rd.own (i := 0) rfl rfl rfl) g50.1 g50.2.1) ?_
    refine Lst.nil ?_
    refine At.hd inv (fun w h => (h.weaken (FLe.refl _)).sublist (sc1 (.refl _))) ?_
    refine HdJ.step [8, 13] (by kernel_rfl) rfl ?_
    refine HdStep.c (fun inv => ?_) ?_
    ·have g51 := lat_some h30
     refine Lst.r (Ev.indexS (α := Str) (xs := l5) rfl rfl Try.runUnderlying50 Try.sizeOf9 rfl (by decide) (Rd.own (i := 0) rfl rfl rfl) g51.1 g51.2.1) ?_
     refine Lst.nil ?_
     refine At.hd inv (fun w h => (h.weaken (FLe.refl _)).sublist (sc1 (.refl _))) ?_
     refine HdJ.step [9, 13] (by kernel_rfl) rfl ?_
     refine HdStep.c (fun inv => ?_) ?_
     ·refine Lst.r (Ev.loadS (α := Str) rfl (Rd.own (i := 0) rfl rfl rfl) Try.isAgg9 (v := Str.v x29) ((Get.elemN (s := 1) (x := x29) rfl g51.2.2 (Get.here _)).off (by omega))) ?_
      refine Lst.nil ?_
      refine At.hd inv (fun w h => (h.weaken (FLe.refl _)).sublist (sc1 (.refl _))) ?_
      refine HdJ.step [13] (by kernel_rfl) rfl ?_
      refine HdStep.c (fun inv => ?_) ?_
      ·refine Lst.r (Ev.loadS (α := Str) rfl (Rd.own (i := 0) rfl rfl rfl) Try.isAgg9 (v := Str.v x32) ((Get.elemN (s := 1) (x := x32) rfl g50.2.2 (Get.here _)).off (by omega))) ?_
       refine Lst.nil ?_
       refine At.hd inv (fun w h => (h.weaken (FLe.refl _)).sublist (sc1 (.refl _))) ?_
       refine HdJ.step [14] (by kernel_rfl) rfl ?_
       refine HdStep.c (fun inv => ?_) ?_
       ·have g52 := lat_some h36
        refine Lst.r (Ev.indexS (α := Str) (xs := l5) rfl rfl Try.runUnderlying50 Try.sizeOf9 rfl (by decide) (Rd.own (i := 0) rfl rfl rfl) g52.1 g52.2.1) ?_
        refine Lst.nil ?_
        refine At.hd inv (fun w h => (h.weaken (FLe.refl _)).sublist (sc1 (.refl _))) ?_
        refine HdJ.step [15] (by kernel_rfl) rfl ?_
        refine HdStep.c (fun inv => ?_) ?_
        ·refine Lst.storeS (i := 0) rfl rfl rfl rfl rfl Try.sizeOf9 (vs := [Str.v x29]) rfl rfl (by decide) rfl (xs' := encs p38) (by rw [← h39]; exact (Put.elemN (s := 1) (x := x35) rfl g52.2.2 (Put.here (vs := [Str.v x29]) rfl)).off (by omega)) (L' := (.own s_a0 9 1 (encs p38)) :: L) rfl ?_
         refine Lst.nil ?_
         refine At.hd inv (fun w h => (h.weaken (FLe.refl _)).sublist (sc1 (.refl _))) ?_
         refine HdJ.done (by kernel_rfl) ?_
         exact At.meetN p38 (FLe.refl _) ⟨rfl, rfl, rfl, rfl, rfl, rfl, rfl, rfl, trivial⟩ rfl h43
        exact trivial
       exact trivial
      exact trivial
     refine HdStep.c (fun inv => ?_) ?_
     ·refine Lst.r (Ev.loadS (α := Str) rfl (Rd.own (i := 0) rfl rfl rfl) Try.isAgg9 (v := Str.v x32) ((Get.elemN (s := 1) (x := x32) rfl g50.2.2 (Get.here _)).off (by omega))) ?_
      refine Lst.nil ?_
      refine At.hd inv (fun w h => (h.weaken (FLe.refl _)).sublist (sc1 (.refl _))) ?_
      refine HdJ.step [9] (by kernel_rfl) rfl ?_
      refine HdStep.c (fun inv => ?_) ?_
      ·refine Lst.r (Ev.loadS (α := Str) rfl (Rd.own (i := 0) rfl rfl rfl) Try.isAgg9 (v := Str.v x29) ((Get.elemN (s := 1) (x := x29) rfl g51.2.2 (Get.here _)).off (by omega))) ?_
       refine Lst.nil ?_
       refine At.hd inv (fun w h => (h.weaken (FLe.refl _)).sublist (sc1 (.refl _))) ?_
       refine HdJ.step [14] (by kernel_rfl) rfl ?_
       refine HdStep.c (fun inv => ?_) ?_
       ·have g53 := lat_some h36
        refine Lst.r (Ev.indexS (α := Str) (xs := l5) rfl rfl Try.runUnderlying50 Try.sizeOf9 rfl (by decide) (Rd.own (i := 0) rfl rfl rfl) g53.1 g53.2.1) ?_
        refine Lst.nil ?_
        refine At.hd inv (fun w h => (h.weaken (FLe.refl _)).sublist (sc1 (.refl _))) ?_
        refine HdJ.step [15] (by kernel_rfl) rfl ?_
        refine HdStep.c (fun inv => ?_) ?_
        ·refine Lst.storeS (i := 0) rfl rfl rfl rfl rfl Try.sizeOf9 (vs := [Str.v x29]) rfl rfl (by decide) rfl (xs' := encs p38) (by rw [← h39]; exact (Put.elemN (s := 1) (x := x35) rfl g53.2.2 (Put.here (vs := [Str.v x29]) rfl)).off (by omega)) (L' := (.own s_a0 9 1 (encs p38)) :: L) rfl ?_
         refine Lst.nil ?_
         refine At.hd inv (fun w h => (h.weaken (FLe.refl _)).sublist (sc1 (.refl _))) ?_
         refine HdJ.done (by kernel_rfl) ?_
         exact At.meetN p38 (FLe.refl _) ⟨rfl, rfl, rfl, rfl, rfl, rfl, rfl, rfl, trivial⟩ rfl h43
        exact trivial
       exact trivial
      exact trivial
     exact trivial
    refine HdStep.c (fun inv => ?_) ?_
    ·refine Lst.r (Ev.loadS (α := Str) rfl (Rd.own (i := 0) rfl rfl rfl) Try.isAgg9 (v := Str.v x32) ((Get.elemN (s := 1) (x := x32) rfl g50.2.2 (Get.here _)).off (by omega))) ?_
     refine Lst.nil ?_
     refine At.hd inv (fun w h => (h.weaken (FLe.refl _)).sublist (sc1 (.refl _))) ?_
     refine HdJ.step [8] (by kernel_rfl) rfl ?_
     refine HdStep.c (fun inv => ?_) ?_
     ·have g54 := lat_some h30
      refine Lst.r (Ev.indexS (α := Str) (xs := l5) rfl rfl Try.runUnderlying50 Try.sizeOf9 rfl (by decide) (Rd.own (i := 0) rfl rfl rfl) g54.1 g54.2.1) ?_
      refine Lst.nil ?_
      refine At.hd inv (fun w h => (h.weaken (FLe.refl _)).sublist (sc1 (.refl _))) ?_
      refine HdJ.step [9] (by kernel_rfl) rfl ?_
      refine HdStep.c (fun inv => ?_) ?_
      ·refine Lst.r (Ev.loadS (α := Str) rfl (Rd.own (i := 0) rfl rfl rfl) Try.isAgg9 (v := Str.v x29) ((Get.elemN (s := 1) (x := x29) rfl g54.2.2 (Get.here _)).off (by omega))) ?_
       refine Lst.nil ?_
       refine At.hd inv (fun w h => (h.weaken (FLe.refl _)).sublist (sc1 (.refl _))) ?_
       refine HdJ.step [14] (by kernel_rfl) rfl ?_
       refine HdStep.c (fun inv => ?_) ?_
       ·have g55 := lat_some h36
        refine Lst.r (Ev.indexS (α := Str) (xs := l5) rfl rfl Try.runUnderlying50 Try.sizeOf9 rfl (by decide) (Rd.own (i := 0) rfl rfl rfl) g55.1 g55.2.1) ?_
        refine Lst.nil ?_
        refine At.hd inv (fun w h => (h.weaken (FLe.refl _)).sublist (sc1 (.refl _))) ?_
        refine HdJ.step [15] (by kernel_rfl) rfl ?_
        refine HdStep.c (fun inv => ?_) ?_
        ·refine Lst.storeS (i := 0) rfl rfl rfl rfl rfl Try.sizeOf9 (vs := [Str.v x29]) rfl rfl (by decide) rfl (xs' := encs p38) (by rw [← h39]; exact (Put.elemN (s := 1) (x := x35) rfl g55.2.2 (Put.here (vs := [Str.v x29]) rfl)).off (by omega)) (L' := (.own s_a0 9 1 (encs p38)) :: L) rfl ?_
         refine Lst.nil ?_
         refine At.hd inv (fun w h => (h.weaken (FLe.refl _)).sublist (sc1 (.refl _))) ?_
         refine HdJ.done (by kernel_rfl) ?_
         exact At.meetN p38 (FLe.refl _) ⟨rfl, rfl, rfl, rfl, rfl, rfl, rfl, rfl, trivial⟩ rfl h43
        exact trivial
       exact trivial
      exact trivial
     exact trivial
    exact trivial
   exact trivial
  rintro F56 l41 hF57 hy
  subst hy
  refine Lst.as (e' := [(0, Sl.v s_a0), (1, iv a1), (2, iv a2), (7, iv y10), (8, iv y4), (44, Sl.v s_a0), (46, iv (w64 (y10 - (1 : Int)))), (55, Str.v x32)]) (L' := (.own s_a0 9 1 (encs l41)) :: L) ⟨rfl, rfl, rfl, rfl, rfl, rfl, rfl, rfl, trivial⟩ rfl ?_
  obtain ⟨x58, h59, H⟩ := bind_some H
  have g60 := lat_some h59
  refine Lst.r (Ev.indexS (α := Str) (xs := l41) rfl rfl Try.runUnderlying50 Try.sizeOf9 rfl (by decide) (Rd.own (i := 0) rfl rfl rfl) g60.1 g60.2.1) ?_
  obtain ⟨p61, h62, H⟩ := Let_some H
  refine Lst.storeS (i := 0) rfl rfl rfl rfl rfl Try.sizeOf9 (vs := [Str.v x32]) rfl rfl (by decide) rfl (xs' := encs p61) (by rw [← h62]; exact (Put.elemN (s := 1) (x := x58) rfl g60.2.2 (Put.here (vs := [Str.v x32]) rfl)).off (by omega)) (L' := (.own s_a0 9 1 (encs p61)) :: L) rfl ?_
  refine Lst.nil ?_
  refine At.then ?_
  obtain ⟨o64, H, HKo64⟩ := bind_some H
  refine Cd.join (σ := (List Str)) (fun l63 => [(0, Sl.v s_a0), (1, iv a1), (2, iv a2), (7, iv y10), (8, iv y4)]) (fun l63 => (.own s_a0 9 1 (encs l63)) :: L) (fun _ l63 => l63 = o64) ?_ ?_
  ·refine Cd.seq ?_
   refine Cd.region ?_
   refine Lst.r (Ev.move rfl) ?_
   refine Lst.r (Ev.move rfl) ?_
   refine Lst.r (Ev.sub rfl rfl) ?_
   refine Lst.r (Ev.geq rfl rfl) ?_
   refine Lst.nil ?_
   refine At.then ?_
   rcases (Bool.eq_false_or_eq_true (decide ((w64 (y10 - a1)) ≥ (2 : Int)))).symm with hb65 | hb65
   ·replace H := ite_f hb65 H
    refine Cd.condF rfl hb65 ?_
    refine Cd.skip ?_
    exact At.meet p61 (FLe.refl _) ⟨rfl, rfl, rfl, rfl, rfl, trivial⟩ rfl (some_inj H)
   replace H := ite_t hb65 H
   refine Cd.condT rfl hb65 ?_
   refine Cd.seq ?_
   refine Cd.region ?_
   refine Lst.r (Ev.move rfl) ?_
   refine Lst.r (Ev.sub rfl rfl) ?_
   refine Lst.r (Ev.assign rfl) ?_
   refine Lst.nil ?_
   refine At.then ?_
   refine Cd.block ?_
   obtain ⟨ol66, H, HKl66⟩ := andThen_some H
   refine Cd.loop (σ := Nat × Int × (List Str)) (fun (k66, y67, l68) => [(0, Sl.v s_a0), (1, iv a1), (2, iv a2), (7, iv y10), (8, iv y4), (9, iv y67)]) (fun (k66, y67, l68) => (.own s_a0 9 1 (encs l68)) :: L) (fun _ => (fun (k66, y67, l68) => whileM (slices_partialInsertionSortOrdered_string_B4) k66 (y67, l68) = some ol66)) (fun (k66, y67, l68) => k66) (fu, w64 (y10 - (1 : Int)), p61) ⟨rfl, rfl, rfl, rfl, rfl, rfl, trivial⟩ rfl H ?_
   rintro F69 ⟨k66, y67, l68⟩ hF70 H
   refine Cd.as (e' := [(0, Sl.v s_a0), (1, iv a1), (2, iv a2), (7, iv y10), (8, iv y4), (9, iv y67)]) (L' := (.own s_a0 9 1 (encs l68)) :: L) ⟨rfl, rfl, rfl, rfl, rfl, rfl, trivial⟩ rfl ?_
   rcases k66 with _ | k66
   ·cases H
   obtain ⟨c66, H, hgo66, hbrk66, hret66⟩ := whileM_go H
   unfold slices_partialInsertionSortOrdered_string_B4 at H
   try dsimp only at H
   refine Cd.seq ?_
   refine Cd.seq ?_
   refine Cd.region ?_
   refine Lst.r (Ev.move rfl) ?_
   refine Lst.r (Ev.geq rfl rfl) ?_
   refine Lst.nil ?_
   refine At.then ?_
   rcases (Bool.eq_false_or_eq_true (decide (y67 ≥ (1 : Int)))).symm with hb71 | hb71
   ·replace H := ite_f hb71 H
    refine Cd.condF rfl hb71 ?_
    refine Cd.exit ?_
    refine At.then_exit ?_
    refine At.then_exit ?_
    refine At.in_exit ?_
    have H := hbrk66 _ (some_inj H).symm
    subst H
    replace H := HKl66
    exact At.meet l68 hF70 ⟨rfl, rfl, rfl, rfl, rfl, trivial⟩ rfl (some_inj H)
   replace H := ite_t hb71 H
   refine Cd.condT rfl hb71 ?_
   refine Cd.skip ?_
   refine At.then ?_
   refine Cd.seq ?_
   refine Cd.block ?_
   refine Cd.seq ?_
   refine Cd.seq ?_
   refine Cd.quiet (by kernel_rfl) (by kernel_rfl) ?_
   refine Qt.r (Ev.move rfl) ?_
   refine Qt.r (Ev.move rfl) ?_
   obtain ⟨x72, h73, H⟩ := bind_some H
   have g74 := lat_some h73
   refine Qt.r (Ev.indexS (α := Str) (xs := l68) rfl rfl Try.runUnderlying50 Try.sizeOf9 rfl (by decide) (Rd.own (i := 0) rfl rfl rfl) g74.1 g74.2.1) ?_
   refine Qt.r (Ev.loadS (α := Str) rfl (Rd.own (i := 0) rfl rfl rfl) Try.isAgg9 (v := Str.v x72) ((Get.elemN (s := 1) (x := x72) rfl g74.2.2 (Get.here _)).off (by omega))) ?_
   refine Qt.r (Ev.move rfl) ?_
   refine Qt.r (Ev.move rfl) ?_
   refine Qt.r (Ev.sub rfl rfl) ?_
   obtain ⟨x75, h76, H⟩ := bind_some H
   have g77 := lat_some h76
   refine Qt.r (Ev.indexS (α := Str) (xs := l68) rfl rfl Try.runUnderlying50 Try.sizeOf9 rfl (by decide) (Rd.own (i := 0) rfl rfl rfl) g77.1 g77.2.1) ?_
   refine Qt.r (Ev.loadS (α := Str) rfl (Rd.own (i := 0) rfl rfl rfl) Try.isAgg9 (v := Str.v x75) ((Get.elemN (s := 1) (x := x75) rfl g77.2.2 (Get.here _)).off (by omega))) ?_
   obtain ⟨r78, h79, H⟩ := bind_some H
   refine Qt.call rfl rfl (by decide) (vs := [Str.v x72, Str.v x75]) ⟨rfl, rfl, trivial⟩ Try.call121 (cmp_Less_string_sim h79 w0 _ M _ (sc1 hM)) ?_
   refine Qt.r (Ev.not rfl) ?_
   refine Qt.done ?_
   refine At.then ?_
   rcases Bool.eq_false_or_eq_true (!r78) with hb82 | hb82
   ·replace H := ite_t hb82 H
    refine Cd.condT rfl hb82 ?_
    refine Cd.exit ?_
    refine At.then_exit ?_
    refine At.in_other rfl ?_
    refine At.then_exit ?_
    refine At.then_exit ?_
    refine At.in_exit ?_
    have H := hbrk66 _ (some_inj H).symm
    subst H
    replace H := HKl66
    exact At.meet l68 hF70 ⟨rfl, rfl, rfl, rfl, rfl, trivial⟩ rfl (some_inj H)
   replace H := ite_f hb82 H
   refine Cd.condF rfl hb82 ?_
   refine Cd.skip ?_
   refine At.then ?_
   obtain ⟨x83, h84, H⟩ := bind_some H
   obtain ⟨x86, h87, H⟩ := bind_some H
   obtain ⟨x89, h90, H⟩ := bind_some H
   obtain ⟨p92, h93, H⟩ := Let_some H
   obtain ⟨o96, h97, H⟩ := Let_some H
   refine Cd.headMeet (σ := (List Str)) 16 (fun l95 => [(0, Sl.v s_a0), (1, iv a1), (2, iv a2), (7, iv y10), (8, iv y4), (9, iv y67), (81, Sl.v s_a0), (83, iv (w64 (y67 - (1 : Int)))), (92, Str.v x86)]) (fun l95 => (.own s_a0 9 1 (encs l95)) :: L) (fun _ l95 => l95 = o96) (by kernel_rfl) (by kernel_rfl) (behind_sink (by kernel_rfl) (by kernel_rfl) (by kernel_rfl)) (by kernel_rfl) (fun hsel hlt => ?_) ?_
   ·refine HdJ.keep (fun w => St w0 F69 (L) w) (fun w h => trivial) ?_
    refine HdJ.tk hsel hlt 0 (fun w h => h.sublist (sc1 (.refl _))) rfl (Ev.move rfl) ?_
    refine HdJ.tk hsel hlt 1 (fun w h => h.sublist (sc1 (.refl _))) rfl (Ev.move rfl) ?_
    refine HdJ.tk hsel hlt 2 (fun w h => h.sublist (sc1 (.refl _))) rfl (Ev.move rfl) ?_
    refine HdJ.tk hsel hlt 3 (fun w h => h.sublist (sc1 (.refl _))) rfl (Ev.move rfl) ?_
    refine HdJ.tk hsel hlt 4 (fun w h => h.sublist (sc1 (.refl _))) rfl (Ev.sub rfl rfl) ?_
    refine HdJ.tk hsel hlt 5 (fun w h => h.sublist (sc1 (.refl _))) rfl (Ev.move rfl) ?_
    refine HdJ.tk hsel hlt 6 (fun w h => h.sublist (sc1 (.refl _))) rfl (Ev.move rfl) ?_
    refine HdJ.tk hsel hlt 7 (fun w h => h.sublist (sc1 (.refl _))) rfl (Ev.sub rfl rfl) ?_
    refine HdJ.tk hsel hlt 10 (fun w h => h.sublist (sc1 (.refl _))) rfl (Ev.move rfl) ?_
    refine HdJ.tk hsel hlt 11 (fun w h => h.sublist (sc1 (.refl _))) rfl (Ev.move rfl) ?_
    refine HdJ.step [8, 12] (by kernel_rfl) rfl ?_
    refine HdStep.c (fun inv => ?_) ?_
    ·have g98 := lat_some h84
     refine Lst.r (Ev.indexS (α := Str) (xs := l68) rfl rfl Try.runUnderlying50 Try.sizeOf9 rfl (by decide) (Rd.own (i := 0) rfl rfl rfl) g98.1 g98.2.1) ?_
     refine Lst.nil ?_
     refine At.hd inv (fun w h => (h.weaken (FLe.refl _)).sublist (sc1 (.refl _))) ?_
     refine HdJ.step [9, 12] (by kernel_rfl) rfl ?_
     refine HdStep.c (fun inv => ?_) ?_
     ·refine Lst.r (Ev.loadS (α := Str) rfl (Rd.own (i := 0) rfl rfl rfl) Try.isAgg9 (v := Str.v x83) ((Get.elemN (s := 1) (x := x83) rfl g98.2.2 (Get.here _)).off (by omega))) ?_
      refine Lst.nil ?_
      refine At.hd inv (fun w h => (h.weaken (FLe.refl _)).sublist (sc1 (.refl _))) ?_
      refine HdJ.step [12] (by kernel_rfl) rfl ?_
      refine HdStep.c (fun inv => ?_) ?_
      ·have g99 := lat_some h87
       refine Lst.r (Ev.indexS (α := Str) (xs := l68) rfl rfl Try.runUnderlying50 Try.sizeOf9 rfl (by decide) (Rd.own (i := 0) rfl rfl rfl) g99.1 g99.2.1) ?_
       refine Lst.nil ?_
       refine At.hd inv (fun w h => (h.weaken (FLe.refl _)).sublist (sc1 (.refl _))) ?_
       refine HdJ.step [13] (by kernel_rfl) rfl ?_
       refine HdStep.c (fun inv => ?_) ?_
       ·refine Lst.r (Ev.loadS (α := Str) rfl (Rd.own (i := 0) rfl rfl rfl) Try.isAgg9 (v := Str.v x86) ((Get.elemN (s := 1) (x := x86) rfl g99.2.2 (Get.here _)).off (by omega))) ?_
        refine Lst.nil ?_
        refine At.hd inv (fun w h => (h.weaken (FLe.refl _)).sublist (sc1 (.refl _))) ?_
        refine HdJ.step [14] (by kernel_rfl) rfl ?_
        refine HdStep.c (fun inv => ?_) ?_
        ·have g100 := lat_some h90
         refine Lst.r (Ev.indexS (α := Str) (xs := l68) rfl rfl Try.runUnderlying50 Try.sizeOf9 rfl (by decide) (Rd.own (i := 0) rfl rfl rfl) g100.1 g100.2.1) ?_
         refine Lst.nil ?_
         refine At.hd inv (fun w h => (h.weaken (FLe.refl _)).sublist (sc1 (.refl _))) ?_
         refine HdJ.step [15] (by kernel_rfl) rfl ?_
         refine HdStep.c (fun inv => ?_) ?_
         ·refine Lst.storeS (i := 0) rfl rfl rfl rfl rfl Try.sizeOf9 (vs := [Str.v x83]) rfl rfl (by decide) rfl (xs' := encs p92) (by rw [← h93]; exact (Put.elemN (s := 1) (x := x89) rfl g100.2.2 (Put.here (vs := [Str.v x83]) rfl)).off (by omega)) (L' := (.own s_a0 9 1 (encs p92)) :: L) rfl ?_
          refine Lst.nil ?_
          refine At.hd inv (fun w h => (h.weaken (FLe.refl _)).sublist (sc1 (.refl _))) ?_
          refine HdJ.done (by kernel_rfl) ?_
          exact At.meetN p92 (FLe.refl _) ⟨rfl, rfl, rfl, rfl, rfl, rfl, rfl, rfl, rfl, trivial⟩ rfl h97
         exact trivial
        exact trivial
       exact trivial
      exact trivial
     refine HdStep.c (fun inv => ?_) ?_
     ·have g101 := lat_some h87
      refine Lst.r (Ev.indexS (α := Str) (xs := l68) rfl rfl Try.runUnderlying50 Try.sizeOf9 rfl (by decide) (Rd.own (i := 0) rfl rfl rfl) g101.1 g101.2.1) ?_
      refine Lst.nil ?_
      refine At.hd inv (fun w h => (h.weaken (FLe.refl _)).sublist (sc1 (.refl _))) ?_
      refine HdJ.step [9, 13] (by kernel_rfl) rfl ?_
      refine HdStep.c (fun inv => ?_) ?_
      ·refine Lst.r (Ev.loadS (α := Str) rfl (Rd.own (i := 0) rfl rfl rfl) Try.isAgg9 (v := Str.v x83) ((Get.elemN (s := 1) (x := x83) rfl g98.2.2 (Get.here _)).off (by omega))) ?_
       refine Lst.nil ?_
       refine At.hd inv (fun w h => (h.weaken (FLe.refl _)).sublist (sc1 (.refl _))) ?_
       refine HdJ.step [13] (by kernel_rfl) rfl ?_
       refine HdStep.c (fun inv => ?_) ?_
       ·refine Lst.r (Ev.loadS (α := Str) rfl (Rd.own (i := 0) rfl rfl rfl) Try.isAgg9 (v := Str.v x86) ((Get.elemN (s := 1) (x := x86) rfl g101.2.2 (Get.here _)).off (by omega))) ?_
        refine Lst.nil ?_
        refine At.hd inv (fun w h => (h.weaken (FLe.refl _)).sublist (sc1 (.refl _))) ?_
        refine HdJ.step [14] (by kernel_rfl) rfl ?_
        refine HdStep.c (fun inv => ?_) ?_
        ·have g102 := lat_some h90
         refine Lst.r (Ev.indexS (α := Str) (xs := l68) rfl rfl Try.runUnderlying50 Try.sizeOf9 rfl (by decide) (Rd.own (i := 0) rfl rfl rfl) g102.1 g102.2.1) ?_
         refine Lst.nil ?_
         refine At.hd inv (fun w h => (h.weaken (FLe.refl _)).sublist (sc1 (.refl _))) ?_
         refine HdJ.step [15] (by kernel_rfl) rfl ?_
         refine HdStep.c (fun inv => ?_) ?_
         ·refine Lst.storeS (i := 0) rfl rfl rfl rfl rfl Try.sizeOf9 (vs := [Str.v x83]) rfl rfl (by decide) rfl (xs' := encs p92) (by rw [← h93]; exact (Put.elemN (s := 1) (x := x89) rfl g102.2.2 (Put.here (vs := [Str.v x83]) rfl)).off (by omega)) (L' := (.own s_a0 9 1 (encs p92)) :: L) rfl ?_
          refine Lst.nil ?_
          refine At.hd inv (fun w h => (h.weaken (FLe.refl _)).sublist (sc1 (.refl _))) ?_
          refine HdJ.done (by kernel_rfl) ?_
          exact At.meetN p92 (FLe.refl _) ⟨rfl, rfl, rfl, rfl, rfl, rfl, rfl, rfl, rfl, trivial⟩ rfl h97
         exact trivial
        exact trivial
       exact trivial
      refine HdStep.c (fun inv => ?_) ?_
      ·refine Lst.r (Ev.loadS (α := Str) rfl (Rd.own (i := 0) rfl rfl rfl) Try.isAgg9 (v := Str.v x86) ((Get.elemN (s := 1) (x := x86) rfl g101.2.2 (Get.here _)).off (by omega))) ?_
       refine Lst.nil ?_
       refine At.hd inv (fun w h => (h.weaken (FLe.refl _)).sublist (sc1 (.refl _))) ?_
       refine HdJ.step [9] (by kernel_rfl) rfl ?_
       refine HdStep.c (fun inv => ?_) ?_
       ·refine Lst.r (Ev.loadS (α := Str) rfl (Rd.own (i := 0) rfl rfl rfl) Try.isAgg9 (v := Str.v x83) ((Get.elemN (s := 1) (x := x83) rfl g98.2.2 (Get.here _)).off (by omega))) ?_
        refine Lst.nil ?_
        refine At.hd inv (fun w h => (h.weaken (FLe.refl _)).sublist (sc1 (.refl _))) ?_
        refine HdJ.step [14] (by kernel_rfl) rfl ?_
        refine HdStep.c (fun inv => ?_) ?_
        ·have g103 := lat_some h90
         refine Lst.r (Ev.indexS (α := Str) (xs := l68) rfl rfl Try.runUnderlying50 Try.sizeOf9 rfl (by decide) (Rd.own (i := 0) rfl rfl rfl) g103.1 g103.2.1) ?_
         refine Lst.nil ?_
         refine At.hd inv (fun w h => (h.weaken (FLe.refl _)).sublist (sc1 (.refl _))) ?_
         refine HdJ.step [15] (by kernel_rfl) rfl ?_
         refine HdStep.c (fun inv => ?_) ?_
         ·refine Lst.storeS (i := 0) rfl rfl rfl rfl rfl Try.sizeOf9 (vs := [Str.v x83]) rfl rfl (by decide) rfl (xs' := encs p92) (by rw [← h93]; exact (Put.elemN (s := 1) (x := x89) rfl g103.2.2 (Put.here (vs := [Str.v x83]) rfl)).off (by omega)) (L' := (.own s_a0 9 1 (encs p92)) :: L) rfl ?_
          refine Lst.nil ?_
          refine At.hd inv (fun w h => (h.weaken (FLe.refl _)).sublist (sc1 (.refl _))) ?_
          refine HdJ.done (by kernel_rfl) ?_
          exact At.meetN p92 (FLe.refl _) ⟨rfl, rfl, rfl, rfl, rfl, rfl, rfl, rfl, rfl, trivial⟩ rfl h97
         exact trivial
        exact trivial
       exact trivial
      exact trivial
     exact trivial
    refine HdStep.c (fun inv => ?_) ?_
    ·have g104 := lat_some h87
     refine Lst.r (Ev.indexS (α := Str) (xs := l68) rfl rfl Try.runUnderlying50 Try.sizeOf9 rfl (by decide) (Rd.own (i := 0) rfl rfl rfl) g104.1 g104.2.1) ?_
     refine Lst.nil ?_
     refine At.hd inv (fun w h => (h.weaken (FLe.refl _)).sublist (sc1 (.refl _))) ?_
     refine HdJ.step [8, 13] (by kernel_rfl) rfl ?_
     refine HdStep.c (fun inv => ?_) ?_
     ·have g105 := lat_some h84
      refine Lst.r (Ev.indexS (α := Str) (xs := l68) rfl rfl Try.runUnderlying50 Try.sizeOf9 rfl (by decide) (Rd.own (i := 0) rfl rfl rfl) g105.1 g105.2.1) ?_
      refine Lst.nil ?_
      refine At.hd inv (fun w h => (h.weaken (FLe.refl _)).sublist (sc1 (.refl _))) ?_
      refine HdJ.step [9, 13] (by kernel_rfl) rfl ?_
      refine HdStep.c (fun inv => ?_) ?_
      ·refine Lst.r (Ev.loadS (α := Str) rfl (Rd.own (i := 0) rfl rfl rfl) Try.isAgg9 (v := Str.v x83) ((Get.elemN (s := 1) (x := x83) rfl g105.2.2 (Get.here _)).off (by omega))) ?_
       refine Lst.nil ?_
       refine At.hd inv (fun w h => (h.weaken (FLe.refl _)).sublist (sc1 (.refl _))) ?_
       refine HdJ.step [13] (by kernel_rfl) rfl ?_
       refine HdStep.c (fun inv => ?_) ?_
       ·refine Lst.r (Ev.loadS (α := Str) rfl (Rd.own (i := 0) rfl rfl rfl) Try.isAgg9 (v := Str.v x86) ((Get.elemN (s := 1) (x := x86) rfl g104.2.2 (Get.here _)).off (by omega))) ?_
        refine Lst.nil ?_
        refine At.hd inv (fun w h => (h.weaken (FLe.refl _)).sublist (sc1 (.refl _))) ?_
        refine HdJ.step [14] (by kernel_rfl) rfl ?_
        refine HdStep.c (fun inv => ?_) ?_
        ·have g106 := lat_some h90
         refine Lst.r (Ev.indexS (α := Str) (xs := l68) rfl rfl Try.runUnderlying50 Try.sizeOf9 rfl (by decide) (Rd.own (i := 0) rfl rfl rfl) g106.1 g106.2.1) ?_
         refine Lst.nil ?_
         refine At.hd inv (fun w h => (h.weaken (FLe.refl _)).sublist (sc1 (.refl _))) ?_
         refine HdJ.step [15] (by kernel_rfl) rfl ?_
         refine HdStep.c (fun inv => ?_) ?_
         ·refine Lst.storeS (i := 0) rfl rfl rfl rfl rfl Try.sizeOf9 (vs := [Str.v x83]) rfl rfl (by decide) rfl (xs' := encs p92) (by rw [← h93]; exact (Put.elemN (s := 1) (x := x89) rfl g106.2.2 (Put.here (vs := [Str.v x83]) rfl)).off (by omega)) (L' := (.own s_a0 9 1 (encs p92)) :: L) rfl ?_
          refine Lst.nil ?_
          refine At.hd inv (fun w h => (h.weaken (FLe.refl _)).sublist (sc1 (.refl _))) ?_
          refine HdJ.done (by kernel_rfl) ?_
          exact At.meetN p92 (FLe.refl _) ⟨rfl, rfl, rfl, rfl, rfl, rfl, rfl, rfl, rfl, trivial⟩ rfl h97
         exact trivial
        exact trivial
       exact trivial
      refine HdStep.c (fun inv => ?_) ?_
      ·refine Lst.r (Ev.loadS (α := Str) rfl (Rd.own (i := 0) rfl rfl rfl) Try.isAgg9 (v := Str.v x86) ((Get.elemN (s := 1) (x := x86) rfl g104.2.2 (Get.here _)).off (by omega))) ?_
       refine Lst.nil ?_
       refine At.hd inv (fun w h => (h.weaken (FLe.refl _)).sublist (sc1 (.refl _))) ?_
       refine HdJ.step [9] (by kernel_rfl) rfl ?_
       refine HdStep.c (fun inv => ?_) ?_
       ·refine Lst.r (Ev.loadS (α := Str) rfl (Rd.own (i := 0) rfl rfl rfl) Try.isAgg9 (v := Str.v x83) ((Get.elemN (s := 1) (x := x83) rfl g105.2.2 (Get.here _)).off (by omega))) ?_
        refine Lst.nil ?_
        refine At.hd inv (fun w h => (h.weaken (FLe.refl _)).sublist (sc1 (.refl _))) ?_
        refine HdJ.step [14] (by kernel_rfl) rfl ?_
        refine HdStep.c (fun inv => ?_) ?_
        ·have g107 := lat_some h90
         refine Lst.r (Ev.indexS (α := Str) (xs := l68) rfl rfl Try.runUnderlying50 Try.sizeOf9 rfl (by decide) (Rd.own (i := 0) rfl rfl rfl) g107.1 g107.2.1) ?_
         refine Lst.nil ?_
         refine At.hd inv (fun w h => (h.weaken (FLe.refl _)).sublist (sc1 (.refl _))) ?_
         refine HdJ.step [15] (by kernel_rfl) rfl ?_
         refine HdStep.c (fun inv => ?_) ?_
         ·refine Lst.storeS (i := 0) rfl rfl rfl rfl rfl Try.sizeOf9 (vs := [Str.v x83]) rfl rfl (by decide) rfl (xs' := encs p92) (by rw [← h93]; exact (Put.elemN (s := 1) (x := x89) rfl g107.2.2 (Put.here (vs := [Str.v x83]) rfl)).off (by omega)) (L' := (.own s_a0 9 1 (encs p92)) :: L) rfl ?_
          refine Lst.nil ?_
          refine At.hd inv (fun w h => (h.weaken (FLe.refl _)).sublist (sc1 (.refl _))) ?_
          refine HdJ.done (by kernel_rfl) ?_
          exact At.meetN p92 (FLe.refl _) ⟨rfl, rfl, rfl, rfl, rfl, rfl, rfl, rfl, rfl, trivial⟩ rfl h97
         exact trivial
        exact trivial
       exact trivial
      exact trivial
     refine HdStep.c (fun inv => ?_) ?_
     ·refine Lst.r (Ev.loadS (α := Str) rfl (Rd.own (i := 0) rfl rfl rfl) Try.isAgg9 (v := Str.v x86) ((Get.elemN (s := 1) (x := x86) rfl g104.2.2 (Get.here _)).off (by omega))) ?_
      refine Lst.nil ?_
      refine At.hd inv (fun w h => (h.weaken (FLe.refl _)).sublist (sc1 (.refl _))) ?_
      refine HdJ.step [8] (by kernel_rfl) rfl ?_
      refine HdStep.c (fun inv => ?_) ?_
      ·have g108 := lat_some h84
       refine Lst.r (Ev.indexS (α := Str) (xs := l68) rfl rfl Try.runUnderlying50 Try.sizeOf9 rfl (by decide) (Rd.own (i := 0) rfl rfl rfl) g108.1 g108.2.1) ?_
       refine Lst.nil ?_
       refine At.hd inv (fun w h => (h.weaken (FLe.refl _)).sublist (sc1 (.refl _))) ?_
       refine HdJ.step [9] (by kernel_rfl) rfl ?_
       refine HdStep.c (fun inv => ?_) ?_
       ·refine Lst.r (Ev.loadS (α := Str) rfl (Rd.own (i := 0) rfl rfl rfl) Try.isAgg9 (v := Str.v x83) ((Get.elemN (s := 1) (x := x83) rfl g108.2.2 (Get.here _)).off (by omega))) ?_
        refine Lst.nil ?_
        refine At.hd inv (fun w h => (h.weaken (FLe.refl _)).sublist (sc1 (.refl _))) ?_
        refine HdJ.step [14] (by kernel_rfl) rfl ?_
        refine HdStep.c (fun inv => ?_) ?_
        ·have g109 := lat_some h90
         refine Lst.r (Ev.indexS (α := Str) (xs := l68) rfl rfl Try.runUnderlying50 Try.sizeOf9 rfl (by decide) (Rd.own (i := 0) rfl rfl rfl) g109.1 g109.2.1) ?_
         refine Lst.nil ?_
         refine At.hd inv (fun w h => (h.weaken (FLe.refl _)).sublist (sc1 (.refl _))) ?_
         refine HdJ.step [15] (by kernel_rfl) rfl ?_
         refine HdStep.c (fun inv => ?_) ?_
         ·refine Lst.storeS (i := 0) rfl rfl rfl rfl rfl Try.sizeOf9 (vs := [Str.v x83]) rfl rfl (by decide) rfl (xs' := encs p92) (by rw [← h93]; exact (Put.elemN (s := 1) (x := x89) rfl g109.2.2 (Put.here (vs := [Str.v x83]) rfl)).off (by omega)) (L' := (.own s_a0 9 1 (encs p92)) :: L) rfl ?_
          refine Lst.nil ?_
          refine At.hd inv (fun w h => (h.weaken (FLe.refl _)).sublist (sc1 (.refl _))) ?_
          refine HdJ.done (by kernel_rfl) ?_
          exact At.meetN p92 (FLe.refl _) ⟨rfl, rfl, rfl, rfl, rfl, rfl, rfl, rfl, rfl, trivial⟩ rfl h97
         exact trivial
        exact trivial
       exact trivial
      exact trivial
     exact trivial
    exact trivial
   rintro F110 l95 hF111 hy
   subst hy
   refine Lst.as (e' := [(0, Sl.v s_a0), (1, iv a1), (2, iv a2), (7, iv y10), (8, iv y4), (9, iv y67), (81, Sl.v s_a0), (83, iv (w64 (y67 - (1 : Int)))), (92, Str.v x86)]) (L' := (.own s_a0 9 1 (encs l95)) :: L) ⟨rfl, rfl, rfl, rfl, rfl, rfl, rfl, rfl, rfl, trivial⟩ rfl ?_
   obtain ⟨x112, h113, H⟩ := bind_some H
   have g114 := lat_some h113
   refine Lst.r (Ev.indexS (α := Str) (xs := l95) rfl rfl Try.runUnderlying50 Try.sizeOf9 rfl (by decide) (Rd.own (i := 0) rfl rfl rfl) g114.1 g114.2.1) ?_
   obtain ⟨p115, h116, H⟩ := Let_some H
   refine Lst.storeS (i := 0) rfl rfl rfl rfl rfl Try.sizeOf9 (vs := [Str.v x86]) rfl rfl (by decide) rfl (xs' := encs p115) (by rw [← h116]; exact (Put.elemN (s := 1) (x := x112) rfl g114.2.2 (Put.here (vs := [Str.v x86]) rfl)).off (by omega)) (L' := (.own s_a0 9 1 (encs p115)) :: L) rfl ?_
   refine Lst.nil ?_
   refine At.in_normal ?_
   refine At.then ?_
   refine Cd.region ?_
   refine Lst.r (Ev.move rfl) ?_
   refine Lst.r (Ev.sub rfl rfl) ?_
   refine Lst.r (Ev.assign rfl) ?_
   refine Lst.nil ?_
   exact At.meet (k66, w64 (y67 - (1 : Int)), p115) (FLe.trans hF70 hF111) ⟨rfl, rfl, rfl, rfl, rfl, rfl, trivial⟩ rfl ⟨hgo66 _ (some_inj H).symm, Nat.lt_succ_self _⟩
  rintro F117 l63 hF118 hy
  subst hy
  refine Cd.as (e' := [(0, Sl.v s_a0), (1, iv a1), (2, iv a2), (7, iv y10), (8, iv y4)]) (L' := (.own s_a0 9 1 (encs l63)) :: L) ⟨rfl, rfl, rfl, rfl, rfl, trivial⟩ rfl ?_
  replace H := HKo64
  refine Cd.seq ?_
  refine Cd.region ?_
  refine Lst.r (Ev.move rfl) ?_
  refine Lst.r (Ev.move rfl) ?_
  refine Lst.r (Ev.sub rfl rfl) ?_
  refine Lst.r (Ev.geq rfl rfl) ?_
  refine Lst.nil ?_
  refine At.then ?_
  rcases (Bool.eq_false_or_eq_true (decide ((w64 (a2 - y10)) ≥ (2 : Int)))).symm with hb119 | hb119
  ·replace H := ite_f hb119 H
   refine Cd.condF rfl hb119 ?_
   refine Cd.skip ?_
   refine At.in_normal ?_
   refine At.then ?_
   refine Cd.region ?_
   refine Lst.r (Ev.move rfl) ?_
   refine Lst.r (Ev.add rfl rfl) ?_
   refine Lst.r (Ev.assign rfl) ?_
   refine Lst.nil ?_
   exact At.meet (k2, y10, w64 (y4 + (1 : Int)), l63) (FLe.trans (FLe.trans (FLe.trans hF7 hF12) hF57) hF118) ⟨rfl, rfl, rfl, rfl, rfl, trivial⟩ rfl ⟨hgo2 _ (some_inj H).symm, Nat.lt_succ_self _⟩
  replace H := ite_t hb119 H
  refine Cd.condT rfl hb119 ?_
  refine Cd.seq ?_
  refine Cd.region ?_
  refine Lst.r (Ev.move rfl) ?_
  refine Lst.r (Ev.add rfl rfl) ?_
  refine Lst.r (Ev.assign rfl) ?_
  refine Lst.nil ?_
  refine At.then ?_
  refine Cd.block ?_
  obtain ⟨ol120, H, HKl120⟩ := andThen_some H
  refine Cd.loop (σ := Nat × Int × (List Str)) (fun (k120, y121, l122) => [(0, Sl.v s_a0), (1, iv a1), (2, iv a2), (7, iv y10), (8, iv y4), (10, iv y121)]) (fun (k120, y121, l122) => (.own s_a0 9 1 (encs l122)) :: L) (fun _ => (fun (k120, y121, l122) => whileM (slices_partialInsertionSortOrdered_string_B6 a2) k120 (y121, l122) = some ol120)) (fun (k120, y121, l122) => k120) (fu, w64 (y10 + (1 : Int)), l63) ⟨rfl, rfl, rfl, rfl, rfl, rfl, trivial⟩ rfl H ?_
  rintro F123 ⟨k120, y121, l122⟩ hF124 H
  refine Cd.as (e' := [(0, Sl.v s_a0), (1, iv a1), (2, iv a2), (7, iv y10), (8, iv y4), (10, iv y121)]) (L' := (.own s_a0 9 1 (encs l122)) :: L) ⟨rfl, rfl, rfl, rfl, rfl, rfl, trivial⟩ rfl ?_
  rcases k120 with _ | k120
  ·cases H
  obtain ⟨c120, H, hgo120, hbrk120, hret120⟩ := whileM_go H
  unfold slices_partialInsertionSortOrdered_string_B6 at H
  try dsimp only at H
  refine Cd.seq ?_
  refine Cd.seq ?_
  refine Cd.region ?_
  refine Lst.r (Ev.move rfl) ?_
  refine Lst.r (Ev.move rfl) ?_
  refine Lst.r (Ev.lss rfl rfl) ?_
  refine Lst.nil ?_
  refine At.then ?_
  rcases (Bool.eq_false_or_eq_true (decide (y121 < a2))).symm with hb125 | hb125
  ·replace H := ite_f hb125 H
   refine Cd.condF rfl hb125 ?_
   refine Cd.exit ?_
   refine At.then_exit ?_
   refine At.then_exit ?_
   refine At.in_exit ?_
   have H := hbrk120 _ (some_inj H).symm
   subst H
   replace H := HKl120
   refine At.in_normal ?_
   refine At.then ?_
   refine Cd.region ?_
   refine Lst.r (Ev.move rfl) ?_
   refine Lst.r (Ev.add rfl rfl) ?_
   refine Lst.r (Ev.assign rfl) ?_
   refine Lst.nil ?_
   exact At.meet (k2, y10, w64 (y4 + (1 : Int)), l122) (FLe.trans (FLe.trans (FLe.trans (FLe.trans hF7 hF12) hF57) hF118) hF124) ⟨rfl, rfl, rfl, rfl, rfl, trivial⟩ rfl ⟨hgo2 _ (some_inj H).symm, Nat.lt_succ_self _⟩
  replace H := ite_t hb125 H
  refine Cd.condT rfl hb125 ?_
  refine Cd.skip ?_
  refine At.then ?_
  refine Cd.seq ?_
  refine Cd.block ?_
  refine Cd.seq ?_
  refine Cd.seq ?_
  refine Cd.quiet (by kernel_rfl) (by kernel_rfl) ?_
  refine Qt.r (Ev.move rfl) ?_
  refine Qt.r (Ev.move rfl) ?_
  obtain ⟨x126, h127, H⟩ := bind_some H
  have g128 := lat_some h127
  refine Qt.r (Ev.indexS (α := Str) (xs := l122) rfl rfl Try.runUnderlying50 Try.sizeOf9 rfl (by decide) (Rd.own (i := 0) rfl rfl rfl) g128.1 g128.2.1) ?_
  refine Qt.r (Ev.loadS (α := Str) rfl (Rd.own (i := 0) rfl rfl rfl) Try.isAgg9 (v := Str.v x126) ((Get.elemN (s := 1) (x := x126) rfl g128.2.2 (Get.here _)).off (by omega))) ?_
  refine Qt.r (Ev.move rfl) ?_
  refine Qt.r (Ev.move rfl) ?_
  refine Qt.r (Ev.sub rfl rfl) ?_
  obtain ⟨x129, h130, H⟩ := bind_some H
  have g131 := lat_some h130
  refine Qt.r (Ev.indexS (α := Str) (xs := l122) rfl rfl Try.runUnderlying50 Try.sizeOf9 rfl (by decide) (Rd.own (i := 0) rfl rfl rfl) g131.1 g131.2.1) ?_
  refine Qt.r (Ev.loadS (α := Str) rfl (Rd.own (i := 0) rfl rfl rfl) Try.isAgg9 (v := Str.v x129) ((Get.elemN (s := 1) (x := x129) rfl g131.2.2 (Get.here _)).off (by omega))) ?_
  obtain ⟨r132, h133, H⟩ := bind_some H
  refine Qt.call rfl rfl (by decide) (vs := [Str.v x126, Str.v x129]) ⟨rfl, rfl, trivial⟩ Try.call121 (cmp_Less_string_sim h133 w0 _ M _ (sc1 hM)) ?_
  refine Qt.r (Ev.not rfl) ?_
  refine Qt.done ?_
  refine At.then ?_
  rcases Bool.eq_false_or_eq_true (!r132) with hb136 | hb136
  ·replace H := ite_t hb136 H
   refine Cd.condT rfl hb136 ?_
   refine Cd.exit ?_
   refine At.then_exit ?_
   refine At.in_other rfl ?_
   refine At.then_exit ?_
   refine At.then_exit ?_
   refine At.in_exit ?_
   have H := hbrk120 _ (some_inj H).symm
   subst H
   replace H := HKl120
   refine At.in_normal ?_
   refine At.then ?_
   refine Cd.as (e' := [(0, Sl.v s_a0), (1, iv a1), (2, iv a2), (7, iv y10), (8, iv y4)]) (L' := (.own s_a0 9 1 (encs l122)) :: L) ⟨rfl, rfl, rfl, rfl, rfl, trivial⟩ rfl ?_
   refine Cd.region ?_
   refine Lst.r (Ev.move rfl) ?_
   refine Lst.r (Ev.add rfl rfl) ?_
   refine Lst.r (Ev.assign rfl) ?_
   refine Lst.nil ?_
   exact At.meet (k2, y10, w64 (y4 + (1 : Int)), l122) (FLe.trans (FLe.trans (FLe.trans (FLe.trans hF7 hF12) hF57) hF118) hF124) ⟨rfl, rfl, rfl, rfl, rfl, trivial⟩ rfl ⟨hgo2 _ (some_inj H).symm, Nat.lt_succ_self _⟩
  replace H := ite_f hb136 H
  refine Cd.condF rfl hb136 ?_
  refine Cd.skip ?_
  refine At.then ?_
  obtain ⟨x137, h138, H⟩ := bind_some H
  obtain ⟨x140, h141, H⟩ := bind_some H
  obtain ⟨x143, h144, H⟩ := bind_some H
  obtain ⟨p146, h147, H⟩ := Let_some H
  obtain ⟨o150, h151, H⟩ := Let_some H
  refine Cd.headMeet (σ := (List Str)) 16 (fun l149 => [(0, Sl.v s_a0), (1, iv a1), (2, iv a2), (7, iv y10), (8, iv y4), (10, iv y121), (119, Sl.v s_a0), (121, iv (w64 (y121 - (1 : Int)))), (130, Str.v x140)]) (fun l149 => (.own s_a0 9 1 (encs l149)) :: L) (fun _ l149 => l149 = o150) (by kernel_rfl) (by kernel_rfl) (behind_sink (by kernel_rfl) (by kernel_rfl) (by kernel_rfl)) (by kernel_rfl) (fun hsel hlt => ?_) ?_
  ·refine HdJ.keep (fun w => St w0 F123 (L) w) (fun w h => trivial) ?_
   refine HdJ.tk hsel hlt 0 (fun w h => h.sublist (sc1 (.refl _))) rfl (Ev.move rfl) ?_
   refine HdJ.tk hsel hlt 1 (fun w h => h.sublist (sc1 (.refl _))) rfl (Ev.move rfl) ?_
   refine HdJ.tk hsel hlt 2 (fun w h => h.sublist (sc1 (.refl _))) rfl (Ev.move rfl) ?_
   refine HdJ.tk hsel hlt 3 (fun w h => h.sublist (sc1 (.refl _))) rfl (Ev.move rfl) ?_
   refine HdJ.tk hsel hlt 4 (fun w h => h.sublist (sc1 (.refl _))) rfl (Ev.sub rfl rfl) ?_
   refine HdJ.tk hsel hlt 5 (fun w h => h.sublist (sc1 (.refl _))) rfl (Ev.move rfl) ?_
   refine HdJ.tk hsel hlt 6 (fun w h => h.sublist (sc1 (.refl _))) rfl (Ev.move rfl) ?_
   refine HdJ.tk hsel hlt 7 (fun w h => h.sublist (sc1 (.refl _))) rfl (Ev.sub rfl rfl) ?_
   refine HdJ.tk hsel hlt 10 (fun w h => h.sublist (sc1 (.refl _))) rfl (Ev.move rfl) ?_
   refine HdJ.tk hsel hlt 11 (fun w h => h.sublist (sc1 (.refl _))) rfl (Ev.move rfl) ?_
   refine HdJ.step [8, 12] (by kernel_rfl) rfl ?_
   refine HdStep.c (fun inv => ?_) ?_
   ·have g152 := lat_some h138
    refine Lst.r (Ev.indexS (α := Str) (xs := l122) rfl rfl Try.runUnderlying50 Try.sizeOf9 rfl (by decide) (Rd.own (i := 0) rfl rfl rfl) g152.1 g152.2.1) ?_
    refine Lst.nil ?_
    refine At.hd inv (fun w h => (h.weaken (FLe.refl _)).sublist (sc1 (.refl _))) ?_
    refine HdJ.step [9, 12] (by kernel_rfl) rfl ?_
    refine HdStep.c (fun inv => ?_) ?_
    ·refine Lst.r (Ev.loadS (α := Str) rfl (Rd.own (i := 0) rfl rfl rfl) Try.isAgg9 (v := Str.v x137) ((Get.elemN (s := 1) (x := x137) rfl g152.2.2 (Get.here _)).off (by omega))) ?_
     refine Lst.nil ?_
     refine At.hd inv (fun w h => (h.weaken (FLe.refl _)).sublist (sc1 (.refl _))) ?_
     refine HdJ.step [12] (by kernel_rfl) rfl ?_
     refine HdStep.c (fun inv => ?_) ?_
     ·have g153 := lat_some h141
      refine Lst.r (Ev.indexS (α := Str) (xs := l122) rfl rfl Try.runUnderlying50 Try.sizeOf9 rfl (by decide) (Rd.own (i := 0) rfl rfl rfl) g153.1 g153.2.1) ?_
      refine Lst.nil ?_
      refine At.hd inv (fun w h => (h.weaken (FLe.refl _)).sublist (sc1 (.refl _))) ?_
      refine HdJ.step [13] (by kernel_rfl) rfl ?_
      refine HdStep.c (fun inv => ?_) ?_
      ·refine Lst.r (Ev.loadS (α := Str) rfl (Rd.own (i := 0) rfl rfl rfl) Try.isAgg9 (v := Str.v x140) ((Get.elemN (s := 1) (x := x140) rfl g153.2.2 (Get.here _)).off (by omega))) ?_
       refine Lst.nil ?_
       refine At.hd inv (fun w h => (h.weaken (FLe.refl _)).sublist (sc1 (.refl _))) ?_
       refine HdJ.step [14] (by kernel_rfl) rfl ?_
       refine HdStep.c (fun inv => ?_) ?_
       ·have g154 := lat_some h144
        refine Lst.r (Ev.indexS (α := Str) (xs := l122) rfl rfl Try.runUnderlying50 Try.sizeOf9 rfl (by decide) (Rd.own (i := 0) rfl rfl rfl) g154.1 g154.2.1) ?_
        refine Lst.nil ?_
        refine At.hd inv (fun w h => (h.weaken (FLe.refl _)).sublist (sc1 (.refl _))) ?_
        refine HdJ.step [15] (by kernel_rfl) rfl ?_
        refine HdStep.c (fun inv => ?_) ?_
        ·refine Lst.storeS (i := 0) rfl rfl rfl rfl rfl Try.sizeOf9 (vs := [Str.v x137]) rfl rfl (by decide) rfl (xs' := encs p146) (by rw [← h147]; exact (Put.elemN (s := 1) (x := x143) rfl g154.2.2 (Put.here (vs := [Str.v x137]) rfl)).off (by omega)) (L' := (.own s_a0 9 1 (encs p146)) :: L) rfl ?_
         refine Lst.nil ?_
         refine At.hd inv (fun w h => (h.weaken (FLe.refl _)).sublist (sc1 (.refl _))) ?_
         refine HdJ.done (by kernel_rfl) ?_
         exact At.meetN p146 (FLe.refl _) ⟨rfl, rfl, rfl, rfl, rfl, rfl, rfl, rfl, rfl, trivial⟩ rfl h151
        exact trivial
       exact trivial
      exact trivial
     exact trivial
    refine HdStep.c (fun inv => ?_) ?_
    ·have g155 := lat_some h141
     refine Lst.r (Ev.indexS (α := Str) (xs := l122) rfl rfl Try.runUnderlying50 Try.sizeOf9 rfl (by decide) (Rd.own (i := 0) rfl rfl rfl) g155.1 g155.2.1) ?_
     refine Lst.nil ?_
     refine At.hd inv (fun w h => (h.weaken (FLe.refl _)).sublist (sc1 (.refl _))) ?_
     refine HdJ.step [9, 13] (by kernel_rfl) rfl ?_
     refine HdStep.c (fun inv => ?_) ?_
     ·refine Lst.r (Ev.loadS (α := Str) rfl (Rd.own (i := 0) rfl rfl rfl) Try.isAgg9 (v := Str.v x137) ((Get.elemN (s := 1) (x := x137) rfl g152.2.2 (Get.here _)).off (by omega))) ?_
      refine Lst.nil ?_
      refine At.hd inv (fun w h => (h.weaken (FLe.refl _)).sublist (sc1 (.refl _))) ?_
      refine HdJ.step [13] (by kernel_rfl) rfl ?_
      refine HdStep.c (fun inv => ?_) ?_
      ·refine Lst.r (Ev.loadS (α := Str) rfl (Rd.own (i := 0) rfl rfl rfl) Try.isAgg9 (v := Str.v x140) ((Get.elemN (s := 1) (x := x140) rfl g155.2.2 (Get.here _)).off (by omega))) ?_
       refine Lst.nil ?_
       refine At.hd inv (fun w h => (h.weaken (FLe.refl _)).sublist (sc1 (.refl _))) ?_
       refine HdJ.step [14] (by kernel_rfl) rfl ?_
       refine HdStep.c (fun inv => ?_) ?_
       ·have g156 := lat_some h144
        refine Lst.r (Ev.indexS (α := Str) (xs := l122) rfl rfl Try.runUnderlying50 Try.sizeOf9 rfl (by decide) (Rd.own (i := 0) rfl rfl rfl) g156.1 g156.2.1) ?_
        refine Lst.nil ?_
        refine At.hd inv (fun w h => (h.weaken (FLe.refl _)).sublist (sc1 (.refl _))) ?_
        refine HdJ.step [15] (by kernel_rfl) rfl ?_
        refine HdStep.c (fun inv => ?_) ?_
        ·refine Lst.storeS (i := 0) rfl rfl rfl rfl rfl Try.sizeOf9 (vs := [Str.v x137]) rfl rfl (by decide) rfl (xs' := encs p146) (by rw [← h147]; exact (Put.elemN (s := 1) (x := x143) rfl g156.2.2 (Put.here (vs := [Str.v x137]) rfl)).off (by omega)) (L' := (.own s_a0 9 1 (encs p146)) :: L) rfl ?_
         refine Lst.nil ?_
         refine At.hd inv (fun w h => (h.weaken (FLe.refl _)).sublist (sc1 (.refl _))) ?_
         refine HdJ.done (by kernel_rfl) ?_
         exact At.meetN p146 (FLe.refl _) ⟨rfl, rfl, rfl, rfl, rfl, rfl, rfl, rfl, rfl, trivial⟩ rfl h151
        exact trivial
       exact trivial
      exact trivial
     refine HdStep.c (fun inv => ?_) ?_
     ·refine Lst.r (Ev.loadS (α := Str) rfl (Rd.own (i := 0) rfl rfl rfl) Try.isAgg9 (v := Str.v x140) ((Get.elemN (s := 1) (x := x140) rfl g155.2.2 (Get.here _)).off (by omega))) ?_
      refine Lst.nil ?_
      refine At.hd inv (fun w h => (h.weaken (FLe.refl _)).sublist (sc1 (.refl _))) ?_
      refine HdJ.step [9] (by kernel_rfl) rfl ?_
      refine HdStep.c (fun inv => ?_) ?_
      ·refine Lst.r (Ev.loadS (α := Str) rfl (Rd.own (i := 0) rfl rfl rfl) Try.isAgg9 (v := Str.v x137) ((Get.elemN (s := 1) (x := x137) rfl g152.2.2 (Get.here _)).off (by omega))) ?_
       refine Lst.nil ?_
       refine At.hd inv (fun w h => (h.weaken (FLe.refl _)).sublist (sc1 (.refl _))) ?_
       refine HdJ.step [14] (by kernel_rfl) rfl ?_
       refine HdStep.c (fun inv => ?_) ?_
       ·have g157 := lat_some h144
        refine Lst.r (Ev.indexS (α := Str) (xs := l122) rfl rfl Try.runUnderlying50 Try.sizeOf9 rfl (by decide) (Rd.own (i := 0) rfl rfl rfl) g157.1 g157.2.1) ?_
        refine Lst.nil ?_
        refine At.hd inv (fun w h => (h.weaken (FLe.refl _)).sublist (sc1 (.refl _))) ?_
        refine HdJ.step [15] (by kernel_rfl) rfl ?_
        refine HdStep.c (fun inv => ?_) ?_
        ·refine Lst.storeS (i := 0) rfl rfl rfl rfl rfl Try.sizeOf9 (vs := [Str.v x137]) rfl rfl (by decide) rfl (xs' := encs p146) (by rw [← h147]; exact (Put.elemN (s := 1) (x := x143) rfl g157.2.2 (Put.here (vs := [Str.v x137]) rfl)).off (by omega)) (L' := (.own s_a0 9 1 (encs p146)) :: L) rfl ?_
         refine Lst.nil ?_
         refine At.hd inv (fun w h => (h.weaken (FLe.refl _)).sublist (sc1 (.refl _))) ?_
         refine HdJ.done (by kernel_rfl) ?_
         exact At.meetN p146 (FLe.refl _) ⟨rfl, rfl, rfl, rfl, rfl, rfl, rfl, rfl, rfl, trivial⟩ rfl h151
        exact trivial
       exact trivial
      exact trivial
     exact trivial
    exact trivial
   refine HdStep.c (fun inv => ?_) ?_
   ·have g158 := lat_some h141
    refine Lst.r (Ev.indexS (α := Str) (xs := l122) rfl rfl Try.runUnderlying50 Try.sizeOf9 rfl (by decide) (Rd.own (i := 0) rfl rfl rfl) g158.1 g158.2.1) ?_
    refine Lst.nil ?_
    refine At.hd inv (fun w h => (h.weaken (FLe.refl _)).sublist (sc1 (.refl _))) ?_
    refine HdJ.step [8, 13] (by kernel_rfl) rfl ?_
    refine HdStep.c (fun inv => ?_) ?_
    ·have g159 := lat_some h138
     refine Lst.r (Ev.indexS (α := Str) (xs := l122) rfl rfl Try.runUnderlying50 Try.sizeOf9 rfl (by decide) (Rd.own (i := 0) rfl rfl rfl) g159.1 g159.2.1) ?_
     refine Lst.nil ?_
     refine At.hd inv (fun w h => (h.weaken (FLe.refl _)).sublist (sc1 (.refl _))) ?_
     refine HdJ.step [9, 13] (by kernel_rfl) rfl ?_
     refine HdStep.c (fun inv => ?_) ?_
     ·refine Lst.r (Ev.loadS (α := Str) rfl (Rd.own (i := 0) rfl rfl rfl) Try.isAgg9 (v := Str.v x137) ((Get.elemN (s := 1) (x := x137) rfl g159.2.2 (Get.here _)).off (by omega))) ?_
      refine Lst.nil ?_
      refine At.hd inv (fun w h => (h.weaken (FLe.refl _)).sublist (sc1 (.refl _))) ?_
      refine HdJ.step [13] (by kernel_rfl) rfl ?_
      refine HdStep.c (fun inv => ?_) ?_
      ·refine Lst.r (Ev.loadS (α := Str) rfl (Rd.own (i := 0) rfl rfl rfl) Try.isAgg9 (v := Str.v x140) ((Get.elemN (s := 1) (x := x140) rfl g158.2.2 (Get.here _)).off (by omega))) ?_
       refine Lst.nil ?_
       refine At.hd inv (fun w h => (h.weaken (FLe.refl _)).sublist (sc1 (.refl _))) ?_
       refine HdJ.step [14] (by kernel_rfl) rfl ?_
       refine HdStep.c (fun inv => ?_) ?_
       ·have g160 := lat_some h144
        refine Lst.r (Ev.indexS (α := Str) (xs := l122) rfl rfl Try.runUnderlying50 Try.sizeOf9 rfl (by decide) (Rd.own (i := 0) rfl rfl rfl) g160.1 g160.2.1) ?_
        refine Lst.nil ?_
        refine At.hd inv (fun w h => (h.weaken (FLe.refl _)).sublist (sc1 (.refl _))) ?_
        refine HdJ.step [15] (by kernel_rfl) rfl ?_
        refine HdStep.c (fun inv => ?_) ?_
        ·refine Lst.storeS (i := 0) rfl rfl rfl rfl rfl Try.sizeOf9 (vs := [Str.v x137]) rfl rfl (by decide) rfl (xs' := encs p146) (by rw [← h147]; exact (Put.elemN (s := 1) (x := x143) rfl g160.2.2 (Put.here (vs := [Str.v x137]) rfl)).off (by omega)) (L' := (.own s_a0 9 1 (encs p146)) :: L) rfl ?_
         refine Lst.nil ?_
         refine At.hd inv (fun w h => (h.weaken (FLe.refl _)).sublist (sc1 (.refl _))) ?_
         refine HdJ.done (by kernel_rfl) ?_
         exact At.meetN p146 (FLe.refl _) ⟨rfl, rfl, rfl, rfl, rfl, rfl, rfl, rfl, rfl, trivial⟩ rfl h151
        exact trivial
       exact trivial
      exact trivial
     refine HdStep.c (fun inv => ?_) ?_
     ·refine Lst.r (Ev.loadS (α := Str) rfl (Rd.own (i := 0) rfl rfl rfl) Try.isAgg9 (v := Str.v x140) ((Get.elemN (s := 1) (x := x140) rfl g158.2.2 (Get.here _)).off (by omega))) ?_
      refine Lst.nil ?_
      refine At.hd inv (fun w h => (h.weaken (FLe.refl _)).sublist (sc1 (.refl _))) ?_
      refine HdJ.step [9] (by kernel_rfl) rfl ?_
      refine HdStep.c (fun inv => ?_) ?_
      ·refine Lst.r (Ev.loadS (α := Str) rfl (Rd.own (i := 0) rfl rfl rfl) Try.isAgg9 (v := Str.v x137) ((Get.elemN (s := 1) (x := x137) rfl g159.2.2 (Get.here _)).off (by omega))) ?_
       refine Lst.nil ?_
       refine At.hd inv (fun w h => (h.weaken (FLe.refl _)).sublist (sc1 (.refl _))) ?_
       refine HdJ.step [14] (by kernel_rfl) rfl ?_
       refine HdStep.c (fun inv => ?_) ?_
       ·have g161 := lat_some h144
        refine Lst.r (Ev.indexS (α := Str) (xs := l122) rfl rfl Try.runUnderlying50 Try.sizeOf9 rfl (by decide) (Rd.own (i := 0) rfl rfl rfl) g161.1 g161.2.1) ?_
        refine Lst.nil ?_
        refine At.hd inv (fun w h => (h.weaken (FLe.refl _)).sublist (sc1 (.refl _))) ?_
        refine HdJ.step [15] (by kernel_rfl) rfl ?_
        refine HdStep.c (fun inv => ?_) ?_
        ·refine Lst.storeS (i := 0) rfl rfl rfl rfl rfl Try.sizeOf9 (vs := [Str.v x137]) rfl rfl (by decide) rfl (xs' := encs p146) (by rw [← h147]; exact (Put.elemN (s := 1) (x := x143) rfl g161.2.2 (Put.here (vs := [Str.v x137]) rfl)).off (by omega)) (L' := (.own s_a0 9 1 (encs p146)) :: L) rfl ?_
         refine Lst.nil ?_
         refine At.hd inv (fun w h => (h.weaken (FLe.refl _)).sublist (sc1 (.refl _))) ?_
         refine HdJ.done (by kernel_rfl) ?_
         exact At.meetN p146 (FLe.refl _) ⟨rfl, rfl, rfl, rfl, rfl, rfl, rfl, rfl, rfl, trivial⟩ rfl h151
        exact trivial
       exact trivial
      exact trivial
     exact trivial
    refine HdStep.c (fun inv => ?_) ?_
    ·refine Lst.r (Ev.loadS (α := Str) rfl (Rd.own (i := 0) rfl rfl rfl) Try.isAgg9 (v := Str.v x140) ((Get.elemN (s := 1) (x := x140) rfl g158.2.2 (Get.here _)).off (by omega))) ?_
     refine Lst.nil ?_
     refine At.hd inv (fun w h => (h.weaken (FLe.refl _)).sublist (sc1 (.refl _))) ?_
     refine HdJ.step [8] (by kernel_rfl) rfl ?_
     refine HdStep.c (fun inv => ?_) ?_
     ·have g162 := lat_some h138
      refine Lst.r (Ev.indexS (α := Str) (xs := l122) rfl rfl Try.runUnderlying50 Try.sizeOf9 rfl (by decide) (Rd.own (i := 0) rfl rfl rfl) g162.1 g162.2.1) ?_
      refine Lst.nil ?_
      refine At.hd inv (fun w h => (h.weaken (FLe.refl _)).sublist (sc1 (.refl _))) ?_
      refine HdJ.step [9] (by kernel_rfl) rfl ?_
      refine HdStep.c (fun inv => ?_) ?_
      ·refine Lst.r (Ev.loadS (α := Str) rfl (Rd.own (i := 0) rfl rfl rfl) Try.isAgg9 (v := Str.v x137) ((Get.elemN (s := 1) (x := x137) rfl g162.2.2 (Get.here _)).off (by omega))) ?_
       refine Lst.nil ?_
       refine At.hd inv (fun w h => (h.weaken (FLe.refl _)).sublist (sc1 (.refl _))) ?_
       refine HdJ.step [14] (by kernel_rfl) rfl ?_
       refine HdStep.c (fun inv => ?_) ?_
       ·have g163 := lat_some h144
        refine Lst.r (Ev.indexS (α := Str) (xs := l122) rfl rfl Try.runUnderlying50 Try.sizeOf9 rfl (by decide) (Rd.own (i := 0) rfl rfl rfl) g163.1 g163.2.1) ?_
        refine Lst.nil ?_
        refine At.hd inv (fun w h => (h.weaken (FLe.refl _)).sublist (sc1 (.refl _))) ?_
        refine HdJ.step [15] (by kernel_rfl) rfl ?_
        refine HdStep.c (fun inv => ?_) ?_
        ·refine Lst.storeS (i := 0) rfl rfl rfl rfl rfl Try.sizeOf9 (vs := [Str.v x137]) rfl rfl (by decide) rfl (xs' := encs p146) (by rw [← h147]; exact (Put.elemN (s := 1) (x := x143) rfl g163.2.2 (Put.here (vs := [Str.v x137]) rfl)).off (by omega)) (L' := (.own s_a0 9 1 (encs p146)) :: L) rfl ?_
         refine Lst.nil ?_
         refine At.hd inv (fun w h => (h.weaken (FLe.refl _)).sublist (sc1 (.refl _))) ?_
         refine HdJ.done (by kernel_rfl) ?_
         exact At.meetN p146 (FLe.refl _) ⟨rfl, rfl, rfl, rfl, rfl, rfl, rfl, rfl, rfl, trivial⟩ rfl h151
        exact trivial
       exact trivial
      exact trivial
     exact trivial
    exact trivial
   exact trivial
  rintro F164 l149 hF165 hy
  subst hy
  refine Lst.as (e' := [(0, Sl.v s_a0), (1, iv a1), (2, iv a2), (7, iv y10), (8, iv y4), (10, iv y121), (119, Sl.v s_a0), (121, iv (w64 (y121 - (1 : Int)))), (130, Str.v x140)]) (L' := (.own s_a0 9 1 (encs l149)) :: L) ⟨rfl, rfl, rfl, rfl, rfl, rfl, rfl, rfl, rfl, trivial⟩ rfl ?_
  obtain ⟨x166, h167, H⟩ := bind_some H
  have g168 := lat_some h167
  refine Lst.r (Ev.indexS (α := Str) (xs := l149) rfl rfl Try.runUnderlying50 Try.sizeOf9 rfl (by decide) (Rd.own (i := 0) rfl rfl rfl) g168.1 g168.2.1) ?_
  obtain ⟨p169, h170, H⟩ := Let_some H
  refine Lst.storeS (i := 0) rfl rfl rfl rfl rfl Try.sizeOf9 (vs := [Str.v x140]) rfl rfl (by decide) rfl (xs' := encs p169) (by rw [← h170]; exact (Put.elemN (s := 1) (x := x166) rfl g168.2.2 (Put.here (vs := [Str.v x140]) rfl)).off (by omega)) (L' := (.own s_a0 9 1 (encs p169)) :: L) rfl ?_
  refine Lst.nil ?_
  refine At.in_normal ?_
  refine At.then ?_
  refine Cd.region ?_
  refine Lst.r (Ev.move rfl) ?_
  refine Lst.r (Ev.add rfl rfl) ?_
  refine Lst.r (Ev.assign rfl) ?_
  refine Lst.nil ?_
  exact At.meet (k120, w64 (y121 + (1 : Int)), p169) (FLe.trans hF124 hF165) ⟨rfl, rfl, rfl, rfl, rfl, rfl, trivial⟩ rfl ⟨hgo120 _ (some_inj H).symm, Nat.lt_succ_self _⟩
 replace H := ite_t hb26 H
 refine Cd.condT rfl hb26 ?_
 refine Cd.skip ?_
 refine At.then ?_
 refine Cd.block ?_
 refine Cd.region ?_
 refine Lst.r (Ev.move rfl) ?_
 refine Lst.r (Ev.add rfl rfl) ?_
 refine Lst.r (Ev.assign rfl) ?_
 refine Lst.nil ?_
 refine At.in_normal ?_
 exact At.meet (k9, w64 (y10 + (1 : Int))) hF12 ⟨rfl, rfl, rfl, rfl, rfl, trivial⟩ rfl ⟨hgo9 _ (some_inj H).symm, Nat.lt_succ_self _⟩
set_option maxRecDepth 20000 in
theorem slices_partitionEqualOrdered_string_sim {fu : Nat} {a0 : List Str} {a1 : Int} {a2 : Int} {a3 : Int} {s_a0 : Sl} {r : (List Str) × Int} (H : slices_partitionEqualOrdered_string fu a0 a1 a2 a3 = some r) (w0 : World) (F : Frz) (M L : List Item) (hM : M.Sublist L) : Ok Try.prog w0 122 [Sl.v s_a0, iv a1, iv a2, iv a3] F ((.own s_a0 9 1 (encs a0)) :: L) (fun _ L' v => v = iv r.2 ∧ L' = (.own s_a0 9 1 (encs r.1)) :: L) := by
 unfold slices_partitionEqualOrdered_string at H
 refine Ok.enter (m := 4) (n := 84) Try.func122 rfl rfl rfl (by decide) ?_
 refine Cd.env (e' := [(0, Sl.v s_a0), (1, iv a1), (2, iv a2), (3, iv a3)]) rfl ?_
 refine Cd.seq ?_
 refine Cd.region ?_
 refine Lst.r (Ev.assign rfl) ?_
 refine Lst.nil ?_
 refine At.then ?_
 refine Cd.seq ?_
 obtain ⟨x2, h3, H⟩ := bind_some H
 obtain ⟨x5, h6, H⟩ := bind_some H
 obtain ⟨x8, h9, H⟩ := bind_some H
 obtain ⟨p11, h12, H⟩ := Let_some H
 obtain ⟨o15, h16, H⟩ := Let_some H
 refine Cd.headMeet (σ := (List Str)) 14 (fun l14 => [(0, Sl.v s_a0), (1, iv a1), (2, iv a2), (13, Sl.v s_a0), (14, iv a3), (22, Str.v x5)]) (fun l14 => (.own s_a0 9 1 (encs l14)) :: L) (fun _ l14 => l14 = o15) (by kernel_rfl) (by kernel_rfl) (behind_sink (by kernel_rfl) (by kernel_rfl) (by kernel_rfl)) (by kernel_rfl) (fun hsel hlt => ?_) ?_
 ·refine HdJ.keep (fun w => St w0 F (L) w) (fun w h => trivial) ?_
  refine HdJ.tk hsel hlt 0 (fun w h => h.sublist (sc1 (.refl _))) rfl (Ev.move rfl) ?_
  refine HdJ.tk hsel hlt 1 (fun w h => h.sublist (sc1 (.refl _))) rfl (Ev.move rfl) ?_
  refine HdJ.tk hsel hlt 2 (fun w h => h.sublist (sc1 (.refl _))) rfl (Ev.move rfl) ?_
  refine HdJ.tk hsel hlt 3 (fun w h => h.sublist (sc1 (.refl _))) rfl (Ev.move rfl) ?_
  refine HdJ.tk hsel hlt 4 (fun w h => h.sublist (sc1 (.refl _))) rfl (Ev.move rfl) ?_
  refine HdJ.tk hsel hlt 5 (fun w h => h.sublist (sc1 (.refl _))) rfl (Ev.move rfl) ?_
  refine HdJ.tk hsel hlt 8 (fun w h => h.sublist (sc1 (.refl _))) rfl (Ev.move rfl) ?_
  refine HdJ.tk hsel hlt 9 (fun w h => h.sublist (sc1 (.refl _))) rfl (Ev.move rfl) ?_
  refine HdJ.step [6, 10] (by kernel_rfl) rfl ?_
  refine HdStep.c (fun inv => ?_) ?_
  ·have g17 := lat_some h3
   refine Lst.r (Ev.indexS (α := Str) (xs := a0) rfl rfl Try.runUnderlying50 Try.sizeOf9 rfl (by decide) (Rd.own (i := 0) rfl rfl rfl) g17.1 g17.2.1) ?_
   refine Lst.nil ?_
   refine At.hd inv (fun w h => (h.weaken (FLe.refl _)).sublist (sc1 (.refl _))) ?_
   refine HdJ.step [7, 10] (by kernel_rfl) rfl ?_
   refine HdStep.c (fun inv => ?_) ?_
   ·refine Lst.r (Ev.loadS (α := Str) rfl (Rd.own (i := 0) rfl rfl rfl) Try.isAgg9 (v := Str.v x2) ((Get.elemN (s := 1) (x := x2) rfl g17.2.2 (Get.here _)).off (by omega))) ?_
    refine Lst.nil ?_
    refine At.hd inv (fun w h => (h.weaken (FLe.refl _)).sublist (sc1 (.refl _))) ?_
    refine HdJ.step [10] (by kernel_rfl) rfl ?_
    refine HdStep.c (fun inv => ?_) ?_
    ·have g18 := lat_some h6
     refine Lst.r (Ev.indexS (α := Str) (xs := a0) rfl rfl Try.runUnderlying50 Try.sizeOf9 rfl (by decide) (Rd.own (i := 0) rfl rfl rfl) g18.1 g18.2.1) ?_
     refine Lst.nil ?_
     refine At.hd inv (fun w h => (h.weaken (FLe.refl _)).sublist (sc1 (.refl _))) ?_
     refine HdJ.step [11] (by kernel_rfl) rfl ?_
     refine HdStep.c (fun inv => ?_) ?_
     ·refine Lst.r (Ev.loadS (α := Str) rfl (Rd.own (i := 0) rfl rfl rfl) Try.isAgg9 (v := Str.v x5) ((Get.elemN (s := 1) (x := x5) rfl g18.2.2 (Get.here _)).off (by omega))) ?_
      refine Lst.nil ?_
      refine At.hd inv (fun w h => (h.weaken (FLe.refl _)).sublist (sc1 (.refl _))) ?_
      refine HdJ.step [12] (by kernel_rfl) rfl ?_
      refine HdStep.c (fun inv => ?_) ?_
      ·have g19 := lat_some h9
       refine Lst.r (Ev.indexS (α := Str) (xs := a0) rfl rfl Try.runUnderlying50 Try.sizeOf9 rfl (by decide) (Rd.own (i := 0) rfl rfl rfl) g19.1 g19.2.1) ?_
       refine Lst.nil ?_
       refine At.hd inv (fun w h => (h.weaken (FLe.refl _)).sublist (sc1 (.refl _))) ?_
       refine HdJ.step [13] (by kernel_rfl) rfl ?_
       refine HdStep.c (fun inv => ?_) ?_
       ·refine Lst.storeS (i := 0) rfl rfl rfl rfl rfl Try.sizeOf9 (vs := [Str.v x2]) rfl rfl (by decide) rfl (xs' := encs p11) (by rw [← h12]; exact (Put.elemN (s := 1) (x := x8) rfl g19.2.2 (Put.here (vs := [Str.v x2]) rfl)).off (by omega)) (L' := (.own s_a0 9 1 (encs p11)) :: L) rfl ?_
        refine Lst.nil ?_
        refine At.hd inv (fun w h => (h.weaken (FLe.refl _)).sublist (sc1 (.refl _))) ?_
        refine HdJ.done (by kernel_rfl) ?_
        exact At.meetN p11 (FLe.refl _) ⟨rfl, rfl, rfl, rfl, rfl, rfl, trivial⟩ rfl h16
       exact trivial
      exact trivial
     exact trivial
    exact trivial
   refine HdStep.c (fun inv => ?_) ?_
   ·have g20 := lat_some h6
    refine Lst.r (Ev.indexS (α := Str) (xs := a0) rfl rfl Try.runUnderlying50 Try.sizeOf9 rfl (by decide) (Rd.own (i := 0) rfl rfl rfl) g20.1 g20.2.1) ?_
    refine Lst.nil ?_
    refine At.hd inv (fun w h => (h.weaken (FLe.refl _)).sublist (sc1 (.refl _))) ?_
    refine HdJ.step [7, 11] (by kernel_rfl) rfl ?_
    refine HdStep.c (fun inv => ?_) ?_
    ·refine Lst.r (Ev.loadS (α := Str) rfl (Rd.own (i := 0) rfl rfl rfl) Try.isAgg9 (v := Str.v x2) ((Get.elemN (s := 1) (x := x2) rfl g17.2.2 (Get.here _)).off (by omega))) ?_
     refine Lst.nil ?_
     refine At.hd inv (fun w h => (h.weaken (FLe.refl _)).sublist (sc1 (.refl _))) ?_
     refine HdJ.step [11] (by kernel_rfl) rfl ?_
     refine HdStep.c (fun inv => ?_) ?_
     ·refine Lst.r (Ev.loadS (α := Str) rfl (Rd.own (i := 0) rfl rfl rfl) Try.isAgg9 (v := Str.v x5) ((Get.elemN (s := 1) (x := x5) rfl g20.2.2 (Get.here _)).off (by omega))) ?_
      refine Lst.nil ?_
      refine At.hd inv (fun w h => (h.weaken (FLe.refl _)).sublist (sc1 (.refl _))) ?_
      refine HdJ.step [12] (by kernel_rfl) rfl ?_
      refine HdStep.c (fun inv => ?_) ?_
      ·have g21 := lat_some h9
       refine Lst.r (Ev.indexS (α := Str) (xs := a0) rfl rfl Try.runUnderlying50 Try.sizeOf9 rfl (by decide) (Rd.own (i := 0) rfl rfl rfl) g21.1 g21.2.1) ?_
       refine Lst.nil ?_
       refine At.hd inv (fun w h => (h.weaken (FLe.refl _)).sublist (sc1 (.refl _))) ?_
       refine HdJ.step [13] (by kernel_rfl) rfl ?_
       refine HdStep.c (fun inv => ?_) ?_
       ·refine Lst.storeS (i := 0) rfl rfl rfl rfl rfl Try.sizeOf9 (vs := [Str.v x2]) rfl rfl (by decide) rfl (xs' := encs p11) (by rw [← h12]; exact (Put.elemN (s := 1) (x := x8) rfl g21.2.2 (Put.here (vs := [Str.v x2]) rfl)).off (by omega)) (L' := (.own s_a0 9 1 (encs p11)) :: L) rfl ?_
        refine Lst.nil ?_
        refine At.hd inv (fun w h => (h.weaken (FLe.refl _)).sublist (sc1 (.refl _))) ?_
        refine HdJ.done (by kernel_rfl) ?_
        exact At.meetN p11 (FLe.refl _) ⟨rfl, rfl, rfl, rfl, rfl, rfl, trivial⟩ rfl h16
       exact trivial
      exact trivial
     exact trivial
    refine HdStep.c (fun inv => ?_) ?_
    ·refine Lst.r (Ev.loadS (α := Str) rfl (Rd.own (i := 0) rfl rfl rfl) Try.isAgg9 (v := Str.v x5) ((Get.elemN (s := 1) (x := x5) rfl g20.2.2 (Get.here _)).off (by omega))) ?_
     refine Lst.nil ?_
     refine At.hd inv (fun w h => (h.weaken (FLe.refl _)).sublist (sc1 (.refl _))) ?_
     refine HdJ.step [7] (by kernel_rfl) rfl ?_
     refine HdStep.c (fun inv => ?_) ?_
     ·refine Lst.r (Ev.loadS (α := Str) rfl (Rd.own (i := 0) rfl rfl rfl) Try.isAgg9 (v := Str.v x2) ((Get.elemN (s := 1) (x := x2) rfl g17.2.2 (Get.here _)).off (by omega))) ?_
      refine Lst.nil ?_
      refine At.hd inv (fun w h => (h.weaken (FLe.refl _)).sublist (sc1 (.refl _))) ?_
      refine HdJ.step [12] (by kernel_rfl) rfl ?_
      refine HdStep.c (fun inv => ?_) ?_
      ·have g22 := lat_some h9
       refine Lst.r (Ev.indexS (α := Str) (xs := a0) rfl rfl Try.runUnderlying50 Try.sizeOf9 rfl (by decide) (Rd.own (i := 0) rfl rfl rfl) g22.1 g22.2.1) ?_
       refine Lst.nil ?_
       refine At.hd inv (fun w h => (h.weaken (FLe.refl _)).sublist (sc1 (.refl _))) ?_
       refine HdJ.step [13] (by kernel_rfl) rfl ?_
       refine HdStep.c (fun inv => ?_) ?_
       ·refine Lst.storeS (i := 0) rfl rfl rfl rfl rfl Try.sizeOf9 (vs := [Str.v x2]) rfl rfl (by decide) rfl (xs' := encs p11) (by rw [← h12]; exact (Put.elemN (s := 1) (x := x8) rfl g22.2.2 (Put.here (vs := [Str.v x2]) rfl)).off (by omega)) (L' := (.own s_a0 9 1 (encs p11)) :: L) rfl ?_
        refine Lst.nil ?_
        refine At.hd inv (fun w h => (h.weaken (FLe.refl _)).sublist (sc1 (.refl _))) ?_
        refine HdJ.done (by kernel_rfl) ?_
        exact At.meetN p11 (FLe.refl _) ⟨rfl, rfl, rfl, rfl, rfl, rfl, trivial⟩ rfl h16
       exact trivial
      exact trivial
     exact trivial
    exact trivial
   exact trivial
  refine HdStep.c (fun inv => ?_) ?_
  ·have g23 := lat_some h6
   refine Lst.r (Ev.indexS (α := Str) (xs := a0) rfl rfl Try.runUnderlying50 Try.sizeOf9 rfl (by decide) (Rd.own (i := 0) rfl rfl rfl) g23.1 g23.2.1) ?_
   refine Lst.nil ?_
   refine At.hd inv (fun w h => (h.weaken (FLe.refl _)).sublist (sc1 (.refl _))) ?_
   refine HdJ.step [6, 11] (by kernel_rfl) rfl ?_
   refine HdStep.c (fun inv => ?_) ?_
   ·have g24 := lat_some h3
    refine Lst.r (Ev.indexS (α := Str) (xs := a0) rfl rfl Try.runUnderlying50 Try.sizeOf9 rfl (by decide) (Rd.own (i := 0) rfl rfl rfl) g24.1 g24.2.1) ?_
    refine Lst.nil ?_
    refine At.hd inv (fun w h => (h.weaken (FLe.refl _)).sublist (sc1 (.refl _))) ?_
    refine HdJ.step [7, 11] (by kernel_rfl) rfl ?_
    refine HdStep.c (fun inv => ?_) ?_
    ·refine Lst.r (Ev.loadS (α := Str) rfl (Rd.own (i := 0) rfl rfl rfl) Try.isAgg9 (v := Str.v x2) ((Get.elemN (s := 1) (x := x2) rfl g24.2.2 (Get.here _)).off (by omega))) ?_
     refine Lst.nil ?_
     refine At.hd inv (fun w h => (h.weaken (FLe.refl _)).sublist (sc1 (.refl _))) ?_
     refine HdJ.step [11] (by kernel_rfl) rfl ?_
     refine HdStep.c (fun inv => ?_) ?_
     ·refine Lst.r (Ev.loadS (α := Str) rfl (Rd.own (i := 0) rfl rfl rfl) Try.isAgg9 (v := Str.v x5) ((Get.elemN (s := 1) (x := x5) rfl g23.2.2 (Get.here _)).off (by omega))) ?_
      refine Lst.nil ?_
      refine At.hd inv (fun w h => (h.weaken (FLe.refl _)).sublist (sc1 (.refl _))) ?_
      refine HdJ.step [12] (by kernel_rfl) rfl ?_
      refine HdStep.c (fun inv => ?_) ?_
      ·have g25 := lat_some h9
       refine Lst.r (Ev.indexS (α := Str) (xs := a0) rfl rfl Try.runUnderlying50 Try.sizeOf9 rfl (by decide) (Rd.own (i := 0) rfl rfl rfl) g25.1 g25.2.1) ?_
       refine Lst.nil ?_
       refine At.hd inv (fun w h => (h.weaken (FLe.refl _)).sublist (sc1 (.refl _))) ?_
       refine HdJ.step [13] (by kernel_rfl) rfl ?_
       refine HdStep.c (fun inv => ?_) ?_
       ·refine Lst.storeS (i := 0) rfl rfl rfl rfl rfl Try.sizeOf9 (vs := [Str.v x2]) rfl rfl (by decide) rfl (xs' := encs p11) (by rw [← h12]; exact (Put.elemN (s := 1) (x := x8) rfl g25.2.2 (Put.here (vs := [Str.v x2]) rfl)).off (by omega)) (L' := (.own s_a0 9 1 (encs p11)) :: L) rfl ?_
        refine Lst.nil ?_
        refine At.hd inv (fun w h => (h.weaken (FLe.refl _)).sublist (sc1 (.refl _))) ?_
        refine HdJ.done (by kernel_rfl) ?_
        exact At.meetN p11 (FLe.refl _) ⟨rfl, rfl, rfl, rfl, rfl, rfl, trivial⟩ rfl h16
       exact trivial
      exact trivial
     exact trivial
    refine HdStep.c (fun inv => ?_) ?_
    ·refine Lst.r (Ev.loadS (α := Str) rfl (Rd.own (i := 0) rfl rfl rfl) Try.isAgg9 (v := Str.v x5) ((Get.elemN (s := 1) (x := x5) rfl g23.2.2 (Get.here _)).off (by omega))) ?_
     refine Lst.nil ?_
     refine At.hd inv (fun w h => (h.weaken (FLe.refl _)).sublist (sc1 (.refl _))) ?_
     refine HdJ.step [7] (by kernel_rfl) rfl ?_
     refine HdStep.c (fun inv => ?_) ?_
     ·refine Lst.r (Ev.loadS (α := Str) rfl (Rd.own (i := 0) rfl rfl rfl) Try.isAgg9 (v := Str.v x2) ((Get.elemN (s := 1) (x := x2) rfl g24.2.2 (Get.here _)).off (by omega))) ?_
      refine Lst.nil ?_
      refine At.hd inv (fun w h => (h.weaken (FLe.refl _)).sublist (sc1 (.refl _))) ?_
      refine HdJ.step [12] (by kernel_rfl) rfl ?_
      refine HdStep.c (fun inv => ?_) ?_
      ·have g26 := lat_some h9
       refine Lst.r (Ev.indexS (α := Str) (xs := a0) rfl rfl Try.runUnderlying50 Try.sizeOf9 rfl (by decide) (Rd.own (i := 0) rfl rfl rfl) g26.1 g26.2.1) ?_
       refine Lst.nil ?_
       refine At.hd inv (fun w h => (h.weaken (FLe.refl _)).sublist (sc1 (.refl _))) ?_
       refine HdJ.step [13] (by kernel_rfl) rfl ?_
       refine HdStep.c (fun inv => ?_) ?_
       ·refine Lst.storeS (i := 0) rfl rfl rfl rfl rfl Try.sizeOf9 (vs := [Str.v x2]) rfl rfl (by decide) rfl (xs' := encs p11) (by rw [← h12]; exact (Put.elemN (s := 1) (x := x8) rfl g26.2.2 (Put.here (vs := [Str.v x2]) rfl)).off (by omega)) (L' := (.own s_a0 9 1 (encs p11)) :: L) rfl ?_
        refine Lst.nil ?_
        refine At.hd inv (fun w h => (h.weaken (FLe.refl _)).sublist (sc1 (.refl _))) ?_
        refine HdJ.done (by kernel_rfl) ?_
        exact At.meetN p11 (FLe.refl _) ⟨rfl, rfl, rfl, rfl, rfl, rfl, trivial⟩ rfl h16
       exact trivial
      exact trivial
     exact trivial
    exact trivial
   refine HdStep.c (fun inv => ?_) ?_
   ·refine Lst.r (Ev.loadS (α := Str) rfl (Rd.own (i := 0) rfl rfl rfl) Try.isAgg9 (v := Str.v x5) ((Get.elemN (s := 1) (x := x5) rfl g23.2.2 (Get.here _)).off (by omega))) ?_
    refine Lst.nil ?_
    refine At.hd inv (fun w h => (h.weaken (FLe.refl _)).sublist (sc1 (.refl _))) ?_
    refine HdJ.step [6] (by kernel_rfl) rfl ?_
    refine HdStep.c (fun inv => ?_) ?_
    ·have g27 := lat_some h3
     refine Lst.r (Ev.indexS (α := Str) (xs := a0) rfl rfl Try.runUnderlying50 Try.sizeOf9 rfl (by decide) (Rd.own (i := 0) rfl rfl rfl) g27.1 g27.2.1) ?_
     refine Lst.nil ?_
     refine At.hd inv (fun w h => (h.weaken (FLe.refl _)).sublist (sc1 (.refl _))) ?_
     refine HdJ.step [7] (by kernel_rfl) rfl ?_
     refine HdStep.c (fun inv => ?_) ?_
     ·refine Lst.r (Ev.loadS (α := Str) rfl (Rd.own (i := 0) rfl rfl rfl) Try.isAgg9 (v := Str.v x2) ((Get.elemN (s := 1) (x := x2) rfl g27.2.2 (Get.here _)).off (by omega))) ?_
      refine Lst.nil ?_
      refine At.hd inv (fun w h => (h.weaken (FLe.refl _)).sublist (sc1 (.refl _))) ?_
      refine HdJ.step [12] (by kernel_rfl) rfl ?_
      refine HdStep.c (fun inv => ?_) ?_
      ·have g28 := lat_some h9
       refine Lst.r (Ev.indexS (α := Str) (xs := a0) rfl rfl Try.runUnderlying50 Try.sizeOf9 rfl (by decide) (Rd.own (i := 0) rfl rfl rfl) g28.1 g28.2.1) ?_
       refine Lst.nil ?_
       refine At.hd inv (fun w h => (h.weaken (FLe.refl _)).sublist (sc1 (.refl _))) ?_
       refine HdJ.step [13] (by kernel_rfl) rfl ?_
       refine HdStep.c (fun inv => ?_) ?_
       ·refine Lst.storeS (i := 0) rfl rfl rfl rfl rfl Try.sizeOf9 (vs := [Str.v x2]) rfl rfl (by decide) rfl (xs' := encs p11) (by rw [← h12]; exact (Put.elemN (s := 1) (x := x8) rfl g28.2.2 (Put.here (vs := [Str.v x2]) rfl)).off (by omega)) (L' := (.own s_a0 9 1 (encs p11)) :: L) rfl ?_
        refine Lst.nil ?_
        refine At.hd inv (fun w h => (h.weaken (FLe.refl _)).sublist (sc1 (.refl _))) ?_
        refine HdJ.done (by kernel_rfl) ?_
        exact At.meetN p11 (FLe.refl _) ⟨rfl, rfl, rfl, rfl, rfl, rfl, trivial⟩ rfl h16
       exact trivial
      exact trivial
     exact trivial
    exact trivial
   exact trivial
  exact trivial
 rintro F29 l14 hF30 hy
 subst hy
 refine Lst.as (e' := [(0, Sl.v s_a0), (1, iv a1), (2, iv a2), (13, Sl.v s_a0), (14, iv a3), (22, Str.v x5)]) (L' := (.own s_a0 9 1 (encs l14)) :: L) ⟨rfl, rfl, rfl, rfl, rfl, rfl, trivial⟩ rfl ?_
 obtain ⟨x31, h32, H⟩ := bind_some H
 have g33 := lat_some h32
 refine Lst.r (Ev.indexS (α := Str) (xs := l14) rfl rfl Try.runUnderlying50 Try.sizeOf9 rfl (by decide) (Rd.own (i := 0) rfl rfl rfl) g33.1 g33.2.1) ?_
 obtain ⟨p34, h35, H⟩ := Let_some H
 refine Lst.storeS (i := 0) rfl rfl rfl rfl rfl Try.sizeOf9 (vs := [Str.v x5]) rfl rfl (by decide) rfl (xs' := encs p34) (by rw [← h35]; exact (Put.elemN (s := 1) (x := x31) rfl g33.2.2 (Put.here (vs := [Str.v x5]) rfl)).off (by omega)) (L' := (.own s_a0 9 1 (encs p34)) :: L) rfl ?_
 refine Lst.nil ?_
 refine At.then ?_
 refine Cd.seq ?_
 refine Cd.region ?_
 refine Lst.r (Ev.move rfl) ?_
 refine Lst.r (Ev.add rfl rfl) ?_
 refine Lst.r (Ev.move rfl) ?_
 refine Lst.r (Ev.sub rfl rfl) ?_
 refine Lst.r (Ev.assign rfl) ?_
 refine Lst.r (Ev.assign rfl) ?_
 refine Lst.nil ?_
 refine At.then ?_
 refine Cd.seq ?_
 refine Cd.block ?_
 obtain ⟨ol36, H, HKl36⟩ := andThen_some H
 refine Cd.loop (σ := Nat × Int × Int × (List Str)) (fun (k36, y37, y38, l39) => [(0, Sl.v s_a0), (1, iv a1), (9, iv y37), (10, iv y38)]) (fun (k36, y37, y38, l39) => (.own s_a0 9 1 (encs l39)) :: L) (fun _ => (fun (k36, y37, y38, l39) => whileM (slices_partitionEqualOrdered_string_B0 fu a1) k36 (y37, y38, l39) = some ol36)) (fun (k36, y37, y38, l39) => k36) (fu, w64 (a1 + (1 : Int)), w64 (a2 - (1 : Int)), p34) ⟨rfl, rfl, rfl, rfl, trivial⟩ rfl H ?_
 rintro F40 ⟨k36, y37, y38, l39⟩ hF41 H
 refine Cd.as (e' := [(0, Sl.v s_a0), (1, iv a1), (9, iv y37), (10, iv y38)]) (L' := (.own s_a0 9 1 (encs l39)) :: L) ⟨rfl, rfl, rfl, rfl, trivial⟩ rfl ?_
 rcases k36 with _ | k36
 ·cases H
 obtain ⟨c36, H, hgo36, hbrk36, hret36⟩ := whileM_go H
 unfold slices_partitionEqualOrdered_string_B0 at H
 try dsimp only at H
 refine Cd.block ?_
 refine Cd.seq ?_
 refine Cd.block ?_
 obtain ⟨ol42, H, HKl42⟩ := andThen_some H
 refine Cd.loop (σ := Nat × Int) (fun (k42, y43) => [(0, Sl.v s_a0), (1, iv a1), (9, iv y43), (10, iv y38)]) (fun (k42, y43) => (.own s_a0 9 1 (encs l39)) :: L) (fun _ => (fun (k42, y43) => whileM (slices_partitionEqualOrdered_string_B2 a1 y38 l39) k42 y43 = some ol42)) (fun (k42, y43) => k42) (fu, y37) ⟨rfl, rfl, rfl, rfl, trivial⟩ rfl H ?_
 rintro F44 ⟨k42, y43⟩ hF45 H
 refine Cd.as (e' := [(0, Sl.v s_a0), (1, iv a1), (9, iv y43), (10, iv y38)]) (L' := (.own s_a0 9 1 (encs l39)) :: L) ⟨rfl, rfl, rfl, rfl, trivial⟩ rfl ?_
 rcases k42 with _ | k42
 ·cases H
 obtain ⟨c42, H, hgo42, hbrk42, hret42⟩ := whileM_go H
 unfold slices_partitionEqualOrdered_string_B2 at H
 try dsimp only at H
 refine Cd.seq ?_
 refine Cd.seq ?_
 refine Cd.quiet (by kernel_rfl) (by kernel_rfl) ?_
 refine Qt.r (Ev.move rfl) ?_
 refine Qt.r (Ev.move rfl) ?_
 refine Qt.r (Ev.leq rfl rfl) ?_
 refine Qt.r (Ev.move rfl) ?_
 obtain ⟨o46, H, HKo46⟩ := bind_some H
 refine Qt.join (σ := Bool) 11 (fun y47 => [(0, Sl.v s_a0), (1, iv a1), (9, iv y43), (10, iv y38), (43, .bool y47)]) (fun y47 => y47 = o46) ?_ ?_
 ·rcases (Bool.eq_false_or_eq_true (decide (y43 ≤ y38))).symm with hb48 | hb48
  ·replace H := ite_f hb48 H
   refine Qt.skip rfl rfl rfl hb48 rfl (by decide) ?_
   refine Qt.skip rfl rfl rfl hb48 rfl (by decide) ?_
   refine Qt.skip rfl rfl rfl hb48 rfl (by decide) ?_
   refine Qt.skip rfl rfl rfl hb48 rfl (by decide) ?_
   refine Qt.skip rfl rfl rfl hb48 rfl (by decide) ?_
   refine Qt.skip rfl rfl rfl hb48 rfl (by decide) ?_
   refine Qt.skip rfl rfl rfl hb48 rfl (by decide) ?_
   refine Qt.skip rfl rfl rfl hb48 rfl (by decide) ?_
   refine Qt.skip rfl rfl rfl hb48 rfl (by decide) ?_
   refine Qt.skip rfl rfl rfl hb48 rfl (by decide) ?_
   refine Qt.r (Ev.pickF rfl hb48 rfl) ?_
   exact Qt.meet false ⟨rfl, rfl, rfl, rfl, rfl, trivial⟩ (some_inj H)
  replace H := ite_t hb48 H
  refine Qt.rG hb48 (Ev.move rfl) ?_
  refine Qt.rG hb48 (Ev.move rfl) ?_
  obtain ⟨x49, h50, H⟩ := bind_some H
  have g51 := lat_some h50
  refine Qt.rG hb48 (Ev.indexS (α := Str) (xs := l39) rfl rfl Try.runUnderlying50 Try.sizeOf9 rfl (by decide) (Rd.own (i := 0) rfl rfl rfl) g51.1 g51.2.1) ?_
  refine Qt.rG hb48 (Ev.loadS (α := Str) rfl (Rd.own (i := 0) rfl rfl rfl) Try.isAgg9 (v := Str.v x49) ((Get.elemN (s := 1) (x := x49) rfl g51.2.2 (Get.here _)).off (by omega))) ?_
  refine Qt.rG hb48 (Ev.move rfl) ?_
  refine Qt.rG hb48 (Ev.move rfl) ?_
  obtain ⟨x52, h53, H⟩ := bind_some H
  have g54 := lat_some h53
  refine Qt.rG hb48 (Ev.indexS (α := Str) (xs := l39) rfl rfl Try.runUnderlying50 Try.sizeOf9 rfl (by decide) (Rd.own (i := 0) rfl rfl rfl) g54.1 g54.2.1) ?_
  refine Qt.rG hb48 (Ev.loadS (α := Str) rfl (Rd.own (i := 0) rfl rfl rfl) Try.isAgg9 (v := Str.v x52) ((Get.elemN (s := 1) (x := x52) rfl g54.2.2 (Get.here _)).off (by omega))) ?_
  obtain ⟨r55, h56, H⟩ := bind_some H
  refine Qt.callG rfl rfl rfl hb48 rfl (by decide) (vs := [Str.v x49, Str.v x52]) ⟨rfl, rfl, trivial⟩ Try.call121 (cmp_Less_string_sim h56 w0 _ M _ (sc1 hM)) ?_
  refine Qt.rG hb48 (Ev.not rfl) ?_
  refine Qt.r (Ev.pickT rfl hb48 rfl) ?_
  exact Qt.meet (!r55) ⟨rfl, rfl, rfl, rfl, rfl, trivial⟩ (some_inj H)
 rintro y47 hy
 subst hy
 refine Qt.as (e' := [(0, Sl.v s_a0), (1, iv a1), (9, iv y43), (10, iv y38), (43, .bool y47)]) ⟨rfl, rfl, rfl, rfl, rfl, trivial⟩ ?_
 replace H := HKo46
 refine Qt.done ?_
 refine At.then ?_
 rcases (Bool.eq_false_or_eq_true y47).symm with hb59 | hb59
 ·replace H := ite_f hb59 H
  refine Cd.condF rfl hb59 ?_
  refine Cd.exit ?_
  refine At.then_exit ?_
  refine At.then_exit ?_
  refine At.in_exit ?_
  have H := hbrk42 _ (some_inj H).symm
  subst H
  replace H := HKl42
  refine At.then ?_
  refine Cd.seq ?_
  refine Cd.block ?_
  obtain ⟨ol60, H, HKl60⟩ := andThen_some H
  refine Cd.loop (σ := Nat × Int) (fun (k60, y61) => [(0, Sl.v s_a0), (1, iv a1), (9, iv y43), (10, iv y61)]) (fun (k60, y61) => (.own s_a0 9 1 (encs l39)) :: L) (fun _ => (fun (k60, y61) => whileM (slices_partitionEqualOrdered_string_B4 a1 l39 y43) k60 y61 = some ol60)) (fun (k60, y61) => k60) (fu, y38) ⟨rfl, rfl, rfl, rfl, trivial⟩ rfl H ?_
  rintro F62 ⟨k60, y61⟩ hF63 H
  refine Cd.as (e' := [(0, Sl.v s_a0), (1, iv a1), (9, iv y43), (10, iv y61)]) (L' := (.own s_a0 9 1 (encs l39)) :: L) ⟨rfl, rfl, rfl, rfl, trivial⟩ rfl ?_
  rcases k60 with _ | k60
  ·cases H
  obtain ⟨c60, H, hgo60, hbrk60, hret60⟩ := whileM_go H
  unfold slices_partitionEqualOrdered_string_B4 at H
  try dsimp only at H
  refine Cd.seq ?_
  refine Cd.seq ?_
  refine Cd.quiet (by kernel_rfl) (by kernel_rfl) ?_
  refine Qt.r (Ev.move rfl) ?_
  refine Qt.r (Ev.move rfl) ?_
  refine Qt.r (Ev.leq rfl rfl) ?_
  refine Qt.r (Ev.move rfl) ?_
  obtain ⟨o64, H, HKo64⟩ := bind_some H
  refine Qt.join (σ := Bool) 10 (fun y65 => [(0, Sl.v s_a0), (1, iv a1), (9, iv y43), (10, iv y61), (59, .bool y65)]) (fun y65 => y65 = o64) ?_ ?_
  ·rcases (Bool.eq_false_or_eq_true (decide (y43 ≤ y61))).symm with hb66 | hb66
   ·replace H := ite_f hb66 H
    refine Qt.skip rfl rfl rfl hb66 rfl (by decide) ?_
    refine Qt.skip rfl rfl rfl hb66 rfl (by decide) ?_
    refine Qt.skip rfl rfl rfl hb66 rfl (by decide) ?_
    refine Qt.skip rfl rfl rfl hb66 rfl (by decide) ?_
    refine Qt.skip rfl rfl rfl hb66 rfl (by decide) ?_
    refine Qt.skip rfl rfl rfl hb66 rfl (by decide) ?_
    refine Qt.skip rfl rfl rfl hb66 rfl (by decide) ?_
    refine Qt.skip rfl rfl rfl hb66 rfl (by decide) ?_
    refine Qt.skip rfl rfl rfl hb66 rfl (by decide) ?_
    refine Qt.r (Ev.pickF rfl hb66 rfl) ?_
    exact Qt.meet false ⟨rfl, rfl, rfl, rfl, rfl, trivial⟩ (some_inj H)
   replace H := ite_t hb66 H
   refine Qt.rG hb66 (Ev.move rfl) ?_
   refine Qt.rG hb66 (Ev.move rfl) ?_
   obtain ⟨x67, h68, H⟩ := bind_some H
   have g69 := lat_some h68
   refine Qt.rG hb66 (Ev.indexS (α := Str) (xs := l39) rfl rfl Try.runUnderlying50 Try.sizeOf9 rfl (by decide) (Rd.own (i := 0) rfl rfl rfl) g69.1 g69.2.1) ?_
   refine Qt.rG hb66 (Ev.loadS (α := Str) rfl (Rd.own (i := 0) rfl rfl rfl) Try.isAgg9 (v := Str.v x67) ((Get.elemN (s := 1) (x := x67) rfl g69.2.2 (Get.here _)).off (by omega))) ?_
   refine Qt.rG hb66 (Ev.move rfl) ?_
   refine Qt.rG hb66 (Ev.move rfl) ?_
   obtain ⟨x70, h71, H⟩ := bind_some H
   have g72 := lat_some h71
   refine Qt.rG hb66 (Ev.indexS (α := Str) (xs := l39) rfl rfl Try.runUnderlying50 Try.sizeOf9 rfl (by decide) (Rd.own (i := 0) rfl rfl rfl) g72.1 g72.2.1) ?_
   refine Qt.rG hb66 (Ev.loadS (α := Str) rfl (Rd.own (i := 0) rfl rfl rfl) Try.isAgg9 (v := Str.v x70) ((Get.elemN (s := 1) (x := x70) rfl g72.2.2 (Get.here _)).off (by omega))) ?_
   obtain ⟨r73, h74, H⟩ := bind_some H
   refine Qt.callG rfl rfl rfl hb66 rfl (by decide) (vs := [Str.v x67, Str.v x70]) ⟨rfl, rfl, trivial⟩ Try.call121 (cmp_Less_string_sim h74 w0 _ M _ (sc1 hM)) ?_
   refine Qt.r (Ev.pickT rfl hb66 rfl) ?_
   exact Qt.meet r73 ⟨rfl, rfl, rfl, rfl, rfl, trivial⟩ (some_inj H)
  rintro y65 hy
  subst hy
  refine Qt.as (e' := [(0, Sl.v s_a0), (1, iv a1), (9, iv y43), (10, iv y61), (59, .bool y65)]) ⟨rfl, rfl, rfl, rfl, rfl, trivial⟩ ?_
  replace H := HKo64
  refine Qt.done ?_
  refine At.then ?_
  rcases (Bool.eq_false_or_eq_true y65).symm with hb77 | hb77
  ·replace H := ite_f hb77 H
   refine Cd.condF rfl hb77 ?_
   refine Cd.exit ?_
   refine At.then_exit ?_
   refine At.then_exit ?_
   refine At.in_exit ?_
   have H := hbrk60 _ (some_inj H).symm
   subst H
   replace H := HKl60
   refine At.then ?_
   refine Cd.seq ?_
   refine Cd.seq ?_
   refine Cd.region ?_
   refine Lst.r (Ev.move rfl) ?_
   refine Lst.r (Ev.move rfl) ?_
   refine Lst.r (Ev.gtr rfl rfl) ?_
   refine Lst.nil ?_
   refine At.then ?_
   rcases Bool.eq_false_or_eq_true (decide (y43 > y61)) with hb78 | hb78
   ·replace H := ite_t hb78 H
    refine Cd.condT rfl hb78 ?_
    refine Cd.exit ?_
    refine At.then_exit ?_
    refine At.in_other rfl ?_
    refine At.then_exit ?_
    refine At.in_exit ?_
    have H := hbrk36 _ (some_inj H).symm
    subst H
    replace H := HKl36
    refine At.then ?_
    refine Cd.seq ?_
    refine Cd.region ?_
    refine Lst.r (Ev.move rfl) ?_
    refine Lst.r (Ev.assign rfl) ?_
    refine Lst.nil ?_
    refine At.then ?_
    obtain rfl := some_inj H
    refine Cd.ret ?_
    exact At.ret1 rfl (Res.tmp rfl) (FLe.trans (FLe.trans (FLe.trans hF30 hF41) hF45) hF63) (sk1 (.refl _)) ⟨rfl, rfl⟩
   replace H := ite_f hb78 H
   refine Cd.condF rfl hb78 ?_
   refine Cd.skip ?_
   refine At.then ?_
   refine Cd.seq ?_
   obtain ⟨x79, h80, H⟩ := bind_some H
   obtain ⟨x82, h83, H⟩ := bind_some H
   obtain ⟨x85, h86, H⟩ := bind_some H
   obtain ⟨p88, h89, H⟩ := Let_some H
   obtain ⟨o92, h93, H⟩ := Let_some H
   refine Cd.headMeet (σ := (List Str)) 14 (fun l91 => [(0, Sl.v s_a0), (1, iv a1), (9, iv y43), (10, iv y61), (67, Sl.v s_a0), (68, iv y61), (76, Str.v x82)]) (fun l91 => (.own s_a0 9 1 (encs l91)) :: L) (fun _ l91 => l91 = o92) (by kernel_rfl) (by kernel_rfl) (behind_sink (by kernel_rfl) (by kernel_rfl) (by kernel_rfl)) (by kernel_rfl) (fun hsel hlt => ?_) ?_
   ·refine HdJ.keep (fun w => St w0 F62 (L) w) (fun w h => trivial) ?_
    refine HdJ.tk hsel hlt 0 (fun w h => h.sublist (sc1 (.refl _))) rfl (Ev.move rfl) ?_
    refine HdJ.tk hsel hlt 1 (fun w h => h.sublist (sc1 (.refl _))) rfl (Ev.move rfl) ?_
    refine HdJ.tk hsel hlt 2 (fun w h => h.sublist (sc1 (.refl _))) rfl (Ev.move rfl) ?_
    refine HdJ.tk hsel hlt 3 (fun w h => h.sublist (sc1 (.refl _))) rfl (Ev.move rfl) ?_
    refine HdJ.tk hsel hlt 4 (fun w h => h.sublist (sc1 (.refl _))) rfl (Ev.move rfl) ?_
    refine HdJ.tk hsel hlt 5 (fun w h => h.sublist (sc1 (.refl _))) rfl (Ev.move rfl) ?_
    refine HdJ.tk hsel hlt 8 (fun w h => h.sublist (sc1 (.refl _))) rfl (Ev.move rfl) ?_
    refine HdJ.tk hsel hlt 9 (fun w h => h.sublist (sc1 (.refl _))) rfl (Ev.move rfl) ?_
    refine HdJ.step [6, 10] (by kernel_rfl) rfl ?_
    refine HdStep.c (fun inv => ?_) ?_
    ·have g94 := lat_some h80
     refine Lst.r (Ev.indexS (α := Str) (xs := l39) rfl rfl Try.runUnderlying50 Try.sizeOf9 rfl (by decide) (Rd.own (i := 0) rfl rfl rfl) g94.1 g94.2.1) ?_
     refine Lst.nil ?_
     refine At.hd inv (fun w h => (h.weaken (FLe.refl _)).sublist (sc1 (.refl _))) ?_
     refine HdJ.step [7, 10] (by kernel_rfl) rfl ?_
     refine HdStep.c (fun inv => ?_) ?_
     ·refine Lst.r (Ev.loadS (α := Str) rfl (Rd.own (i := 0) rfl rfl rfl) Try.isAgg9 (v := Str.v x79) ((Get.elemN (s := 1) (x := x79) rfl g94.2.2 (Get.here _)).off (by omega))) ?_
      refine Lst.nil ?_
      refine At.hd inv (fun w h => (h.weaken (FLe.refl _)).sublist (sc1 (.refl _))) ?_
      refine HdJ.step [10] (by kernel_rfl) rfl ?_
      refine HdStep.c (fun inv => ?_) ?_
      ·have g95 := lat_some h83
       refine Lst.r (Ev.indexS (α := Str) (xs := l39) rfl rfl Try.runUnderlying50 Try.sizeOf9 rfl (by decide) (Rd.own (i := 0) rfl rfl rfl) g95.1 g95.2.1) ?_
       refine Lst.nil ?_
       refine At.hd inv (fun w h => (h.weaken (FLe.refl _)).sublist (sc1 (.refl _))) ?_
       refine HdJ.step [11] (by kernel_rfl) rfl ?_
       refine HdStep.c (fun inv => ?_) ?_
       ·refine Lst.r (Ev.loadS (α := Str) rfl (Rd.own (i := 0) rfl rfl rfl) Try.isAgg9 (v := Str.v x82) ((Get.elemN (s := 1) (x := x82) rfl g95.2.2 (Get.here _)).off (by omega))) ?_
        refine Lst.nil ?_
        refine At.hd inv (fun w h => (h.weaken (FLe.refl _)).sublist (sc1 (.refl _))) ?_
        refine HdJ.step [12] (by kernel_rfl) rfl ?_
        refine HdStep.c (fun inv => ?_) ?_
        ·have g96 := lat_some h86
         refine Lst.r (Ev.indexS (α := Str) (xs := l39) rfl rfl Try.runUnderlying50 Try.sizeOf9 rfl (by decide) (Rd.own (i := 0) rfl rfl rfl) g96.1 g96.2.1) ?_
         refine Lst.nil ?_
         refine At.hd inv (fun w h => (h.weaken (FLe.refl _)).sublist (sc1 (.refl _))) ?_
         refine HdJ.step [13] (by kernel_rfl) rfl ?_
         refine HdStep.c (fun inv => ?_) ?_
         ·refine Lst.storeS (i := 0) rfl rfl rfl rfl rfl Try.sizeOf9 (vs := [Str.v x79]) rfl rfl (by decide) rfl (xs' := encs p88) (by rw [← h89]; exact (Put.elemN (s := 1) (x := x85) rfl g96.2.2 (Put.here (vs := [Str.v x79]) rfl)).off (by omega)) (L' := (.own s_a0 9 1 (encs p88)) :: L) rfl ?_
          refine Lst.nil ?_
          refine At.hd inv (fun w h => (h.weaken (FLe.refl _)).sublist (sc1 (.refl _))) ?_
          refine HdJ.done (by kernel_rfl) ?_
          exact At.meetN p88 (FLe.refl _) ⟨rfl, rfl, rfl, rfl, rfl, rfl, rfl, trivial⟩ rfl h93
         exact trivial
        exact trivial
       exact trivial
      exact trivial
     refine HdStep.c (fun inv => ?_) ?_
     ·have g97 := lat_some h83
      refine Lst.r (Ev.indexS (α := Str) (xs := l39) rfl rfl Try.runUnderlying50 Try.sizeOf9 rfl (by decide) (Rd.own (i := 0) rfl rfl rfl) g97.1 g97.2.1) ?_
      refine Lst.nil ?_
      refine At.hd inv (fun w h => (h.weaken (FLe.refl _)).sublist (sc1 (.refl _))) ?_
      refine HdJ.step [7, 11] (by kernel_rfl) rfl ?_
      refine HdStep.c (fun inv => ?_) ?_
      ·refine Lst.r (Ev.loadS (α := Str) rfl (Rd.own (i := 0) rfl rfl rfl) Try.isAgg9 (v := Str.v x79) ((Get.elemN (s := 1) (x := x79) rfl g94.2.2 (Get.here _)).off (by omega))) ?_
       refine Lst.nil ?_
       refine At.hd inv (fun w h => (h.weaken (FLe.refl _)).sublist (sc1 (.refl _))) ?_
       refine HdJ.step [11] (by kernel_rfl) rfl ?_
       refine HdStep.c (fun inv => ?_) ?_
       ·refine Lst.r (Ev.loadS (α := Str) rfl (Rd.own (i := 0) rfl rfl rfl) Try.isAgg9 (v := Str.v x82) ((Get.elemN (s := 1) (x := x82) rfl g97.2.2 (Get.here _)).off (by omega))) ?_
        refine Lst.nil ?_
        refine At.hd inv (fun w h => (h.weaken (FLe.refl _)).sublist (sc1 (.refl _))) ?_
        refine HdJ.step [12] (by kernel_rfl) rfl ?_
        refine HdStep.c (fun inv => ?_) ?_
        ·have g98 := lat_some h86
         refine Lst.r (Ev.indexS (α := Str) (xs := l39) rfl rfl Try.runUnderlying50 Try.sizeOf9 rfl (by decide) (Rd.own (i := 0) rfl rfl rfl) g98.1 g98.2.1) ?_
         refine Lst.nil ?_
         refine At.hd inv (fun w h => (h.weaken (FLe.refl _)).sublist (sc1 (.refl _))) ?_
         refine HdJ.step [13] (by kernel_rfl) rfl ?_
         refine HdStep.c (fun inv => ?_) ?_
         ·refine Lst.storeS (i := 0) rfl rfl rfl rfl rfl Try.sizeOf9 (vs := [Str.v x79]) rfl rfl (by decide) rfl (xs' := encs p88) (by rw [← h89]; exact (Put.elemN (s := 1) (x := x85) rfl g98.2.2 (Put.here (vs := [Str.v x79]) rfl)).off (by omega)) (L' := (.own s_a0 9 1 (encs p88)) :: L) rfl ?_
          refine Lst.nil ?_
          refine At.hd inv (fun w h => (h.weaken (FLe.refl _)).sublist (sc1 (.refl _))) ?_
          refine HdJ.done (by kernel_rfl) ?_
          exact At.meetN p88 (FLe.refl _) ⟨rfl, rfl, rfl, rfl, rfl, rfl, rfl, trivial⟩ rfl h93
         exact trivial
        exact trivial
       exact trivial
      refine HdStep.c (fun inv => ?_) ?_
      ·refine Lst.r (Ev.loadS (α := Str) rfl (Rd.own (i := 0) rfl rfl rfl) Try.isAgg9 (v := Str.v x82) ((Get.elemN (s := 1) (x := x82) rfl g97.2.2 (Get.here _)).off (by omega))) ?_
       refine Lst.nil ?_
       refine At.hd inv (fun w h => (h.weaken (FLe.refl _)).sublist (sc1 (.refl _))) ?_
       refine HdJ.step [7] (by kernel_rfl) rfl ?_
       refine HdStep.c (fun inv => ?_) ?_
       ·refine Lst.r (Ev.loadS (α := Str) rfl (Rd.own (i := 0) rfl rfl rfl) Try.isAgg9 (v := Str.v x79) ((Get.elemN (s := 1) (x := x79) rfl g94.2.2 (Get.here _)).off (by omega))) ?_
        refine Lst.nil ?_
        refine At.hd inv (fun w h => (h.weaken (FLe.refl _)).sublist (sc1 (.refl _))) ?_
        refine HdJ.step [12] (by kernel_rfl) rfl ?_
        refine HdStep.c (fun inv => ?_) ?_
        ·have g99 := lat_some h86
         refine Lst.r (Ev.indexS (α := Str) (xs := l39) rfl rfl Try.runUnderlying50 Try.sizeOf9 rfl (by decide) (Rd.own (i := 0) rfl rfl rfl) g99.1 g99.2.1) ?_
         refine Lst.nil ?_
         refine At.hd inv (fun w h => (h.weaken (FLe.refl _)).sublist (sc1 (.refl _))) ?_
         refine HdJ.step [13] (by kernel_rfl) rfl ?_
         refine HdStep.c (fun inv => ?_) ?_
         ·refine Lst.storeS (i := 0) rfl rfl rfl rfl rfl Try.sizeOf9 (vs := [Str.v x79]) rfl rfl (by decide) rfl (xs' := encs p88) (by rw [← h89]; exact (Put.elemN (s := 1) (x := x85) rfl g99.2.2 (Put.here (vs := [Str.v x79]) rfl)).off (by omega)) (L' := (.own s_a0 9 1 (encs p88)) :: L) rfl ?_
          refine Lst.nil ?_
          refine At.hd inv (fun w h => (h.weaken (FLe.refl _)).sublist (sc1 (.refl _))) ?_
          refine HdJ.done (by kernel_rfl) ?_
          exact At.meetN p88 (FLe.refl _) ⟨rfl, rfl, rfl, rfl, rfl, rfl, rfl, trivial⟩ rfl h93
         exact trivial
        exact trivial
       exact trivial
      exact trivial
     exact trivial
    refine HdStep.c (fun inv => ?_) ?_
    ·have g100 := lat_some h83
     refine Lst.r (Ev.indexS (α := Str) (xs := l39) rfl rfl Try.runUnderlying50 Try.sizeOf9 rfl (by decide) (Rd.own (i := 0) rfl rfl rfl) g100.1 g100.2.1) ?_
     refine Lst.nil ?_
     refine At.hd inv (fun w h => (h.weaken (FLe.refl _)).sublist (sc1 (.refl _))) ?_
     refine HdJ.step [6, 11] (by kernel_rfl) rfl ?_
     refine HdStep.c (fun inv => ?_) ?_
     ·have g101 := lat_some h80
      refine Lst.r (Ev.indexS (α := Str) (xs := l39) rfl rfl Try.runUnderlying50 Try.sizeOf9 rfl (by decide) (Rd.own (i := 0) rfl rfl rfl) g101.1 g101.2.1) ?_
      refine Lst.nil ?_
      refine At.hd inv (fun w h => (h.weaken (FLe.refl _)).sublist (sc1 (.refl _))) ?_
      refine HdJ.step [7, 11] (by kernel_rfl) rfl ?_
      refine HdStep.c (fun inv => ?_) ?_
      ·refine Lst.r (Ev.loadS (α := Str) rfl (Rd.own (i := 0) rfl rfl rfl) Try.isAgg9 (v := Str.v x79) ((Get.elemN (s := 1) (x := x79) rfl g101.2.2 (Get.here _)).off (by omega))) ?_
       refine Lst.nil ?_
       refine At.hd inv (fun w h => (h.weaken (FLe.refl _)).sublist (sc1 (.refl _))) ?_
       refine HdJ.step [11] (by kernel_rfl) rfl ?_
       refine HdStep.c (fun inv => ?_) ?_
       ·refine Lst.r (Ev.loadS (α := Str) rfl (Rd.own (i := 0) rfl rfl rfl) Try.isAgg9 (v := Str.v x82) ((Get.elemN (s := 1) (x := x82) rfl g100.2.2 (Get.here _)).off (by omega))) ?_
        refine Lst.nil ?_
        refine At.hd inv (fun w h => (h.weaken (FLe.refl _)).sublist (sc1 (.refl _))) ?_
        refine HdJ.step [12] (by kernel_rfl) rfl ?_
        refine HdStep.c (fun inv => ?_) ?_
        ·have g102 := lat_some h86
         refine Lst.r (Ev.indexS (α := Str) (xs := l39) rfl rfl Try.runUnderlying50 Try.sizeOf9 rfl (by decide) (Rd.own (i := 0) rfl rfl rfl) g102.1 g102.2.1) ?_
         refine Lst.nil ?_
         refine At.hd inv (fun w h => (h.weaken (FLe.refl _)).sublist (sc1 (.refl _))) ?_
         refine HdJ.step [13] (by kernel_rfl) rfl ?_
         refine HdStep.c (fun inv => ?_) ?_
         ·refine Lst.storeS (i := 0) rfl rfl rfl rfl rfl Try.sizeOf9 (vs := [Str.v x79]) rfl rfl (by decide) rfl (xs' := encs p88) (by rw [← h89]; exact (Put.elemN (s := 1) (x := x85) rfl g102.2.2 (Put.here (vs := [Str.v x79]) rfl)).off (by omega)) (L' := (.own s_a0 9 1 (encs p88)) :: L) rfl ?_
          refine Lst.nil ?_
          refine At.hd inv (fun w h => (h.weaken (FLe.refl _)).sublist (sc1 (.refl _))) ?_
          refine HdJ.done (by kernel_rfl) ?_
          exact At.meetN p88 (FLe.refl _) ⟨rfl, rfl, rfl, rfl, rfl, rfl, rfl, trivial⟩ rfl h93
         exact trivial
        exact trivial
       exact trivial
      refine HdStep.c (fun inv => ?_) ?_
      ·refine Lst.r (Ev.loadS (α := Str) rfl (Rd.own (i := 0) rfl rfl rfl) Try.isAgg9 (v := Str.v x82) ((Get.elemN (s := 1) (x := x82) rfl g100.2.2 (Get.here _)).off (by omega))) ?_
       refine Lst.nil ?_
       refine At.hd inv (fun w h => (h.weaken (FLe.refl _)).sublist (sc1 (.refl _))) ?_
       refine HdJ.step [7] (by kernel_rfl) rfl ?_
       refine HdStep.c (fun inv => ?_) ?_
       ·refine Lst.r (Ev.loadS (α := Str) rfl (Rd.own (i := 0) rfl rfl rfl) Try.isAgg9 (v := Str.v x79) ((Get.elemN (s := 1) (x := x79) rfl g101.2.2 (Get.here _)).off (by omega))) ?_
        refine Lst.nil ?_
        refine At.hd inv (fun w h => (h.weaken (FLe.refl _)).sublist (sc1 (.refl _))) ?_
        refine HdJ.step [12] (by kernel_rfl) rfl ?_
        refine HdStep.c (fun inv => ?_) ?_
        ·have g103 := lat_some h86
         refine Lst.r (Ev.indexS (α := Str) (xs := l39) rfl rfl Try.runUnderlying50 Try.sizeOf9 rfl (by decide) (Rd.own (i := 0) rfl rfl rfl) g103.1 g103.2.1) ?_
         refine Lst.nil ?_
         refine At.hd inv (fun w h => (h.weaken (FLe.refl _)).sublist (sc1 (.refl _))) ?_
         refine HdJ.step [13] (by kernel_rfl) rfl ?_
         refine HdStep.c (fun inv => ?_) ?_
         ·refine Lst.storeS (i := 0) rfl rfl rfl rfl rfl Try.sizeOf9 (vs := [Str.v x79]) rfl rfl (by decide) rfl (xs' := encs p88) (by rw [← h89]; exact (Put.elemN (s := 1) (x := x85) rfl g103.2.2 (Put.here (vs := [Str.v x79]) rfl)).off (by omega)) (L' := (.own s_a0 9 1 (encs p88)) :: L) rfl ?_
          refine Lst.nil ?_
          refine At.hd inv (fun w h => (h.weaken (FLe.refl _)).sublist (sc1 (.refl _))) ?_
          refine HdJ.done (by kernel_rfl) ?_
          exact At.meetN p88 (FLe.refl _) ⟨rfl, rfl, rfl, rfl, rfl, rfl, rfl, trivial⟩ rfl h93
         exact trivial
        exact trivial
       exact trivial
      exact trivial
     refine HdStep.c (fun inv => ?_) ?_
     ·refine Lst.r (Ev.loadS (α := Str) rfl (Rd.own (i := 0) rfl rfl rfl) Try.isAgg9 (v := Str.v x82) ((Get.elemN (s := 1) (x := x82) rfl g100.2.2 (Get.here _)).off (by omega))) ?_
      refine Lst.nil ?_
      refine At.hd inv (fun w h => (h.weaken (FLe.refl _)).sublist (sc1 (.refl _))) ?_
      refine HdJ.step [6] (by kernel_rfl) rfl ?_
      refine HdStep.c (fun inv => ?_) ?_
      ·have g104 := lat_some h80
       refine Lst.r (Ev.indexS (α := Str) (xs := l39) rfl rfl Try.runUnderlying50 Try.sizeOf9 rfl (by decide) (Rd.own (i := 0) rfl rfl rfl) g104.1 g104.2.1) ?_
       refine Lst.nil ?_
       refine At.hd inv (fun w h => (h.weaken (FLe.refl _)).sublist (sc1 (.refl _))) ?_
       refine HdJ.step [7] (by kernel_rfl) rfl ?_
       refine HdStep.c (fun inv => ?_) ?_
       ·refine Lst.r (Ev.loadS (α := Str) rfl (Rd.own (i := 0) rfl rfl rfl) Try.isAgg9 (v := Str.v x79) ((Get.elemN (s := 1) (x := x79) rfl g104.2.2 (Get.here _)).off (by omega))) ?_
        refine Lst.nil ?_
        refine At.hd inv (fun w h => (h.weaken (FLe.refl _)).sublist (sc1 (.refl _))) ?_
        refine HdJ.step [12] (by kernel_rfl) rfl ?_
        refine HdStep.c (fun inv => ?_) ?_
        ·have g105 := lat_some h86
         refine Lst.r (Ev.indexS (α := Str) (xs := l39) rfl rfl Try.runUnderlying50 Try.sizeOf9 rfl (by decide) (Rd.own (i := 0) rfl rfl rfl) g105.1 g105.2.1) ?_
         refine Lst.nil ?_
         refine At.hd inv (fun w h => (h.weaken (FLe.refl _)).sublist (sc1 (.refl _))) ?_
         refine HdJ.step [13] (by kernel_rfl) rfl ?_
         refine HdStep.c (fun inv => ?_) ?_
         ·refine Lst.storeS (i := 0) rfl rfl rfl rfl rfl Try.sizeOf9 (vs := [Str.v x79]) rfl rfl (by decide) rfl (xs' := encs p88) (by rw [← h89]; exact (Put.elemN (s := 1) (x := x85) rfl g105.2.2 (Put.here (vs := [Str.v x79]) rfl)).off (by omega)) (L' := (.own s_a0 9 1 (encs p88)) :: L) rfl ?_
          refine Lst.nil ?_
          refine At.hd inv (fun w h => (h.weaken (FLe.refl _)).sublist (sc1 (.refl _))) ?_
          refine HdJ.done (by kernel_rfl) ?_
          exact At.meetN p88 (FLe.refl _) ⟨rfl, rfl, rfl, rfl, rfl, rfl, rfl, trivial⟩ rfl h93
         exact trivial
        exact trivial
       exact trivial
      exact trivial
     exact trivial
    exact trivial
   rintro F106 l91 hF107 hy
   subst hy
   refine Lst.as (e' := [(0, Sl.v s_a0), (1, iv a1), (9, iv y43), (10, iv y61), (67, Sl.v s_a0), (68, iv y61), (76, Str.v x82)]) (L' := (.own s_a0 9 1 (encs l91)) :: L) ⟨rfl, rfl, rfl, rfl, rfl, rfl, rfl, trivial⟩ rfl ?_
   obtain ⟨x108, h109, H⟩ := bind_some H
   have g110 := lat_some h109
   refine Lst.r (Ev.indexS (α := Str) (xs := l91) rfl rfl Try.runUnderlying50 Try.sizeOf9 rfl (by decide) (Rd.own (i := 0) rfl rfl rfl) g110.1 g110.2.1) ?_
   obtain ⟨p111, h112, H⟩ := Let_some H
   refine Lst.storeS (i := 0) rfl rfl rfl rfl rfl Try.sizeOf9 (vs := [Str.v x82]) rfl rfl (by decide) rfl (xs' := encs p111) (by rw [← h112]; exact (Put.elemN (s := 1) (x := x108) rfl g110.2.2 (Put.here (vs := [Str.v x82]) rfl)).off (by omega)) (L' := (.own s_a0 9 1 (encs p111)) :: L) rfl ?_
   refine Lst.nil ?_
   refine At.then ?_
   refine Cd.seq ?_
   refine Cd.region ?_
   refine Lst.r (Ev.move rfl) ?_
   refine Lst.r (Ev.add rfl rfl) ?_
   refine Lst.r (Ev.assign rfl) ?_
   refine Lst.nil ?_
   refine At.then ?_
   refine Cd.region ?_
   refine Lst.r (Ev.move rfl) ?_
   refine Lst.r (Ev.sub rfl rfl) ?_
   refine Lst.r (Ev.assign rfl) ?_
   refine Lst.nil ?_
   refine At.in_normal ?_
   exact At.meet (k36, w64 (y43 + (1 : Int)), w64 (y61 - (1 : Int)), p111) (FLe.trans (FLe.trans (FLe.trans hF41 hF45) hF63) hF107) ⟨rfl, rfl, rfl, rfl, trivial⟩ rfl ⟨hgo36 _ (some_inj H).symm, Nat.lt_succ_self _⟩
  replace H := ite_t hb77 H
  refine Cd.condT rfl hb77 ?_
  refine Cd.skip ?_
  refine At.then ?_
  refine Cd.block ?_
  refine Cd.region ?_
  refine Lst.r (Ev.move rfl) ?_
  refine Lst.r (Ev.sub rfl rfl) ?_
  refine Lst.r (Ev.assign rfl) ?_
  refine Lst.nil ?_
  refine At.in_normal ?_
  exact At.meet (k60, w64 (y61 - (1 : Int))) hF63 ⟨rfl, rfl, rfl, rfl, trivial⟩ rfl ⟨hgo60 _ (some_inj H).symm, Nat.lt_succ_self _⟩
 replace H := ite_t hb59 H
 refine Cd.condT rfl hb59 ?_
 refine Cd.skip ?_
 refine At.then ?_
 refine Cd.block ?_
 refine Cd.region ?_
 refine Lst.r (Ev.move rfl) ?_
 refine Lst.r (Ev.add rfl rfl) ?_
 refine Lst.r (Ev.assign rfl) ?_
 refine Lst.nil ?_
 refine At.in_normal ?_
 exact At.meet (k42, w64 (y43 + (1 : Int))) hF45 ⟨rfl, rfl, rfl, rfl, trivial⟩ rfl ⟨hgo42 _ (some_inj H).symm, Nat.lt_succ_self _⟩
end Go.Proofs.Ytnljiedichjagaa
