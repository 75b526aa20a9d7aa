/-
  The functions compute their specs; printed by a program.
-/
import Derived.Test.YtclmlddmgccfjaaStP1
namespace Go.Proofs.Ytclmlddmgccfjaa
open Go.RowKit Enc
set_option linter.unusedVariables false
set_option linter.unusedSimpArgs false
set_option maxRecDepth 20000 in
theorem slices_symMergeCmpFunc_int_Total_1_simR : ∀ (fu : Nat) {a0 : List Int} {a1 : Int} {a2 : Int} {a3 : Int} {a4_c0 : List Int} {a4_c1 : List Event} {s_a0 : Sl} {b_a4_c0 : Nat} {s_a4_c0 : Sl} {b_a4_c1 : Nat} {s_a4_c1 : Sl} {r : (List Int)} (H : slices_symMergeCmpFunc_int_Total_1 fu a0 a1 a2 a3 a4_c0 a4_c1 = some r) (w0 : World) (F : Frz) (M L : List Item) (hM : M.Sublist L) (hs_a4_c0 : Rd w0 F M s_a4_c0 a4_c0) (hs_a4_c1 : Rd w0 F M s_a4_c1 a4_c1), Ok Try.prog w0 74 [Sl.v s_a0, .int .i64 a1, .int .i64 a2, .int .i64 a3, .func (.func 48) #[] #[.pointer (some ⟨b_a4_c0, 0, none⟩), .pointer (some ⟨b_a4_c1, 0, none⟩)]] F ((.own s_a0 3 1 (encs a0)) :: (.blk b_a4_c0 (enc s_a4_c0) 36) :: (.blk b_a4_c1 (enc s_a4_c1) 24) :: L) (fun _ L' v => v = .tuple #[] ∧ L' = (.own s_a0 3 1 (encs r)) :: (.blk b_a4_c0 (enc s_a4_c0) 36) :: (.blk b_a4_c1 (enc s_a4_c1) 24) :: L) := by
  intro fu
  induction fu with
  | zero => intro a0 a1 a2 a3 a4_c0 a4_c1 s_a0 b_a4_c0 s_a4_c0 b_a4_c1 s_a4_c1 r H; exact nomatch (show (none : Option (List Int)) = some _ from H)
  | succ fu ih =>
    intro a0 a1 a2 a3 a4_c0 a4_c1 s_a0 b_a4_c0 s_a4_c0 b_a4_c1 s_a4_c1 r H w0 F M L hM hs_a4_c0 hs_a4_c1
    replace H : slices_symMergeCmpFunc_int_Total_1_R fu (slices_symMergeCmpFunc_int_Total_1 fu) a0 a1 a2 a3 a4_c0 a4_c1 = some r := H
    generalize slices_symMergeCmpFunc_int_Total_1 fu = rc at H ih
    unfold slices_symMergeCmpFunc_int_Total_1_R at H
    refine Ok.enter (m := 5) (n := 220) Try.func74 rfl rfl rfl (by decide) ?_
    refine Cd.env (e' := [(0, Sl.v s_a0), (1, .int .i64 a1), (2, .int .i64 a2), (3, .int .i64 a3), (4, .func (.func 48) #[] #[.pointer (some ⟨b_a4_c0, 0, none⟩), .pointer (some ⟨b_a4_c1, 0, none⟩)])]) rfl ?_
    refine Cd.seq ?_
    refine Cd.seq ?_
    refine Cd.region ?_
    refine Lst.run rfl rfl (by decide) (Ev.move rfl) ?_
    refine Lst.run rfl rfl (by decide) (Ev.move rfl) ?_
    refine Lst.run rfl rfl (by decide) (Ev.sub rfl rfl) ?_
    refine Lst.run rfl rfl (by decide) (Ev.eql rfl rfl) ?_
    refine Lst.nil ?_
    refine At.then ?_
    rcases Bool.eq_false_or_eq_true ((w64 (a2 - a1)) == (1 : Int)) with hb4 | hb4
    · replace H := ite_t hb4 H
      refine Cd.condT rfl hb4 ?_
      refine Cd.seq ?_
      refine Cd.region ?_
      refine Lst.run rfl rfl (by decide) (Ev.move rfl) ?_
      refine Lst.run rfl rfl (by decide) (Ev.assign rfl) ?_
      refine Lst.nil ?_
      refine At.then ?_
      refine Cd.seq ?_
      refine Cd.region ?_
      refine Lst.run rfl rfl (by decide) (Ev.move rfl) ?_
      refine Lst.run rfl rfl (by decide) (Ev.assign rfl) ?_
      refine Lst.nil ?_
      refine At.then ?_
      refine Cd.seq ?_
      refine Cd.block ?_
      obtain ⟨ol5, H, HKl5⟩ := andThen_some H
      refine Cd.loop (σ := Nat × Int × Int) (fun (k5, y6, y7) => [(0, Sl.v s_a0), (1, .int .i64 a1), (4, .func (.func 48) #[] #[.pointer (some ⟨b_a4_c0, 0, none⟩), .pointer (some ⟨b_a4_c1, 0, none⟩)]), (10, .int .i64 y6), (11, .int .i64 y7)]) (fun (k5, y6, y7) => (.own s_a0 3 1 (encs a0)) :: (.blk b_a4_c0 (enc s_a4_c0) 36) :: (.blk b_a4_c1 (enc s_a4_c1) 24) :: L) (fun _ => (fun (k5, y6, y7) => whileM (slices_symMergeCmpFunc_int_Total_1_B0 a0 a1 a4_c0 a4_c1) k5 (y6, y7) = some ol5)) (fun (k5, y6, y7) => k5) (fu, a2, a3) ⟨rfl, rfl, rfl, rfl, rfl, trivial⟩ rfl H ?_
      rintro F8 ⟨k5, y6, y7⟩ hF9 H
      refine Cd.as (e' := [(0, Sl.v s_a0), (1, .int .i64 a1), (4, .func (.func 48) #[] #[.pointer (some ⟨b_a4_c0, 0, none⟩), .pointer (some ⟨b_a4_c1, 0, none⟩)]), (10, .int .i64 y6), (11, .int .i64 y7)]) (L' := (.own s_a0 3 1 (encs a0)) :: (.blk b_a4_c0 (enc s_a4_c0) 36) :: (.blk b_a4_c1 (enc s_a4_c1) 24) :: L) ⟨rfl, rfl, rfl, rfl, rfl, trivial⟩ rfl ?_
      rcases k5 with _ | k5
      · cases H
      obtain ⟨c5, H, hgo5, hbrk5, hret5⟩ := whileM_go H
      unfold slices_symMergeCmpFunc_int_Total_1_B0 at H
      try dsimp only at H
      refine Cd.seq ?_
      refine Cd.seq ?_
      refine Cd.region ?_
      refine Lst.run rfl rfl (by decide) (Ev.move rfl) ?_
      refine Lst.run rfl rfl (by decide) (Ev.move rfl) ?_
      refine Lst.run rfl rfl (by decide) (Ev.lss rfl rfl) ?_
      refine Lst.nil ?_
      refine At.then ?_
      rcases (Bool.eq_false_or_eq_true (decide (y6 < y7))).symm with hb10 | hb10
      · replace H := ite_f hb10 H
        refine Cd.condF rfl hb10 ?_
        refine Cd.exit ?_
        refine At.then_exit ?_
        refine At.then_exit ?_
        refine At.in_exit ?_
        have H := hbrk5 _ (some_inj H).symm
        subst H
        replace H := HKl5
        refine At.then ?_
        refine Cd.seq ?_
        refine Cd.seq ?_
        refine Cd.region ?_
        refine Lst.run rfl rfl (by decide) (Ev.move rfl) ?_
        refine Lst.run rfl rfl (by decide) (Ev.assign rfl) ?_
        refine Lst.nil ?_
        refine At.then ?_
        refine Cd.block ?_
        obtain ⟨ol11, H, HKl11⟩ := andThen_some H
        refine Cd.loop (σ := Nat × Int × (List Int)) (fun (k11, y12, l13) => [(0, Sl.v s_a0), (10, .int .i64 y6), (13, .int .i64 y12)]) (fun (k11, y12, l13) => (.own s_a0 3 1 (encs l13)) :: (.blk b_a4_c0 (enc s_a4_c0) 36) :: (.blk b_a4_c1 (enc s_a4_c1) 24) :: L) (fun _ => (fun (k11, y12, l13) => whileM (slices_symMergeCmpFunc_int_Total_1_B2 y6) k11 (y12, l13) = some ol11)) (fun (k11, y12, l13) => k11) (fu, a1, a0) ⟨rfl, rfl, rfl, trivial⟩ rfl H ?_
        rintro F14 ⟨k11, y12, l13⟩ hF15 H
        refine Cd.as (e' := [(0, Sl.v s_a0), (10, .int .i64 y6), (13, .int .i64 y12)]) (L' := (.own s_a0 3 1 (encs l13)) :: (.blk b_a4_c0 (enc s_a4_c0) 36) :: (.blk b_a4_c1 (enc s_a4_c1) 24) :: L) ⟨rfl, rfl, rfl, trivial⟩ rfl ?_
        rcases k11 with _ | k11
        · cases H
        obtain ⟨c11, H, hgo11, hbrk11, hret11⟩ := whileM_go H
        unfold slices_symMergeCmpFunc_int_Total_1_B2 at H
        try dsimp only at H
        refine Cd.seq ?_
        refine Cd.seq ?_
        refine Cd.region ?_
        refine Lst.run rfl rfl (by decide) (Ev.move rfl) ?_
        refine Lst.run rfl rfl (by decide) (Ev.move rfl) ?_
        refine Lst.run rfl rfl (by decide) (Ev.sub rfl rfl) ?_
        refine Lst.run rfl rfl (by decide) (Ev.lss rfl rfl) ?_
        refine Lst.nil ?_
        refine At.then ?_
        rcases (Bool.eq_false_or_eq_true (decide (y12 < (w64 (y6 - (1 : Int)))))).symm with hb16 | hb16
        · replace H := ite_f hb16 H
          refine Cd.condF rfl hb16 ?_
          refine Cd.exit ?_
          refine At.then_exit ?_
          refine At.then_exit ?_
          refine At.in_exit ?_
          have H := hbrk11 _ (some_inj H).symm
          subst H
          replace H := HKl11
          refine At.then ?_
          obtain rfl := some_inj H
          refine Cd.ret ?_
          refine At.then_ret ?_
          exact At.ret0 (.inl rfl) rfl (FLe.trans hF9 hF15) (List.Sublist.cons_cons _ (List.Sublist.cons_cons _ (List.Sublist.cons_cons _ (List.Sublist.refl _)))) ⟨rfl, rfl⟩
        replace H := ite_t hb16 H
        refine Cd.condT rfl hb16 ?_
        refine Cd.skip ?_
        refine At.then ?_
        refine Cd.seq ?_
        refine Cd.block ?_
        obtain ⟨x17, h18, H⟩ := bind_some H
        obtain ⟨x20, h21, H⟩ := bind_some H
        obtain ⟨x23, h24, H⟩ := bind_some H
        obtain ⟨p26, h27, H⟩ := Let_some H
        obtain ⟨o30, h31, H⟩ := Let_some H
        refine Cd.headMeet (σ := (List Int)) 16 (fun l29 => [(0, Sl.v s_a0), (10, .int .i64 y6), (13, .int .i64 y12), (63, Sl.v s_a0), (65, .int .i64 (w64 (y12 + (1 : Int)))), (74, .int .i64 x20)]) (fun l29 => (.own s_a0 3 1 (encs l29)) :: (.blk b_a4_c0 (enc s_a4_c0) 36) :: (.blk b_a4_c1 (enc s_a4_c1) 24) :: L) (fun _ l29 => l29 = o30) (by kernel_rfl) (by kernel_rfl) (behind_sink (by kernel_rfl) (by kernel_rfl) (by kernel_rfl)) (by kernel_rfl) (fun hsel hlt => ?_) ?_
        · refine HdJ.keep (fun w => St w0 F14 ((.blk b_a4_c0 (enc s_a4_c0) 36) :: (.blk b_a4_c1 (enc s_a4_c1) 24) :: L) w) (fun w h => trivial) ?_
          refine HdJ.takeK hsel hlt 0 (fun w h => h.sublist (List.Sublist.cons _ (List.Sublist.cons_cons _ (List.Sublist.cons_cons _ (List.Sublist.refl _))))) rfl rfl (by decide) (by decide) (by kernel_rfl) (by kernel_rfl) rfl (Ev.move rfl) ?_
          refine HdJ.takeK hsel hlt 1 (fun w h => h.sublist (List.Sublist.cons _ (List.Sublist.cons_cons _ (List.Sublist.cons_cons _ (List.Sublist.refl _))))) rfl rfl (by decide) (by decide) (by kernel_rfl) (by kernel_rfl) rfl (Ev.move rfl) ?_
          refine HdJ.takeK hsel hlt 2 (fun w h => h.sublist (List.Sublist.cons _ (List.Sublist.cons_cons _ (List.Sublist.cons_cons _ (List.Sublist.refl _))))) rfl rfl (by decide) (by decide) (by kernel_rfl) (by kernel_rfl) rfl (Ev.move rfl) ?_
          refine HdJ.takeK hsel hlt 3 (fun w h => h.sublist (List.Sublist.cons _ (List.Sublist.cons_cons _ (List.Sublist.cons_cons _ (List.Sublist.refl _))))) rfl rfl (by decide) (by decide) (by kernel_rfl) (by kernel_rfl) rfl (Ev.move rfl) ?_
          refine HdJ.takeK hsel hlt 4 (fun w h => h.sublist (List.Sublist.cons _ (List.Sublist.cons_cons _ (List.Sublist.cons_cons _ (List.Sublist.refl _))))) rfl rfl (by decide) (by decide) (by kernel_rfl) (by kernel_rfl) rfl (Ev.add rfl rfl) ?_
          refine HdJ.takeK hsel hlt 5 (fun w h => h.sublist (List.Sublist.cons _ (List.Sublist.cons_cons _ (List.Sublist.cons_cons _ (List.Sublist.refl _))))) rfl rfl (by decide) (by decide) (by kernel_rfl) (by kernel_rfl) rfl (Ev.move rfl) ?_
          refine HdJ.takeK hsel hlt 6 (fun w h => h.sublist (List.Sublist.cons _ (List.Sublist.cons_cons _ (List.Sublist.cons_cons _ (List.Sublist.refl _))))) rfl rfl (by decide) (by decide) (by kernel_rfl) (by kernel_rfl) rfl (Ev.move rfl) ?_
          refine HdJ.takeK hsel hlt 7 (fun w h => h.sublist (List.Sublist.cons _ (List.Sublist.cons_cons _ (List.Sublist.cons_cons _ (List.Sublist.refl _))))) rfl rfl (by decide) (by decide) (by kernel_rfl) (by kernel_rfl) rfl (Ev.add rfl rfl) ?_
          refine HdJ.takeK hsel hlt 10 (fun w h => h.sublist (List.Sublist.cons _ (List.Sublist.cons_cons _ (List.Sublist.cons_cons _ (List.Sublist.refl _))))) rfl rfl (by decide) (by decide) (by kernel_rfl) (by kernel_rfl) rfl (Ev.move rfl) ?_
          refine HdJ.takeK hsel hlt 11 (fun w h => h.sublist (List.Sublist.cons _ (List.Sublist.cons_cons _ (List.Sublist.cons_cons _ (List.Sublist.refl _))))) rfl rfl (by decide) (by decide) (by kernel_rfl) (by kernel_rfl) rfl (Ev.move rfl) ?_
          refine HdJ.step [8, 12] (by kernel_rfl) rfl ?_
          refine HdStep.cons (by decide) rfl (fun inv => ?_) ?_
          · have g32 := lat_some h18
            refine Lst.run rfl rfl (by decide) (Ev.indexS (α := Int) (xs := l13) rfl rfl Try.runUnderlying36 Try.sizeOf3 rfl (by decide) (Rd.own (i := 0) rfl rfl rfl) g32.1 g32.2.1) ?_
            refine Lst.nil ?_
            refine At.hd inv (fun w h => (h.weaken (FLe.refl _)).sublist (List.Sublist.cons _ (List.Sublist.cons_cons _ (List.Sublist.cons_cons _ (List.Sublist.refl _))))) ?_
            refine HdJ.step [9, 12] (by kernel_rfl) rfl ?_
            refine HdStep.cons (by decide) rfl (fun inv => ?_) ?_
            · refine Lst.run rfl rfl (by decide) (Ev.loadS (α := Int) rfl (Rd.own (i := 0) rfl rfl rfl) Try.isAgg3 (v := .int .i64 x17) ((Get.elemN (s := 1) (x := x17) rfl g32.2.2 (Get.here _)).off (by omega))) ?_
              refine Lst.nil ?_
              refine At.hd inv (fun w h => (h.weaken (FLe.refl _)).sublist (List.Sublist.cons _ (List.Sublist.cons_cons _ (List.Sublist.cons_cons _ (List.Sublist.refl _))))) ?_
              refine HdJ.step [12] (by kernel_rfl) rfl ?_
              refine HdStep.cons (by decide) rfl (fun inv => ?_) ?_
              · have g33 := lat_some h21
                refine Lst.run rfl rfl (by decide) (Ev.indexS (α := Int) (xs := l13) rfl rfl Try.runUnderlying36 Try.sizeOf3 rfl (by decide) (Rd.own (i := 0) rfl rfl rfl) g33.1 g33.2.1) ?_
                refine Lst.nil ?_
                refine At.hd inv (fun w h => (h.weaken (FLe.refl _)).sublist (List.Sublist.cons _ (List.Sublist.cons_cons _ (List.Sublist.cons_cons _ (List.Sublist.refl _))))) ?_
                refine HdJ.step [13] (by kernel_rfl) rfl ?_
                refine HdStep.cons (by decide) rfl (fun inv => ?_) ?_
                · refine Lst.run rfl rfl (by decide) (Ev.loadS (α := Int) rfl (Rd.own (i := 0) rfl rfl rfl) Try.isAgg3 (v := .int .i64 x20) ((Get.elemN (s := 1) (x := x20) rfl g33.2.2 (Get.here _)).off (by omega))) ?_
                  refine Lst.nil ?_
                  refine At.hd inv (fun w h => (h.weaken (FLe.refl _)).sublist (List.Sublist.cons _ (List.Sublist.cons_cons _ (List.Sublist.cons_cons _ (List.Sublist.refl _))))) ?_
                  refine HdJ.step [14] (by kernel_rfl) rfl ?_
                  refine HdStep.cons (by decide) rfl (fun inv => ?_) ?_
                  · have g34 := lat_some h24
                    refine Lst.run rfl rfl (by decide) (Ev.indexS (α := Int) (xs := l13) rfl rfl Try.runUnderlying36 Try.sizeOf3 rfl (by decide) (Rd.own (i := 0) rfl rfl rfl) g34.1 g34.2.1) ?_
                    refine Lst.nil ?_
                    refine At.hd inv (fun w h => (h.weaken (FLe.refl _)).sublist (List.Sublist.cons _ (List.Sublist.cons_cons _ (List.Sublist.cons_cons _ (List.Sublist.refl _))))) ?_
                    refine HdJ.step [15] (by kernel_rfl) rfl ?_
                    refine HdStep.cons (by decide) rfl (fun inv => ?_) ?_
                    · refine Lst.storeS (i := 0) rfl rfl rfl rfl rfl Try.sizeOf3 (vs := [.int .i64 x17]) rfl rfl (by decide) rfl (xs' := encs p26) (by rw [← h27]; exact (Put.elemN (s := 1) (x := x23) rfl g34.2.2 (Put.here (vs := [.int .i64 x17]) rfl)).off (by omega)) (L' := (.own s_a0 3 1 (encs p26)) :: (.blk b_a4_c0 (enc s_a4_c0) 36) :: (.blk b_a4_c1 (enc s_a4_c1) 24) :: L) rfl ?_
                      refine Lst.nil ?_
                      refine At.hd inv (fun w h => (h.weaken (FLe.refl _)).sublist (List.Sublist.cons _ (List.Sublist.cons_cons _ (List.Sublist.cons_cons _ (List.Sublist.refl _))))) ?_
                      refine HdJ.done (by kernel_rfl) ?_
                      exact At.meetN p26 (FLe.refl _) ⟨rfl, rfl, rfl, rfl, rfl, rfl, trivial⟩ rfl h31
                    exact trivial
                  exact trivial
                exact trivial
              exact trivial
            refine HdStep.cons (by decide) rfl (fun inv => ?_) ?_
            · have g35 := lat_some h21
              refine Lst.run rfl rfl (by decide) (Ev.indexS (α := Int) (xs := l13) rfl rfl Try.runUnderlying36 Try.sizeOf3 rfl (by decide) (Rd.own (i := 0) rfl rfl rfl) g35.1 g35.2.1) ?_
              refine Lst.nil ?_
              refine At.hd inv (fun w h => (h.weaken (FLe.refl _)).sublist (List.Sublist.cons _ (List.Sublist.cons_cons _ (List.Sublist.cons_cons _ (List.Sublist.refl _))))) ?_
              refine HdJ.step [9, 13] (by kernel_rfl) rfl ?_
              refine HdStep.cons (by decide) rfl (fun inv => ?_) ?_
              · refine Lst.run rfl rfl (by decide) (Ev.loadS (α := Int) rfl (Rd.own (i := 0) rfl rfl rfl) Try.isAgg3 (v := .int .i64 x17) ((Get.elemN (s := 1) (x := x17) rfl g32.2.2 (Get.here _)).off (by omega))) ?_
                refine Lst.nil ?_
                refine At.hd inv (fun w h => (h.weaken (FLe.refl _)).sublist (List.Sublist.cons _ (List.Sublist.cons_cons _ (List.Sublist.cons_cons _ (List.Sublist.refl _))))) ?_
                refine HdJ.step [13] (by kernel_rfl) rfl ?_
                refine HdStep.cons (by decide) rfl (fun inv => ?_) ?_
                · refine Lst.run rfl rfl (by decide) (Ev.loadS (α := Int) rfl (Rd.own (i := 0) rfl rfl rfl) Try.isAgg3 (v := .int .i64 x20) ((Get.elemN (s := 1) (x := x20) rfl g35.2.2 (Get.here _)).off (by omega))) ?_
                  refine Lst.nil ?_
                  refine At.hd inv (fun w h => (h.weaken (FLe.refl _)).sublist (List.Sublist.cons _ (List.Sublist.cons_cons _ (List.Sublist.cons_cons _ (List.Sublist.refl _))))) ?_
                  refine HdJ.step [14] (by kernel_rfl) rfl ?_
                  refine HdStep.cons (by decide) rfl (fun inv => ?_) ?_
                  · have g36 := lat_some h24
                    refine Lst.run rfl rfl (by decide) (Ev.indexS (α := Int) (xs := l13) rfl rfl Try.runUnderlying36 Try.sizeOf3 rfl (by decide) (Rd.own (i := 0) rfl rfl rfl) g36.1 g36.2.1) ?_
                    refine Lst.nil ?_
                    refine At.hd inv (fun w h => (h.weaken (FLe.refl _)).sublist (List.Sublist.cons _ (List.Sublist.cons_cons _ (List.Sublist.cons_cons _ (List.Sublist.refl _))))) ?_
                    refine HdJ.step [15] (by kernel_rfl) rfl ?_
                    refine HdStep.cons (by decide) rfl (fun inv => ?_) ?_
                    · refine Lst.storeS (i := 0) rfl rfl rfl rfl rfl Try.sizeOf3 (vs := [.int .i64 x17]) rfl rfl (by decide) rfl (xs' := encs p26) (by rw [← h27]; exact (Put.elemN (s := 1) (x := x23) rfl g36.2.2 (Put.here (vs := [.int .i64 x17]) rfl)).off (by omega)) (L' := (.own s_a0 3 1 (encs p26)) :: (.blk b_a4_c0 (enc s_a4_c0) 36) :: (.blk b_a4_c1 (enc s_a4_c1) 24) :: L) rfl ?_
                      refine Lst.nil ?_
                      refine At.hd inv (fun w h => (h.weaken (FLe.refl _)).sublist (List.Sublist.cons _ (List.Sublist.cons_cons _ (List.Sublist.cons_cons _ (List.Sublist.refl _))))) ?_
                      refine HdJ.done (by kernel_rfl) ?_
                      exact At.meetN p26 (FLe.refl _) ⟨rfl, rfl, rfl, rfl, rfl, rfl, trivial⟩ rfl h31
                    exact trivial
                  exact trivial
                exact trivial
              refine HdStep.cons (by decide) rfl (fun inv => ?_) ?_
              · refine Lst.run rfl rfl (by decide) (Ev.loadS (α := Int) rfl (Rd.own (i := 0) rfl rfl rfl) Try.isAgg3 (v := .int .i64 x20) ((Get.elemN (s := 1) (x := x20) rfl g35.2.2 (Get.here _)).off (by omega))) ?_
                refine Lst.nil ?_
                refine At.hd inv (fun w h => (h.weaken (FLe.refl _)).sublist (List.Sublist.cons _ (List.Sublist.cons_cons _ (List.Sublist.cons_cons _ (List.Sublist.refl _))))) ?_
                refine HdJ.step [9] (by kernel_rfl) rfl ?_
                refine HdStep.cons (by decide) rfl (fun inv => ?_) ?_
                · refine Lst.run rfl rfl (by decide) (Ev.loadS (α := Int) rfl (Rd.own (i := 0) rfl rfl rfl) Try.isAgg3 (v := .int .i64 x17) ((Get.elemN (s := 1) (x := x17) rfl g32.2.2 (Get.here _)).off (by omega))) ?_
                  refine Lst.nil ?_
                  refine At.hd inv (fun w h => (h.weaken (FLe.refl _)).sublist (List.Sublist.cons _ (List.Sublist.cons_cons _ (List.Sublist.cons_cons _ (List.Sublist.refl _))))) ?_
                  refine HdJ.step [14] (by kernel_rfl) rfl ?_
                  refine HdStep.cons (by decide) rfl (fun inv => ?_) ?_
                  · have g37 := lat_some h24
                    refine Lst.run rfl rfl (by decide) (Ev.indexS (α := Int) (xs := l13) rfl rfl Try.runUnderlying36 Try.sizeOf3 rfl (by decide) (Rd.own (i := 0) rfl rfl rfl) g37.1 g37.2.1) ?_
                    refine Lst.nil ?_
                    refine At.hd inv (fun w h => (h.weaken (FLe.refl _)).sublist (List.Sublist.cons _ (List.Sublist.cons_cons _ (List.Sublist.cons_cons _ (List.Sublist.refl _))))) ?_
                    refine HdJ.step [15] (by kernel_rfl) rfl ?_
                    refine HdStep.cons (by decide) rfl (fun inv => ?_) ?_
                    · refine Lst.storeS (i := 0) rfl rfl rfl rfl rfl Try.sizeOf3 (vs := [.int .i64 x17]) rfl rfl (by decide) rfl (xs' := encs p26) (by rw [← h27]; exact (Put.elemN (s := 1) (x := x23) rfl g37.2.2 (Put.here (vs := [.int .i64 x17]) rfl)).off (by omega)) (L' := (.own s_a0 3 1 (encs p26)) :: (.blk b_a4_c0 (enc s_a4_c0) 36) :: (.blk b_a4_c1 (enc s_a4_c1) 24) :: L) rfl ?_
                      refine Lst.nil ?_
                      refine At.hd inv (fun w h => (h.weaken (FLe.refl _)).sublist (List.Sublist.cons _ (List.Sublist.cons_cons _ (List.Sublist.cons_cons _ (List.Sublist.refl _))))) ?_
                      refine HdJ.done (by kernel_rfl) ?_
                      exact At.meetN p26 (FLe.refl _) ⟨rfl, rfl, rfl, rfl, rfl, rfl, trivial⟩ rfl h31
                    exact trivial
                  exact trivial
                exact trivial
              exact trivial
            exact trivial
          refine HdStep.cons (by decide) rfl (fun inv => ?_) ?_
          · have g38 := lat_some h21
            refine Lst.run rfl rfl (by decide) (Ev.indexS (α := Int) (xs := l13) rfl rfl Try.runUnderlying36 Try.sizeOf3 rfl (by decide) (Rd.own (i := 0) rfl rfl rfl) g38.1 g38.2.1) ?_
            refine Lst.nil ?_
            refine At.hd inv (fun w h => (h.weaken (FLe.refl _)).sublist (List.Sublist.cons _ (List.Sublist.cons_cons _ (List.Sublist.cons_cons _ (List.Sublist.refl _))))) ?_
            refine HdJ.step [8, 13] (by kernel_rfl) rfl ?_
            refine HdStep.cons (by decide) rfl (fun inv => ?_) ?_
            · have g39 := lat_some h18
              refine Lst.run rfl rfl (by decide) (Ev.indexS (α := Int) (xs := l13) rfl rfl Try.runUnderlying36 Try.sizeOf3 rfl (by decide) (Rd.own (i := 0) rfl rfl rfl) g39.1 g39.2.1) ?_
              refine Lst.nil ?_
              refine At.hd inv (fun w h => (h.weaken (FLe.refl _)).sublist (List.Sublist.cons _ (List.Sublist.cons_cons _ (List.Sublist.cons_cons _ (List.Sublist.refl _))))) ?_
              refine HdJ.step [9, 13] (by kernel_rfl) rfl ?_
              refine HdStep.cons (by decide) rfl (fun inv => ?_) ?_
              · refine Lst.run rfl rfl (by decide) (Ev.loadS (α := Int) rfl (Rd.own (i := 0) rfl rfl rfl) Try.isAgg3 (v := .int .i64 x17) ((Get.elemN (s := 1) (x := x17) rfl g39.2.2 (Get.here _)).off (by omega))) ?_
                refine Lst.nil ?_
                refine At.hd inv (fun w h => (h.weaken (FLe.refl _)).sublist (List.Sublist.cons _ (List.Sublist.cons_cons _ (List.Sublist.cons_cons _ (List.Sublist.refl _))))) ?_
                refine HdJ.step [13] (by kernel_rfl) rfl ?_
                refine HdStep.cons (by decide) rfl (fun inv => ?_) ?_
                · refine Lst.run rfl rfl (by decide) (Ev.loadS (α := Int) rfl (Rd.own (i := 0) rfl rfl rfl) Try.isAgg3 (v := .int .i64 x20) ((Get.elemN (s := 1) (x := x20) rfl g38.2.2 (Get.here _)).off (by omega))) ?_
                  refine Lst.nil ?_
                  refine At.hd inv (fun w h => (h.weaken (FLe.refl _)).sublist (List.Sublist.cons _ (List.Sublist.cons_cons _ (List.Sublist.cons_cons _ (List.Sublist.refl _))))) ?_
                  refine HdJ.step [14] (by kernel_rfl) rfl ?_
                  refine HdStep.cons (by decide) rfl (fun inv => ?_) ?_
                  · have g40 := lat_some h24
                    refine Lst.run rfl rfl (by decide) (Ev.indexS (α := Int) (xs := l13) rfl rfl Try.runUnderlying36 Try.sizeOf3 rfl (by decide) (Rd.own (i := 0) rfl rfl rfl) g40.1 g40.2.1) ?_
                    refine Lst.nil ?_
                    refine At.hd inv (fun w h => (h.weaken (FLe.refl _)).sublist (List.Sublist.cons _ (List.Sublist.cons_cons _ (List.Sublist.cons_cons _ (List.Sublist.refl _))))) ?_
                    refine HdJ.step [15] (by kernel_rfl) rfl ?_
                    refine HdStep.cons (by decide) rfl (fun inv => ?_) ?_
                    · refine Lst.storeS (i := 0) rfl rfl rfl rfl rfl Try.sizeOf3 (vs := [.int .i64 x17]) rfl rfl (by decide) rfl (xs' := encs p26) (by rw [← h27]; exact (Put.elemN (s := 1) (x := x23) rfl g40.2.2 (Put.here (vs := [.int .i64 x17]) rfl)).off (by omega)) (L' := (.own s_a0 3 1 (encs p26)) :: (.blk b_a4_c0 (enc s_a4_c0) 36) :: (.blk b_a4_c1 (enc s_a4_c1) 24) :: L) rfl ?_
                      refine Lst.nil ?_
                      refine At.hd inv (fun w h => (h.weaken (FLe.refl _)).sublist (List.Sublist.cons _ (List.Sublist.cons_cons _ (List.Sublist.cons_cons _ (List.Sublist.refl _))))) ?_
                      refine HdJ.done (by kernel_rfl) ?_
                      exact At.meetN p26 (FLe.refl _) ⟨rfl, rfl, rfl, rfl, rfl, rfl, trivial⟩ rfl h31
                    exact trivial
                  exact trivial
                exact trivial
              refine HdStep.cons (by decide) rfl (fun inv => ?_) ?_
              · refine Lst.run rfl rfl (by decide) (Ev.loadS (α := Int) rfl (Rd.own (i := 0) rfl rfl rfl) Try.isAgg3 (v := .int .i64 x20) ((Get.elemN (s := 1) (x := x20) rfl g38.2.2 (Get.here _)).off (by omega))) ?_
                refine Lst.nil ?_
                refine At.hd inv (fun w h => (h.weaken (FLe.refl _)).sublist (List.Sublist.cons _ (List.Sublist.cons_cons _ (List.Sublist.cons_cons _ (List.Sublist.refl _))))) ?_
                refine HdJ.step [9] (by kernel_rfl) rfl ?_
                refine HdStep.cons (by decide) rfl (fun inv => ?_) ?_
                · refine Lst.run rfl rfl (by decide) (Ev.loadS (α := Int) rfl (Rd.own (i := 0) rfl rfl rfl) Try.isAgg3 (v := .int .i64 x17) ((Get.elemN (s := 1) (x := x17) rfl g39.2.2 (Get.here _)).off (by omega))) ?_
                  refine Lst.nil ?_
                  refine At.hd inv (fun w h => (h.weaken (FLe.refl _)).sublist (List.Sublist.cons _ (List.Sublist.cons_cons _ (List.Sublist.cons_cons _ (List.Sublist.refl _))))) ?_
                  refine HdJ.step [14] (by kernel_rfl) rfl ?_
                  refine HdStep.cons (by decide) rfl (fun inv => ?_) ?_
                  · have g41 := lat_some h24
                    refine Lst.run rfl rfl (by decide) (Ev.indexS (α := Int) (xs := l13) rfl rfl Try.runUnderlying36 Try.sizeOf3 rfl (by decide) (Rd.own (i := 0) rfl rfl rfl) g41.1 g41.2.1) ?_
                    refine Lst.nil ?_
                    refine At.hd inv (fun w h => (h.weaken (FLe.refl _)).sublist (List.Sublist.cons _ (List.Sublist.cons_cons _ (List.Sublist.cons_cons _ (List.Sublist.refl _))))) ?_
                    refine HdJ.step [15] (by kernel_rfl) rfl ?_
                    refine HdStep.cons (by decide) rfl (fun inv => ?_) ?_
                    · refine Lst.storeS (i := 0) rfl rfl rfl rfl rfl Try.sizeOf3 (vs := [.int .i64 x17]) rfl rfl (by decide) rfl (xs' := encs p26) (by rw [← h27]; exact (Put.elemN (s := 1) (x := x23) rfl g41.2.2 (Put.here (vs := [.int .i64 x17]) rfl)).off (by omega)) (L' := (.own s_a0 3 1 (encs p26)) :: (.blk b_a4_c0 (enc s_a4_c0) 36) :: (.blk b_a4_c1 (enc s_a4_c1) 24) :: L) rfl ?_
                      refine Lst.nil ?_
                      refine At.hd inv (fun w h => (h.weaken (FLe.refl _)).sublist (List.Sublist.cons _ (List.Sublist.cons_cons _ (List.Sublist.cons_cons _ (List.Sublist.refl _))))) ?_
                      refine HdJ.done (by kernel_rfl) ?_
                      exact At.meetN p26 (FLe.refl _) ⟨rfl, rfl, rfl, rfl, rfl, rfl, trivial⟩ rfl h31
                    exact trivial
                  exact trivial
                exact trivial
              exact trivial
            refine HdStep.cons (by decide) rfl (fun inv => ?_) ?_
            · refine Lst.run rfl rfl (by decide) (Ev.loadS (α := Int) rfl (Rd.own (i := 0) rfl rfl rfl) Try.isAgg3 (v := .int .i64 x20) ((Get.elemN (s := 1) (x := x20) rfl g38.2.2 (Get.here _)).off (by omega))) ?_
              refine Lst.nil ?_
              refine At.hd inv (fun w h => (h.weaken (FLe.refl _)).sublist (List.Sublist.cons _ (List.Sublist.cons_cons _ (List.Sublist.cons_cons _ (List.Sublist.refl _))))) ?_
              refine HdJ.step [8] (by kernel_rfl) rfl ?_
              refine HdStep.cons (by decide) rfl (fun inv => ?_) ?_
              · have g42 := lat_some h18
                refine Lst.run rfl rfl (by decide) (Ev.indexS (α := Int) (xs := l13) rfl rfl Try.runUnderlying36 Try.sizeOf3 rfl (by decide) (Rd.own (i := 0) rfl rfl rfl) g42.1 g42.2.1) ?_
                refine Lst.nil ?_
                refine At.hd inv (fun w h => (h.weaken (FLe.refl _)).sublist (List.Sublist.cons _ (List.Sublist.cons_cons _ (List.Sublist.cons_cons _ (List.Sublist.refl _))))) ?_
                refine HdJ.step [9] (by kernel_rfl) rfl ?_
                refine HdStep.cons (by decide) rfl (fun inv => ?_) ?_
                · refine Lst.run rfl rfl (by decide) (Ev.loadS (α := Int) rfl (Rd.own (i := 0) rfl rfl rfl) Try.isAgg3 (v := .int .i64 x17) ((Get.elemN (s := 1) (x := x17) rfl g42.2.2 (Get.here _)).off (by omega))) ?_
                  refine Lst.nil ?_
                  refine At.hd inv (fun w h => (h.weaken (FLe.refl _)).sublist (List.Sublist.cons _ (List.Sublist.cons_cons _ (List.Sublist.cons_cons _ (List.Sublist.refl _))))) ?_
                  refine HdJ.step [14] (by kernel_rfl) rfl ?_
                  refine HdStep.cons (by decide) rfl (fun inv => ?_) ?_
                  · have g43 := lat_some h24
                    refine Lst.run rfl rfl (by decide) (Ev.indexS (α := Int) (xs := l13) rfl rfl Try.runUnderlying36 Try.sizeOf3 rfl (by decide) (Rd.own (i := 0) rfl rfl rfl) g43.1 g43.2.1) ?_
                    refine Lst.nil ?_
                    refine At.hd inv (fun w h => (h.weaken (FLe.refl _)).sublist (List.Sublist.cons _ (List.Sublist.cons_cons _ (List.Sublist.cons_cons _ (List.Sublist.refl _))))) ?_
                    refine HdJ.step [15] (by kernel_rfl) rfl ?_
                    refine HdStep.cons (by decide) rfl (fun inv => ?_) ?_
                    · refine Lst.storeS (i := 0) rfl rfl rfl rfl rfl Try.sizeOf3 (vs := [.int .i64 x17]) rfl rfl (by decide) rfl (xs' := encs p26) (by rw [← h27]; exact (Put.elemN (s := 1) (x := x23) rfl g43.2.2 (Put.here (vs := [.int .i64 x17]) rfl)).off (by omega)) (L' := (.own s_a0 3 1 (encs p26)) :: (.blk b_a4_c0 (enc s_a4_c0) 36) :: (.blk b_a4_c1 (enc s_a4_c1) 24) :: L) rfl ?_
                      refine Lst.nil ?_
                      refine At.hd inv (fun w h => (h.weaken (FLe.refl _)).sublist (List.Sublist.cons _ (List.Sublist.cons_cons _ (List.Sublist.cons_cons _ (List.Sublist.refl _))))) ?_
                      refine HdJ.done (by kernel_rfl) ?_
                      exact At.meetN p26 (FLe.refl _) ⟨rfl, rfl, rfl, rfl, rfl, rfl, trivial⟩ rfl h31
                    exact trivial
                  exact trivial
                exact trivial
              exact trivial
            exact trivial
          exact trivial
        rintro F44 l29 hF45 hy
        subst hy
        refine Lst.as (e' := [(0, Sl.v s_a0), (10, .int .i64 y6), (13, .int .i64 y12), (63, Sl.v s_a0), (65, .int .i64 (w64 (y12 + (1 : Int)))), (74, .int .i64 x20)]) (L' := (.own s_a0 3 1 (encs l29)) :: (.blk b_a4_c0 (enc s_a4_c0) 36) :: (.blk b_a4_c1 (enc s_a4_c1) 24) :: L) ⟨rfl, rfl, rfl, rfl, rfl, rfl, trivial⟩ rfl ?_
        obtain ⟨x46, h47, H⟩ := bind_some H
        have g48 := lat_some h47
        refine Lst.run rfl rfl (by decide) (Ev.indexS (α := Int) (xs := l29) rfl rfl Try.runUnderlying36 Try.sizeOf3 rfl (by decide) (Rd.own (i := 0) rfl rfl rfl) g48.1 g48.2.1) ?_
        obtain ⟨p49, h50, H⟩ := Let_some H
        refine Lst.storeS (i := 0) rfl rfl rfl rfl rfl Try.sizeOf3 (vs := [.int .i64 x20]) rfl rfl (by decide) rfl (xs' := encs p49) (by rw [← h50]; exact (Put.elemN (s := 1) (x := x46) rfl g48.2.2 (Put.here (vs := [.int .i64 x20]) rfl)).off (by omega)) (L' := (.own s_a0 3 1 (encs p49)) :: (.blk b_a4_c0 (enc s_a4_c0) 36) :: (.blk b_a4_c1 (enc s_a4_c1) 24) :: L) rfl ?_
        refine Lst.nil ?_
        refine At.in_normal ?_
        refine At.then ?_
        refine Cd.region ?_
        refine Lst.run rfl rfl (by decide) (Ev.move rfl) ?_
        refine Lst.run rfl rfl (by decide) (Ev.add rfl rfl) ?_
        refine Lst.run rfl rfl (by decide) (Ev.assign rfl) ?_
        refine Lst.nil ?_
        exact At.meet (k11, w64 (y12 + (1 : Int)), p49) (FLe.trans hF15 hF45) ⟨rfl, rfl, rfl, trivial⟩ rfl ⟨hgo11 _ (some_inj H).symm, Nat.lt_succ_self _⟩
      replace H := ite_t hb10 H
      refine Cd.condT rfl hb10 ?_
      refine Cd.skip ?_
      refine At.then ?_
      refine Cd.block ?_
      refine Cd.seq ?_
      refine Cd.region ?_
      refine Lst.run rfl rfl (by decide) (Ev.move rfl) ?_
      refine Lst.run rfl rfl (by decide) (Ev.move rfl) ?_
      refine Lst.run rfl rfl (by decide) (Ev.add rfl rfl) ?_
      refine Lst.run rfl rfl (by decide) (Ev.convTo64 rfl Try.runUnderlying3 Try.runUnderlying119) ?_
      refine Lst.run rfl rfl (by decide) (Ev.shrU64 (i := BitVec.ofInt 64 (w64 (y6 + y7))) (m := 1) rfl rfl) ?_
      refine Lst.run rfl rfl (by decide) (Ev.conv64 rfl Try.runUnderlying119 Try.runUnderlying3) ?_
      refine Lst.run rfl rfl (by decide) (Ev.assign rfl) ?_
      refine Lst.nil ?_
      refine At.then ?_
      refine Cd.seq ?_
      refine Cd.quiet (by kernel_rfl) (by kernel_rfl) ?_
      refine Qt.run rfl rfl (by decide) (Ev.move rfl) ?_
      refine Qt.run rfl rfl (by decide) (Ev.move rfl) ?_
      refine Qt.run rfl rfl (by decide) (Ev.move rfl) ?_
      obtain ⟨x51, h52, H⟩ := bind_some H
      have g53 := lat_some h52
      refine Qt.run rfl rfl (by decide) (Ev.indexS (α := Int) (xs := a0) rfl rfl Try.runUnderlying36 Try.sizeOf3 rfl (by decide) (Rd.own (i := 0) rfl rfl rfl) g53.1 g53.2.1) ?_
      refine Qt.run rfl rfl (by decide) (Ev.loadS (α := Int) rfl (Rd.own (i := 0) rfl rfl rfl) Try.isAgg3 (v := .int .i64 x51) ((Get.elemN (s := 1) (x := x51) rfl g53.2.2 (Get.here _)).off (by omega))) ?_
      refine Qt.run rfl rfl (by decide) (Ev.move rfl) ?_
      refine Qt.run rfl rfl (by decide) (Ev.move rfl) ?_
      obtain ⟨x54, h55, H⟩ := bind_some H
      have g56 := lat_some h55
      refine Qt.run rfl rfl (by decide) (Ev.indexS (α := Int) (xs := a0) rfl rfl Try.runUnderlying36 Try.sizeOf3 rfl (by decide) (Rd.own (i := 0) rfl rfl rfl) g56.1 g56.2.1) ?_
      refine Qt.run rfl rfl (by decide) (Ev.loadS (α := Int) rfl (Rd.own (i := 0) rfl rfl rfl) Try.isAgg3 (v := .int .i64 x54) ((Get.elemN (s := 1) (x := x54) rfl g56.2.2 (Get.here _)).off (by omega))) ?_
      obtain ⟨r57, h58, H⟩ := bind_some H
      refine Qt.callV rfl rfl (by decide) (vs := [.int .i64 x51, .int .i64 x54]) (cs := [.pointer (some ⟨b_a4_c0, 0, none⟩), .pointer (some ⟨b_a4_c1, 0, none⟩)]) rfl ⟨rfl, rfl, trivial⟩ Try.call48 (Ok.isPerm (List.Perm.trans (front_perm (i := 2) rfl) (front_perm (i := 2) rfl)) (stamp_Total_1_sim h58 w0 _ M _ (List.Sublist.cons _ hM) (hs_a4_c0.mono hF9 (List.Sublist.refl _)) (hs_a4_c1.mono hF9 (List.Sublist.refl _)))) ?_
      refine Qt.run rfl rfl (by decide) (Ev.lss rfl rfl) ?_
      refine Qt.done ?_
      refine At.then ?_
      rcases (Bool.eq_false_or_eq_true (decide (r57 < (0 : Int)))).symm with hb61 | hb61
      · replace H := ite_f hb61 H
        refine Cd.condF rfl hb61 ?_
        refine Cd.as (e' := [(0, Sl.v s_a0), (1, .int .i64 a1), (4, .func (.func 48) #[] #[.pointer (some ⟨b_a4_c0, 0, none⟩), .pointer (some ⟨b_a4_c1, 0, none⟩)]), (10, .int .i64 y6), (12, .int .i64 (w64 (((BitVec.ofInt 64 (w64 (y6 + y7))) >>> 1).toNat : Int)))]) (L' := (.own s_a0 3 1 (encs a0)) :: (.blk b_a4_c0 (enc s_a4_c0) 36) :: (.blk b_a4_c1 (enc s_a4_c1) 24) :: L) ⟨rfl, rfl, rfl, rfl, rfl, trivial⟩ rfl ?_
        refine Cd.region ?_
        refine Lst.run rfl rfl (by decide) (Ev.move rfl) ?_
        refine Lst.run rfl rfl (by decide) (Ev.assign rfl) ?_
        refine Lst.nil ?_
        refine At.in_normal ?_
        exact At.meet (k5, y6, w64 (((BitVec.ofInt 64 (w64 (y6 + y7))) >>> 1).toNat : Int)) hF9 ⟨rfl, rfl, rfl, rfl, rfl, trivial⟩ rfl ⟨hgo5 _ (some_inj H).symm, Nat.lt_succ_self _⟩
      replace H := ite_t hb61 H
      refine Cd.condT rfl hb61 ?_
      refine Cd.as (e' := [(0, Sl.v s_a0), (1, .int .i64 a1), (4, .func (.func 48) #[] #[.pointer (some ⟨b_a4_c0, 0, none⟩), .pointer (some ⟨b_a4_c1, 0, none⟩)]), (11, .int .i64 y7), (12, .int .i64 (w64 (((BitVec.ofInt 64 (w64 (y6 + y7))) >>> 1).toNat : Int)))]) (L' := (.own s_a0 3 1 (encs a0)) :: (.blk b_a4_c0 (enc s_a4_c0) 36) :: (.blk b_a4_c1 (enc s_a4_c1) 24) :: L) ⟨rfl, rfl, rfl, rfl, rfl, trivial⟩ rfl ?_
      refine Cd.region ?_
      refine Lst.run rfl rfl (by decide) (Ev.move rfl) ?_
      refine Lst.run rfl rfl (by decide) (Ev.add rfl rfl) ?_
      refine Lst.run rfl rfl (by decide) (Ev.assign rfl) ?_
      refine Lst.nil ?_
      refine At.in_normal ?_
      exact At.meet (k5, w64 ((w64 (((BitVec.ofInt 64 (w64 (y6 + y7))) >>> 1).toNat : Int)) + (1 : Int)), y7) hF9 ⟨rfl, rfl, rfl, rfl, rfl, trivial⟩ rfl ⟨hgo5 _ (some_inj H).symm, Nat.lt_succ_self _⟩
    replace H := ite_f hb4 H
    refine Cd.condF rfl hb4 ?_
    refine Cd.skip ?_
    refine At.then ?_
    refine Cd.seq ?_
    refine Cd.seq ?_
    refine Cd.region ?_
    refine Lst.run rfl rfl (by decide) (Ev.move rfl) ?_
    refine Lst.run rfl rfl (by decide) (Ev.move rfl) ?_
    refine Lst.run rfl rfl (by decide) (Ev.sub rfl rfl) ?_
    refine Lst.run rfl rfl (by decide) (Ev.eql rfl rfl) ?_
    refine Lst.nil ?_
    refine At.then ?_
    rcases Bool.eq_false_or_eq_true ((w64 (a3 - a2)) == (1 : Int)) with hb62 | hb62
    · replace H := ite_t hb62 H
      refine Cd.condT rfl hb62 ?_
      refine Cd.seq ?_
      refine Cd.region ?_
      refine Lst.run rfl rfl (by decide) (Ev.move rfl) ?_
      refine Lst.run rfl rfl (by decide) (Ev.assign rfl) ?_
      refine Lst.nil ?_
      refine At.then ?_
      refine Cd.seq ?_
      refine Cd.region ?_
      refine Lst.run rfl rfl (by decide) (Ev.move rfl) ?_
      refine Lst.run rfl rfl (by decide) (Ev.assign rfl) ?_
      refine Lst.nil ?_
      refine At.then ?_
      refine Cd.seq ?_
      refine Cd.block ?_
      obtain ⟨ol63, H, HKl63⟩ := andThen_some H
      refine Cd.loop (σ := Nat × Int × Int) (fun (k63, y64, y65) => [(0, Sl.v s_a0), (2, .int .i64 a2), (4, .func (.func 48) #[] #[.pointer (some ⟨b_a4_c0, 0, none⟩), .pointer (some ⟨b_a4_c1, 0, none⟩)]), (14, .int .i64 y64), (15, .int .i64 y65)]) (fun (k63, y64, y65) => (.own s_a0 3 1 (encs a0)) :: (.blk b_a4_c0 (enc s_a4_c0) 36) :: (.blk b_a4_c1 (enc s_a4_c1) 24) :: L) (fun _ => (fun (k63, y64, y65) => whileM (slices_symMergeCmpFunc_int_Total_1_B4 a0 a2 a4_c0 a4_c1) k63 (y64, y65) = some ol63)) (fun (k63, y64, y65) => k63) (fu, a1, a2) ⟨rfl, rfl, rfl, rfl, rfl, trivial⟩ rfl H ?_
      rintro F66 ⟨k63, y64, y65⟩ hF67 H
      refine Cd.as (e' := [(0, Sl.v s_a0), (2, .int .i64 a2), (4, .func (.func 48) #[] #[.pointer (some ⟨b_a4_c0, 0, none⟩), .pointer (some ⟨b_a4_c1, 0, none⟩)]), (14, .int .i64 y64), (15, .int .i64 y65)]) (L' := (.own s_a0 3 1 (encs a0)) :: (.blk b_a4_c0 (enc s_a4_c0) 36) :: (.blk b_a4_c1 (enc s_a4_c1) 24) :: L) ⟨rfl, rfl, rfl, rfl, rfl, trivial⟩ rfl ?_
      rcases k63 with _ | k63
      · cases H
      obtain ⟨c63, H, hgo63, hbrk63, hret63⟩ := whileM_go H
      unfold slices_symMergeCmpFunc_int_Total_1_B4 at H
      try dsimp only at H
      refine Cd.seq ?_
      refine Cd.seq ?_
      refine Cd.region ?_
      refine Lst.run rfl rfl (by decide) (Ev.move rfl) ?_
      refine Lst.run rfl rfl (by decide) (Ev.move rfl) ?_
      refine Lst.run rfl rfl (by decide) (Ev.lss rfl rfl) ?_
      refine Lst.nil ?_
      refine At.then ?_
      rcases (Bool.eq_false_or_eq_true (decide (y64 < y65))).symm with hb68 | hb68
      · replace H := ite_f hb68 H
        refine Cd.condF rfl hb68 ?_
        refine Cd.exit ?_
        refine At.then_exit ?_
        refine At.then_exit ?_
        refine At.in_exit ?_
        have H := hbrk63 _ (some_inj H).symm
        subst H
        replace H := HKl63
        refine At.then ?_
        refine Cd.seq ?_
        refine Cd.seq ?_
        refine Cd.region ?_
        refine Lst.run rfl rfl (by decide) (Ev.move rfl) ?_
        refine Lst.run rfl rfl (by decide) (Ev.assign rfl) ?_
        refine Lst.nil ?_
        refine At.then ?_
        refine Cd.block ?_
        obtain ⟨ol69, H, HKl69⟩ := andThen_some H
        refine Cd.loop (σ := Nat × Int × (List Int)) (fun (k69, y70, l71) => [(0, Sl.v s_a0), (14, .int .i64 y64), (17, .int .i64 y70)]) (fun (k69, y70, l71) => (.own s_a0 3 1 (encs l71)) :: (.blk b_a4_c0 (enc s_a4_c0) 36) :: (.blk b_a4_c1 (enc s_a4_c1) 24) :: L) (fun _ => (fun (k69, y70, l71) => whileM (slices_symMergeCmpFunc_int_Total_1_B6 y64) k69 (y70, l71) = some ol69)) (fun (k69, y70, l71) => k69) (fu, a2, a0) ⟨rfl, rfl, rfl, trivial⟩ rfl H ?_
        rintro F72 ⟨k69, y70, l71⟩ hF73 H
        refine Cd.as (e' := [(0, Sl.v s_a0), (14, .int .i64 y64), (17, .int .i64 y70)]) (L' := (.own s_a0 3 1 (encs l71)) :: (.blk b_a4_c0 (enc s_a4_c0) 36) :: (.blk b_a4_c1 (enc s_a4_c1) 24) :: L) ⟨rfl, rfl, rfl, trivial⟩ rfl ?_
        rcases k69 with _ | k69
        · cases H
        obtain ⟨c69, H, hgo69, hbrk69, hret69⟩ := whileM_go H
        unfold slices_symMergeCmpFunc_int_Total_1_B6 at H
        try dsimp only at H
        refine Cd.seq ?_
        refine Cd.seq ?_
        refine Cd.region ?_
        refine Lst.run rfl rfl (by decide) (Ev.move rfl) ?_
        refine Lst.run rfl rfl (by decide) (Ev.move rfl) ?_
        refine Lst.run rfl rfl (by decide) (Ev.gtr rfl rfl) ?_
        refine Lst.nil ?_
        refine At.then ?_
        rcases (Bool.eq_false_or_eq_true (decide (y70 > y64))).symm with hb74 | hb74
        · replace H := ite_f hb74 H
          refine Cd.condF rfl hb74 ?_
          refine Cd.exit ?_
          refine At.then_exit ?_
          refine At.then_exit ?_
          refine At.in_exit ?_
          have H := hbrk69 _ (some_inj H).symm
          subst H
          replace H := HKl69
          refine At.then ?_
          obtain rfl := some_inj H
          refine Cd.ret ?_
          refine At.then_ret ?_
          exact At.ret0 (.inl rfl) rfl (FLe.trans hF67 hF73) (List.Sublist.cons_cons _ (List.Sublist.cons_cons _ (List.Sublist.cons_cons _ (List.Sublist.refl _)))) ⟨rfl, rfl⟩
        replace H := ite_t hb74 H
        refine Cd.condT rfl hb74 ?_
        refine Cd.skip ?_
        refine At.then ?_
        refine Cd.seq ?_
        refine Cd.block ?_
        obtain ⟨x75, h76, H⟩ := bind_some H
        obtain ⟨x78, h79, H⟩ := bind_some H
        obtain ⟨x81, h82, H⟩ := bind_some H
        obtain ⟨p84, h85, H⟩ := Let_some H
        obtain ⟨o88, h89, H⟩ := Let_some H
        refine Cd.headMeet (σ := (List Int)) 16 (fun l87 => [(0, Sl.v s_a0), (14, .int .i64 y64), (17, .int .i64 y70), (115, Sl.v s_a0), (117, .int .i64 (w64 (y70 - (1 : Int)))), (126, .int .i64 x78)]) (fun l87 => (.own s_a0 3 1 (encs l87)) :: (.blk b_a4_c0 (enc s_a4_c0) 36) :: (.blk b_a4_c1 (enc s_a4_c1) 24) :: L) (fun _ l87 => l87 = o88) (by kernel_rfl) (by kernel_rfl) (behind_sink (by kernel_rfl) (by kernel_rfl) (by kernel_rfl)) (by kernel_rfl) (fun hsel hlt => ?_) ?_
        · refine HdJ.keep (fun w => St w0 F72 ((.blk b_a4_c0 (enc s_a4_c0) 36) :: (.blk b_a4_c1 (enc s_a4_c1) 24) :: L) w) (fun w h => trivial) ?_
          refine HdJ.takeK hsel hlt 0 (fun w h => h.sublist (List.Sublist.cons _ (List.Sublist.cons_cons _ (List.Sublist.cons_cons _ (List.Sublist.refl _))))) rfl rfl (by decide) (by decide) (by kernel_rfl) (by kernel_rfl) rfl (Ev.move rfl) ?_
          refine HdJ.takeK hsel hlt 1 (fun w h => h.sublist (List.Sublist.cons _ (List.Sublist.cons_cons _ (List.Sublist.cons_cons _ (List.Sublist.refl _))))) rfl rfl (by decide) (by decide) (by kernel_rfl) (by kernel_rfl) rfl (Ev.move rfl) ?_
          refine HdJ.takeK hsel hlt 2 (fun w h => h.sublist (List.Sublist.cons _ (List.Sublist.cons_cons _ (List.Sublist.cons_cons _ (List.Sublist.refl _))))) rfl rfl (by decide) (by decide) (by kernel_rfl) (by kernel_rfl) rfl (Ev.move rfl) ?_
          refine HdJ.takeK hsel hlt 3 (fun w h => h.sublist (List.Sublist.cons _ (List.Sublist.cons_cons _ (List.Sublist.cons_cons _ (List.Sublist.refl _))))) rfl rfl (by decide) (by decide) (by kernel_rfl) (by kernel_rfl) rfl (Ev.move rfl) ?_
          refine HdJ.takeK hsel hlt 4 (fun w h => h.sublist (List.Sublist.cons _ (List.Sublist.cons_cons _ (List.Sublist.cons_cons _ (List.Sublist.refl _))))) rfl rfl (by decide) (by decide) (by kernel_rfl) (by kernel_rfl) rfl (Ev.sub rfl rfl) ?_
          refine HdJ.takeK hsel hlt 5 (fun w h => h.sublist (List.Sublist.cons _ (List.Sublist.cons_cons _ (List.Sublist.cons_cons _ (List.Sublist.refl _))))) rfl rfl (by decide) (by decide) (by kernel_rfl) (by kernel_rfl) rfl (Ev.move rfl) ?_
          refine HdJ.takeK hsel hlt 6 (fun w h => h.sublist (List.Sublist.cons _ (List.Sublist.cons_cons _ (List.Sublist.cons_cons _ (List.Sublist.refl _))))) rfl rfl (by decide) (by decide) (by kernel_rfl) (by kernel_rfl) rfl (Ev.move rfl) ?_
          refine HdJ.takeK hsel hlt 7 (fun w h => h.sublist (List.Sublist.cons _ (List.Sublist.cons_cons _ (List.Sublist.cons_cons _ (List.Sublist.refl _))))) rfl rfl (by decide) (by decide) (by kernel_rfl) (by kernel_rfl) rfl (Ev.sub rfl rfl) ?_
          refine HdJ.takeK hsel hlt 10 (fun w h => h.sublist (List.Sublist.cons _ (List.Sublist.cons_cons _ (List.Sublist.cons_cons _ (List.Sublist.refl _))))) rfl rfl (by decide) (by decide) (by kernel_rfl) (by kernel_rfl) rfl (Ev.move rfl) ?_
          refine HdJ.takeK hsel hlt 11 (fun w h => h.sublist (List.Sublist.cons _ (List.Sublist.cons_cons _ (List.Sublist.cons_cons _ (List.Sublist.refl _))))) rfl rfl (by decide) (by decide) (by kernel_rfl) (by kernel_rfl) rfl (Ev.move rfl) ?_
          refine HdJ.step [8, 12] (by kernel_rfl) rfl ?_
          refine HdStep.cons (by decide) rfl (fun inv => ?_) ?_
          · have g90 := lat_some h76
            refine Lst.run rfl rfl (by decide) (Ev.indexS (α := Int) (xs := l71) rfl rfl Try.runUnderlying36 Try.sizeOf3 rfl (by decide) (Rd.own (i := 0) rfl rfl rfl) g90.1 g90.2.1) ?_
            refine Lst.nil ?_
            refine At.hd inv (fun w h => (h.weaken (FLe.refl _)).sublist (List.Sublist.cons _ (List.Sublist.cons_cons _ (List.Sublist.cons_cons _ (List.Sublist.refl _))))) ?_
            refine HdJ.step [9, 12] (by kernel_rfl) rfl ?_
            refine HdStep.cons (by decide) rfl (fun inv => ?_) ?_
            · refine Lst.run rfl rfl (by decide) (Ev.loadS (α := Int) rfl (Rd.own (i := 0) rfl rfl rfl) Try.isAgg3 (v := .int .i64 x75) ((Get.elemN (s := 1) (x := x75) rfl g90.2.2 (Get.here _)).off (by omega))) ?_
              refine Lst.nil ?_
              refine At.hd inv (fun w h => (h.weaken (FLe.refl _)).sublist (List.Sublist.cons _ (List.Sublist.cons_cons _ (List.Sublist.cons_cons _ (List.Sublist.refl _))))) ?_
              refine HdJ.step [12] (by kernel_rfl) rfl ?_
              refine HdStep.cons (by decide) rfl (fun inv => ?_) ?_
              · have g91 := lat_some h79
                refine Lst.run rfl rfl (by decide) (Ev.indexS (α := Int) (xs := l71) rfl rfl Try.runUnderlying36 Try.sizeOf3 rfl (by decide) (Rd.own (i := 0) rfl rfl rfl) g91.1 g91.2.1) ?_
                refine Lst.nil ?_
                refine At.hd inv (fun w h => (h.weaken (FLe.refl _)).sublist (List.Sublist.cons _ (List.Sublist.cons_cons _ (List.Sublist.cons_cons _ (List.Sublist.refl _))))) ?_
                refine HdJ.step [13] (by kernel_rfl) rfl ?_
                refine HdStep.cons (by decide) rfl (fun inv => ?_) ?_
                · refine Lst.run rfl rfl (by decide) (Ev.loadS (α := Int) rfl (Rd.own (i := 0) rfl rfl rfl) Try.isAgg3 (v := .int .i64 x78) ((Get.elemN (s := 1) (x := x78) rfl g91.2.2 (Get.here _)).off (by omega))) ?_
                  refine Lst.nil ?_
                  refine At.hd inv (fun w h => (h.weaken (FLe.refl _)).sublist (List.Sublist.cons _ (List.Sublist.cons_cons _ (List.Sublist.cons_cons _ (List.Sublist.refl _))))) ?_
                  refine HdJ.step [14] (by kernel_rfl) rfl ?_
                  refine HdStep.cons (by decide) rfl (fun inv => ?_) ?_
                  · have g92 := lat_some h82
                    refine Lst.run rfl rfl (by decide) (Ev.indexS (α := Int) (xs := l71) rfl rfl Try.runUnderlying36 Try.sizeOf3 rfl (by decide) (Rd.own (i := 0) rfl rfl rfl) g92.1 g92.2.1) ?_
                    refine Lst.nil ?_
                    refine At.hd inv (fun w h => (h.weaken (FLe.refl _)).sublist (List.Sublist.cons _ (List.Sublist.cons_cons _ (List.Sublist.cons_cons _ (List.Sublist.refl _))))) ?_
                    refine HdJ.step [15] (by kernel_rfl) rfl ?_
                    refine HdStep.cons (by decide) rfl (fun inv => ?_) ?_
                    · refine Lst.storeS (i := 0) rfl rfl rfl rfl rfl Try.sizeOf3 (vs := [.int .i64 x75]) rfl rfl (by decide) rfl (xs' := encs p84) (by rw [← h85]; exact (Put.elemN (s := 1) (x := x81) rfl g92.2.2 (Put.here (vs := [.int .i64 x75]) rfl)).off (by omega)) (L' := (.own s_a0 3 1 (encs p84)) :: (.blk b_a4_c0 (enc s_a4_c0) 36) :: (.blk b_a4_c1 (enc s_a4_c1) 24) :: L) rfl ?_
                      refine Lst.nil ?_
                      refine At.hd inv (fun w h => (h.weaken (FLe.refl _)).sublist (List.Sublist.cons _ (List.Sublist.cons_cons _ (List.Sublist.cons_cons _ (List.Sublist.refl _))))) ?_
                      refine HdJ.done (by kernel_rfl) ?_
                      exact At.meetN p84 (FLe.refl _) ⟨rfl, rfl, rfl, rfl, rfl, rfl, trivial⟩ rfl h89
                    exact trivial
                  exact trivial
                exact trivial
              exact trivial
            refine HdStep.cons (by decide) rfl (fun inv => ?_) ?_
            · have g93 := lat_some h79
              refine Lst.run rfl rfl (by decide) (Ev.indexS (α := Int) (xs := l71) rfl rfl Try.runUnderlying36 Try.sizeOf3 rfl (by decide) (Rd.own (i := 0) rfl rfl rfl) g93.1 g93.2.1) ?_
              refine Lst.nil ?_
              refine At.hd inv (fun w h => (h.weaken (FLe.refl _)).sublist (List.Sublist.cons _ (List.Sublist.cons_cons _ (List.Sublist.cons_cons _ (List.Sublist.refl _))))) ?_
              refine HdJ.step [9, 13] (by kernel_rfl) rfl ?_
              refine HdStep.cons (by decide) rfl (fun inv => ?_) ?_
              · refine Lst.run rfl rfl (by decide) (Ev.loadS (α := Int) rfl (Rd.own (i := 0) rfl rfl rfl) Try.isAgg3 (v := .int .i64 x75) ((Get.elemN (s := 1) (x := x75) rfl g90.2.2 (Get.here _)).off (by omega))) ?_
                refine Lst.nil ?_
                refine At.hd inv (fun w h => (h.weaken (FLe.refl _)).sublist (List.Sublist.cons _ (List.Sublist.cons_cons _ (List.Sublist.cons_cons _ (List.Sublist.refl _))))) ?_
                refine HdJ.step [13] (by kernel_rfl) rfl ?_
                refine HdStep.cons (by decide) rfl (fun inv => ?_) ?_
                · refine Lst.run rfl rfl (by decide) (Ev.loadS (α := Int) rfl (Rd.own (i := 0) rfl rfl rfl) Try.isAgg3 (v := .int .i64 x78) ((Get.elemN (s := 1) (x := x78) rfl g93.2.2 (Get.here _)).off (by omega))) ?_
                  refine Lst.nil ?_
                  refine At.hd inv (fun w h => (h.weaken (FLe.refl _)).sublist (List.Sublist.cons _ (List.Sublist.cons_cons _ (List.Sublist.cons_cons _ (List.Sublist.refl _))))) ?_
                  refine HdJ.step [14] (by kernel_rfl) rfl ?_
                  refine HdStep.cons (by decide) rfl (fun inv => ?_) ?_
                  · have g94 := lat_some h82
                    refine Lst.run rfl rfl (by decide) (Ev.indexS (α := Int) (xs := l71) rfl rfl Try.runUnderlying36 Try.sizeOf3 rfl (by decide) (Rd.own (i := 0) rfl rfl rfl) g94.1 g94.2.1) ?_
                    refine Lst.nil ?_
                    refine At.hd inv (fun w h => (h.weaken (FLe.refl _)).sublist (List.Sublist.cons _ (List.Sublist.cons_cons _ (List.Sublist.cons_cons _ (List.Sublist.refl _))))) ?_
                    refine HdJ.step [15] (by kernel_rfl) rfl ?_
                    refine HdStep.cons (by decide) rfl (fun inv => ?_) ?_
                    · refine Lst.storeS (i := 0) rfl rfl rfl rfl rfl Try.sizeOf3 (vs := [.int .i64 x75]) rfl rfl (by decide) rfl (xs' := encs p84) (by rw [← h85]; exact (Put.elemN (s := 1) (x := x81) rfl g94.2.2 (Put.here (vs := [.int .i64 x75]) rfl)).off (by omega)) (L' := (.own s_a0 3 1 (encs p84)) :: (.blk b_a4_c0 (enc s_a4_c0) 36) :: (.blk b_a4_c1 (enc s_a4_c1) 24) :: L) rfl ?_
                      refine Lst.nil ?_
                      refine At.hd inv (fun w h => (h.weaken (FLe.refl _)).sublist (List.Sublist.cons _ (List.Sublist.cons_cons _ (List.Sublist.cons_cons _ (List.Sublist.refl _))))) ?_
                      refine HdJ.done (by kernel_rfl) ?_
                      exact At.meetN p84 (FLe.refl _) ⟨rfl, rfl, rfl, rfl, rfl, rfl, trivial⟩ rfl h89
                    exact trivial
                  exact trivial
                exact trivial
              refine HdStep.cons (by decide) rfl (fun inv => ?_) ?_
              · refine Lst.run rfl rfl (by decide) (Ev.loadS (α := Int) rfl (Rd.own (i := 0) rfl rfl rfl) Try.isAgg3 (v := .int .i64 x78) ((Get.elemN (s := 1) (x := x78) rfl g93.2.2 (Get.here _)).off (by omega))) ?_
                refine Lst.nil ?_
                refine At.hd inv (fun w h => (h.weaken (FLe.refl _)).sublist (List.Sublist.cons _ (List.Sublist.cons_cons _ (List.Sublist.cons_cons _ (List.Sublist.refl _))))) ?_
                refine HdJ.step [9] (by kernel_rfl) rfl ?_
                refine HdStep.cons (by decide) rfl (fun inv => ?_) ?_
                · refine Lst.run rfl rfl (by decide) (Ev.loadS (α := Int) rfl (Rd.own (i := 0) rfl rfl rfl) Try.isAgg3 (v := .int .i64 x75) ((Get.elemN (s := 1) (x := x75) rfl g90.2.2 (Get.here _)).off (by omega))) ?_
                  refine Lst.nil ?_
                  refine At.hd inv (fun w h => (h.weaken (FLe.refl _)).sublist (List.Sublist.cons _ (List.Sublist.cons_cons _ (List.Sublist.cons_cons _ (List.Sublist.refl _))))) ?_
                  refine HdJ.step [14] (by kernel_rfl) rfl ?_
                  refine HdStep.cons (by decide) rfl (fun inv => ?_) ?_
                  · have g95 := lat_some h82
                    refine Lst.run rfl rfl (by decide) (Ev.indexS (α := Int) (xs := l71) rfl rfl Try.runUnderlying36 Try.sizeOf3 rfl (by decide) (Rd.own (i := 0) rfl rfl rfl) g95.1 g95.2.1) ?_
                    refine Lst.nil ?_
                    refine At.hd inv (fun w h => (h.weaken (FLe.refl _)).sublist (List.Sublist.cons _ (List.Sublist.cons_cons _ (List.Sublist.cons_cons _ (List.Sublist.refl _))))) ?_
                    refine HdJ.step [15] (by kernel_rfl) rfl ?_
                    refine HdStep.cons (by decide) rfl (fun inv => ?_) ?_
                    · refine Lst.storeS (i := 0) rfl rfl rfl rfl rfl Try.sizeOf3 (vs := [.int .i64 x75]) rfl rfl (by decide) rfl (xs' := encs p84) (by rw [← h85]; exact (Put.elemN (s := 1) (x := x81) rfl g95.2.2 (Put.here (vs := [.int .i64 x75]) rfl)).off (by omega)) (L' := (.own s_a0 3 1 (encs p84)) :: (.blk b_a4_c0 (enc s_a4_c0) 36) :: (.blk b_a4_c1 (enc s_a4_c1) 24) :: L) rfl ?_
                      refine Lst.nil ?_
                      refine At.hd inv (fun w h => (h.weaken (FLe.refl _)).sublist (List.Sublist.cons _ (List.Sublist.cons_cons _ (List.Sublist.cons_cons _ (List.Sublist.refl _))))) ?_
                      refine HdJ.done (by kernel_rfl) ?_
                      exact At.meetN p84 (FLe.refl _) ⟨rfl, rfl, rfl, rfl, rfl, rfl, trivial⟩ rfl h89
                    exact trivial
                  exact trivial
                exact trivial
              exact trivial
            exact trivial
          refine HdStep.cons (by decide) rfl (fun inv => ?_) ?_
          · have g96 := lat_some h79
            refine Lst.run rfl rfl (by decide) (Ev.indexS (α := Int) (xs := l71) rfl rfl Try.runUnderlying36 Try.sizeOf3 rfl (by decide) (Rd.own (i := 0) rfl rfl rfl) g96.1 g96.2.1) ?_
            refine Lst.nil ?_
            refine At.hd inv (fun w h => (h.weaken (FLe.refl _)).sublist (List.Sublist.cons _ (List.Sublist.cons_cons _ (List.Sublist.cons_cons _ (List.Sublist.refl _))))) ?_
            refine HdJ.step [8, 13] (by kernel_rfl) rfl ?_
            refine HdStep.cons (by decide) rfl (fun inv => ?_) ?_
            · have g97 := lat_some h76
              refine Lst.run rfl rfl (by decide) (Ev.indexS (α := Int) (xs := l71) rfl rfl Try.runUnderlying36 Try.sizeOf3 rfl (by decide) (Rd.own (i := 0) rfl rfl rfl) g97.1 g97.2.1) ?_
              refine Lst.nil ?_
              refine At.hd inv (fun w h => (h.weaken (FLe.refl _)).sublist (List.Sublist.cons _ (List.Sublist.cons_cons _ (List.Sublist.cons_cons _ (List.Sublist.refl _))))) ?_
              refine HdJ.step [9, 13] (by kernel_rfl) rfl ?_
              refine HdStep.cons (by decide) rfl (fun inv => ?_) ?_
              · refine Lst.run rfl rfl (by decide) (Ev.loadS (α := Int) rfl (Rd.own (i := 0) rfl rfl rfl) Try.isAgg3 (v := .int .i64 x75) ((Get.elemN (s := 1) (x := x75) rfl g97.2.2 (Get.here _)).off (by omega))) ?_
                refine Lst.nil ?_
                refine At.hd inv (fun w h => (h.weaken (FLe.refl _)).sublist (List.Sublist.cons _ (List.Sublist.cons_cons _ (List.Sublist.cons_cons _ (List.Sublist.refl _))))) ?_
                refine HdJ.step [13] (by kernel_rfl) rfl ?_
                refine HdStep.cons (by decide) rfl (fun inv => ?_) ?_
                · refine Lst.run rfl rfl (by decide) (Ev.loadS (α := Int) rfl (Rd.own (i := 0) rfl rfl rfl) Try.isAgg3 (v := .int .i64 x78) ((Get.elemN (s := 1) (x := x78) rfl g96.2.2 (Get.here _)).off (by omega))) ?_
                  refine Lst.nil ?_
                  refine At.hd inv (fun w h => (h.weaken (FLe.refl _)).sublist (List.Sublist.cons _ (List.Sublist.cons_cons _ (List.Sublist.cons_cons _ (List.Sublist.refl _))))) ?_
                  refine HdJ.step [14] (by kernel_rfl) rfl ?_
                  refine HdStep.cons (by decide) rfl (fun inv => ?_) ?_
                  · have g98 := lat_some h82
                    refine Lst.run rfl rfl (by decide) (Ev.indexS (α := Int) (xs := l71) rfl rfl Try.runUnderlying36 Try.sizeOf3 rfl (by decide) (Rd.own (i := 0) rfl rfl rfl) g98.1 g98.2.1) ?_
                    refine Lst.nil ?_
                    refine At.hd inv (fun w h => (h.weaken (FLe.refl _)).sublist (List.Sublist.cons _ (List.Sublist.cons_cons _ (List.Sublist.cons_cons _ (List.Sublist.refl _))))) ?_
                    refine HdJ.step [15] (by kernel_rfl) rfl ?_
                    refine HdStep.cons (by decide) rfl (fun inv => ?_) ?_
                    · refine Lst.storeS (i := 0) rfl rfl rfl rfl rfl Try.sizeOf3 (vs := [.int .i64 x75]) rfl rfl (by decide) rfl (xs' := encs p84) (by rw [← h85]; exact (Put.elemN (s := 1) (x := x81) rfl g98.2.2 (Put.here (vs := [.int .i64 x75]) rfl)).off (by omega)) (L' := (.own s_a0 3 1 (encs p84)) :: (.blk b_a4_c0 (enc s_a4_c0) 36) :: (.blk b_a4_c1 (enc s_a4_c1) 24) :: L) rfl ?_
                      refine Lst.nil ?_
                      refine At.hd inv (fun w h => (h.weaken (FLe.refl _)).sublist (List.Sublist.cons _ (List.Sublist.cons_cons _ (List.Sublist.cons_cons _ (List.Sublist.refl _))))) ?_
                      refine HdJ.done (by kernel_rfl) ?_
                      exact At.meetN p84 (FLe.refl _) ⟨rfl, rfl, rfl, rfl, rfl, rfl, trivial⟩ rfl h89
                    exact trivial
                  exact trivial
                exact trivial
              refine HdStep.cons (by decide) rfl (fun inv => ?_) ?_
              · refine Lst.run rfl rfl (by decide) (Ev.loadS (α := Int) rfl (Rd.own (i := 0) rfl rfl rfl) Try.isAgg3 (v := .int .i64 x78) ((Get.elemN (s := 1) (x := x78) rfl g96.2.2 (Get.here _)).off (by omega))) ?_
                refine Lst.nil ?_
                refine At.hd inv (fun w h => (h.weaken (FLe.refl _)).sublist (List.Sublist.cons _ (List.Sublist.cons_cons _ (List.Sublist.cons_cons _ (List.Sublist.refl _))))) ?_
                refine HdJ.step [9] (by kernel_rfl) rfl ?_
                refine HdStep.cons (by decide) rfl (fun inv => ?_) ?_
                · refine Lst.run rfl rfl (by decide) (Ev.loadS (α := Int) rfl (Rd.own (i := 0) rfl rfl rfl) Try.isAgg3 (v := .int .i64 x75) ((Get.elemN (s := 1) (x := x75) rfl g97.2.2 (Get.here _)).off (by omega))) ?_
                  refine Lst.nil ?_
                  refine At.hd inv (fun w h => (h.weaken (FLe.refl _)).sublist (List.Sublist.cons _ (List.Sublist.cons_cons _ (List.Sublist.cons_cons _ (List.Sublist.refl _))))) ?_
                  refine HdJ.step [14] (by kernel_rfl) rfl ?_
                  refine HdStep.cons (by decide) rfl (fun inv => ?_) ?_
                  · have g99 := lat_some h82
                    refine Lst.run rfl rfl (by decide) (Ev.indexS (α := Int) (xs := l71) rfl rfl Try.runUnderlying36 Try.sizeOf3 rfl (by decide) (Rd.own (i := 0) rfl rfl rfl) g99.1 g99.2.1) ?_
                    refine Lst.nil ?_
                    refine At.hd inv (fun w h => (h.weaken (FLe.refl _)).sublist (List.Sublist.cons _ (List.Sublist.cons_cons _ (List.Sublist.cons_cons _ (List.Sublist.refl _))))) ?_
                    refine HdJ.step [15] (by kernel_rfl) rfl ?_
                    refine HdStep.cons (by decide) rfl (fun inv => ?_) ?_
                    · refine Lst.storeS (i := 0) rfl rfl rfl rfl rfl Try.sizeOf3 (vs := [.int .i64 x75]) rfl rfl (by decide) rfl (xs' := encs p84) (by rw [← h85]; exact (Put.elemN (s := 1) (x := x81) rfl g99.2.2 (Put.here (vs := [.int .i64 x75]) rfl)).off (by omega)) (L' := (.own s_a0 3 1 (encs p84)) :: (.blk b_a4_c0 (enc s_a4_c0) 36) :: (.blk b_a4_c1 (enc s_a4_c1) 24) :: L) rfl ?_
                      refine Lst.nil ?_
                      refine At.hd inv (fun w h => (h.weaken (FLe.refl _)).sublist (List.Sublist.cons _ (List.Sublist.cons_cons _ (List.Sublist.cons_cons _ (List.Sublist.refl _))))) ?_
                      refine HdJ.done (by kernel_rfl) ?_
                      exact At.meetN p84 (FLe.refl _) ⟨rfl, rfl, rfl, rfl, rfl, rfl, trivial⟩ rfl h89
                    exact trivial
                  exact trivial
                exact trivial
              exact trivial
            refine HdStep.cons (by decide) rfl (fun inv => ?_) ?_
            · refine Lst.run rfl rfl (by decide) (Ev.loadS (α := Int) rfl (Rd.own (i := 0) rfl rfl rfl) Try.isAgg3 (v := .int .i64 x78) ((Get.elemN (s := 1) (x := x78) rfl g96.2.2 (Get.here _)).off (by omega))) ?_
              refine Lst.nil ?_
              refine At.hd inv (fun w h => (h.weaken (FLe.refl _)).sublist (List.Sublist.cons _ (List.Sublist.cons_cons _ (List.Sublist.cons_cons _ (List.Sublist.refl _))))) ?_
              refine HdJ.step [8] (by kernel_rfl) rfl ?_
              refine HdStep.cons (by decide) rfl (fun inv => ?_) ?_
              · have g100 := lat_some h76
                refine Lst.run rfl rfl (by decide) (Ev.indexS (α := Int) (xs := l71) rfl rfl Try.runUnderlying36 Try.sizeOf3 rfl (by decide) (Rd.own (i := 0) rfl rfl rfl) g100.1 g100.2.1) ?_
                refine Lst.nil ?_
                refine At.hd inv (fun w h => (h.weaken (FLe.refl _)).sublist (List.Sublist.cons _ (List.Sublist.cons_cons _ (List.Sublist.cons_cons _ (List.Sublist.refl _))))) ?_
                refine HdJ.step [9] (by kernel_rfl) rfl ?_
                refine HdStep.cons (by decide) rfl (fun inv => ?_) ?_
                · refine Lst.run rfl rfl (by decide) (Ev.loadS (α := Int) rfl (Rd.own (i := 0) rfl rfl rfl) Try.isAgg3 (v := .int .i64 x75) ((Get.elemN (s := 1) (x := x75) rfl g100.2.2 (Get.here _)).off (by omega))) ?_
                  refine Lst.nil ?_
                  refine At.hd inv (fun w h => (h.weaken (FLe.refl _)).sublist (List.Sublist.cons _ (List.Sublist.cons_cons _ (List.Sublist.cons_cons _ (List.Sublist.refl _))))) ?_
                  refine HdJ.step [14] (by kernel_rfl) rfl ?_
                  refine HdStep.cons (by decide) rfl (fun inv => ?_) ?_
                  · have g101 := lat_some h82
                    refine Lst.run rfl rfl (by decide) (Ev.indexS (α := Int) (xs := l71) rfl rfl Try.runUnderlying36 Try.sizeOf3 rfl (by decide) (Rd.own (i := 0) rfl rfl rfl) g101.1 g101.2.1) ?_
                    refine Lst.nil ?_
                    refine At.hd inv (fun w h => (h.weaken (FLe.refl _)).sublist (List.Sublist.cons _ (List.Sublist.cons_cons _ (List.Sublist.cons_cons _ (List.Sublist.refl _))))) ?_
                    refine HdJ.step [15] (by kernel_rfl) rfl ?_
                    refine HdStep.cons (by decide) rfl (fun inv => ?_) ?_
                    · refine Lst.storeS (i := 0) rfl rfl rfl rfl rfl Try.sizeOf3 (vs := [.int .i64 x75]) rfl rfl (by decide) rfl (xs' := encs p84) (by rw [← h85]; exact (Put.elemN (s := 1) (x := x81) rfl g101.2.2 (Put.here (vs := [.int .i64 x75]) rfl)).off (by omega)) (L' := (.own s_a0 3 1 (encs p84)) :: (.blk b_a4_c0 (enc s_a4_c0) 36) :: (.blk b_a4_c1 (enc s_a4_c1) 24) :: L) rfl ?_
                      refine Lst.nil ?_
                      refine At.hd inv (fun w h => (h.weaken (FLe.refl _)).sublist (List.Sublist.cons _ (List.Sublist.cons_cons _ (List.Sublist.cons_cons _ (List.Sublist.refl _))))) ?_
                      refine HdJ.done (by kernel_rfl) ?_
                      exact At.meetN p84 (FLe.refl _) ⟨rfl, rfl, rfl, rfl, rfl, rfl, trivial⟩ rfl h89
                    exact trivial
                  exact trivial
                exact trivial
              exact trivial
            exact trivial
          exact trivial
        rintro F102 l87 hF103 hy
        subst hy
        refine Lst.as (e' := [(0, Sl.v s_a0), (14, .int .i64 y64), (17, .int .i64 y70), (115, Sl.v s_a0), (117, .int .i64 (w64 (y70 - (1 : Int)))), (126, .int .i64 x78)]) (L' := (.own s_a0 3 1 (encs l87)) :: (.blk b_a4_c0 (enc s_a4_c0) 36) :: (.blk b_a4_c1 (enc s_a4_c1) 24) :: L) ⟨rfl, rfl, rfl, rfl, rfl, rfl, trivial⟩ rfl ?_
        obtain ⟨x104, h105, H⟩ := bind_some H
        have g106 := lat_some h105
        refine Lst.run rfl rfl (by decide) (Ev.indexS (α := Int) (xs := l87) rfl rfl Try.runUnderlying36 Try.sizeOf3 rfl (by decide) (Rd.own (i := 0) rfl rfl rfl) g106.1 g106.2.1) ?_
        obtain ⟨p107, h108, H⟩ := Let_some H
        refine Lst.storeS (i := 0) rfl rfl rfl rfl rfl Try.sizeOf3 (vs := [.int .i64 x78]) rfl rfl (by decide) rfl (xs' := encs p107) (by rw [← h108]; exact (Put.elemN (s := 1) (x := x104) rfl g106.2.2 (Put.here (vs := [.int .i64 x78]) rfl)).off (by omega)) (L' := (.own s_a0 3 1 (encs p107)) :: (.blk b_a4_c0 (enc s_a4_c0) 36) :: (.blk b_a4_c1 (enc s_a4_c1) 24) :: L) rfl ?_
        refine Lst.nil ?_
        refine At.in_normal ?_
        refine At.then ?_
        refine Cd.region ?_
        refine Lst.run rfl rfl (by decide) (Ev.move rfl) ?_
        refine Lst.run rfl rfl (by decide) (Ev.sub rfl rfl) ?_
        refine Lst.run rfl rfl (by decide) (Ev.assign rfl) ?_
        refine Lst.nil ?_
        exact At.meet (k69, w64 (y70 - (1 : Int)), p107) (FLe.trans hF73 hF103) ⟨rfl, rfl, rfl, trivial⟩ rfl ⟨hgo69 _ (some_inj H).symm, Nat.lt_succ_self _⟩
      replace H := ite_t hb68 H
      refine Cd.condT rfl hb68 ?_
      refine Cd.skip ?_
      refine At.then ?_
      refine Cd.block ?_
      refine Cd.seq ?_
      refine Cd.region ?_
      refine Lst.run rfl rfl (by decide) (Ev.move rfl) ?_
      refine Lst.run rfl rfl (by decide) (Ev.move rfl) ?_
      refine Lst.run rfl rfl (by decide) (Ev.add rfl rfl) ?_
      refine Lst.run rfl rfl (by decide) (Ev.convTo64 rfl Try.runUnderlying3 Try.runUnderlying119) ?_
      refine Lst.run rfl rfl (by decide) (Ev.shrU64 (i := BitVec.ofInt 64 (w64 (y64 + y65))) (m := 1) rfl rfl) ?_
      refine Lst.run rfl rfl (by decide) (Ev.conv64 rfl Try.runUnderlying119 Try.runUnderlying3) ?_
      refine Lst.run rfl rfl (by decide) (Ev.assign rfl) ?_
      refine Lst.nil ?_
      refine At.then ?_
      refine Cd.seq ?_
      refine Cd.quiet (by kernel_rfl) (by kernel_rfl) ?_
      refine Qt.run rfl rfl (by decide) (Ev.move rfl) ?_
      refine Qt.run rfl rfl (by decide) (Ev.move rfl) ?_
      refine Qt.run rfl rfl (by decide) (Ev.move rfl) ?_
      obtain ⟨x109, h110, H⟩ := bind_some H
      have g111 := lat_some h110
      refine Qt.run rfl rfl (by decide) (Ev.indexS (α := Int) (xs := a0) rfl rfl Try.runUnderlying36 Try.sizeOf3 rfl (by decide) (Rd.own (i := 0) rfl rfl rfl) g111.1 g111.2.1) ?_
      refine Qt.run rfl rfl (by decide) (Ev.loadS (α := Int) rfl (Rd.own (i := 0) rfl rfl rfl) Try.isAgg3 (v := .int .i64 x109) ((Get.elemN (s := 1) (x := x109) rfl g111.2.2 (Get.here _)).off (by omega))) ?_
      refine Qt.run rfl rfl (by decide) (Ev.move rfl) ?_
      refine Qt.run rfl rfl (by decide) (Ev.move rfl) ?_
      obtain ⟨x112, h113, H⟩ := bind_some H
      have g114 := lat_some h113
      refine Qt.run rfl rfl (by decide) (Ev.indexS (α := Int) (xs := a0) rfl rfl Try.runUnderlying36 Try.sizeOf3 rfl (by decide) (Rd.own (i := 0) rfl rfl rfl) g114.1 g114.2.1) ?_
      refine Qt.run rfl rfl (by decide) (Ev.loadS (α := Int) rfl (Rd.own (i := 0) rfl rfl rfl) Try.isAgg3 (v := .int .i64 x112) ((Get.elemN (s := 1) (x := x112) rfl g114.2.2 (Get.here _)).off (by omega))) ?_
      obtain ⟨r115, h116, H⟩ := bind_some H
      refine Qt.callV rfl rfl (by decide) (vs := [.int .i64 x109, .int .i64 x112]) (cs := [.pointer (some ⟨b_a4_c0, 0, none⟩), .pointer (some ⟨b_a4_c1, 0, none⟩)]) rfl ⟨rfl, rfl, trivial⟩ Try.call48 (Ok.isPerm (List.Perm.trans (front_perm (i := 2) rfl) (front_perm (i := 2) rfl)) (stamp_Total_1_sim h116 w0 _ M _ (List.Sublist.cons _ hM) (hs_a4_c0.mono hF67 (List.Sublist.refl _)) (hs_a4_c1.mono hF67 (List.Sublist.refl _)))) ?_
      refine Qt.run rfl rfl (by decide) (Ev.lss rfl rfl) ?_
      refine Qt.run rfl rfl (by decide) (Ev.not rfl) ?_
      refine Qt.done ?_
      refine At.then ?_
      rcases (Bool.eq_false_or_eq_true (!(decide (r115 < (0 : Int))))).symm with hb119 | hb119
      · replace H := ite_f hb119 H
        refine Cd.condF rfl hb119 ?_
        refine Cd.as (e' := [(0, Sl.v s_a0), (2, .int .i64 a2), (4, .func (.func 48) #[] #[.pointer (some ⟨b_a4_c0, 0, none⟩), .pointer (some ⟨b_a4_c1, 0, none⟩)]), (14, .int .i64 y64), (16, .int .i64 (w64 (((BitVec.ofInt 64 (w64 (y64 + y65))) >>> 1).toNat : Int)))]) (L' := (.own s_a0 3 1 (encs a0)) :: (.blk b_a4_c0 (enc s_a4_c0) 36) :: (.blk b_a4_c1 (enc s_a4_c1) 24) :: L) ⟨rfl, rfl, rfl, rfl, rfl, trivial⟩ rfl ?_
        refine Cd.region ?_
        refine Lst.run rfl rfl (by decide) (Ev.move rfl) ?_
        refine Lst.run rfl rfl (by decide) (Ev.assign rfl) ?_
        refine Lst.nil ?_
        refine At.in_normal ?_
        exact At.meet (k63, y64, w64 (((BitVec.ofInt 64 (w64 (y64 + y65))) >>> 1).toNat : Int)) hF67 ⟨rfl, rfl, rfl, rfl, rfl, trivial⟩ rfl ⟨hgo63 _ (some_inj H).symm, Nat.lt_succ_self _⟩
      replace H := ite_t hb119 H
      refine Cd.condT rfl hb119 ?_
      refine Cd.as (e' := [(0, Sl.v s_a0), (2, .int .i64 a2), (4, .func (.func 48) #[] #[.pointer (some ⟨b_a4_c0, 0, none⟩), .pointer (some ⟨b_a4_c1, 0, none⟩)]), (15, .int .i64 y65), (16, .int .i64 (w64 (((BitVec.ofInt 64 (w64 (y64 + y65))) >>> 1).toNat : Int)))]) (L' := (.own s_a0 3 1 (encs a0)) :: (.blk b_a4_c0 (enc s_a4_c0) 36) :: (.blk b_a4_c1 (enc s_a4_c1) 24) :: L) ⟨rfl, rfl, rfl, rfl, rfl, trivial⟩ rfl ?_
      refine Cd.region ?_
      refine Lst.run rfl rfl (by decide) (Ev.move rfl) ?_
      refine Lst.run rfl rfl (by decide) (Ev.add rfl rfl) ?_
      refine Lst.run rfl rfl (by decide) (Ev.assign rfl) ?_
      refine Lst.nil ?_
      refine At.in_normal ?_
      exact At.meet (k63, w64 ((w64 (((BitVec.ofInt 64 (w64 (y64 + y65))) >>> 1).toNat : Int)) + (1 : Int)), y65) hF67 ⟨rfl, rfl, rfl, rfl, rfl, trivial⟩ rfl ⟨hgo63 _ (some_inj H).symm, Nat.lt_succ_self _⟩
    replace H := ite_f hb62 H
    refine Cd.condF rfl hb62 ?_
    refine Cd.skip ?_
    refine At.then ?_
    refine Cd.seq ?_
    refine Cd.region ?_
    refine Lst.run rfl rfl (by decide) (Ev.move rfl) ?_
    refine Lst.run rfl rfl (by decide) (Ev.move rfl) ?_
    refine Lst.run rfl rfl (by decide) (Ev.add rfl rfl) ?_
    refine Lst.run rfl rfl (by decide) (Ev.convTo64 rfl Try.runUnderlying3 Try.runUnderlying119) ?_
    refine Lst.run rfl rfl (by decide) (Ev.shrU64 (i := BitVec.ofInt 64 (w64 (a1 + a3))) (m := 1) rfl rfl) ?_
    refine Lst.run rfl rfl (by decide) (Ev.conv64 rfl Try.runUnderlying119 Try.runUnderlying3) ?_
    refine Lst.run rfl rfl (by decide) (Ev.assign rfl) ?_
    refine Lst.nil ?_
    refine At.then ?_
    refine Cd.seq ?_
    refine Cd.region ?_
    refine Lst.run rfl rfl (by decide) (Ev.move rfl) ?_
    refine Lst.run rfl rfl (by decide) (Ev.move rfl) ?_
    refine Lst.run rfl rfl (by decide) (Ev.add rfl rfl) ?_
    refine Lst.run rfl rfl (by decide) (Ev.assign rfl) ?_
    refine Lst.nil ?_
    refine At.then ?_
    refine Cd.seq ?_
    refine Cd.as (e' := [(0, Sl.v s_a0), (1, .int .i64 a1), (2, .int .i64 a2), (3, .int .i64 a3), (4, .func (.func 48) #[] #[.pointer (some ⟨b_a4_c0, 0, none⟩), .pointer (some ⟨b_a4_c1, 0, none⟩)]), (18, .int .i64 (w64 (((BitVec.ofInt 64 (w64 (a1 + a3))) >>> 1).toNat : Int))), (19, .int .i64 (w64 ((w64 (((BitVec.ofInt 64 (w64 (a1 + a3))) >>> 1).toNat : Int)) + a2)))]) (L' := (.own s_a0 3 1 (encs a0)) :: (.blk b_a4_c0 (enc s_a4_c0) 36) :: (.blk b_a4_c1 (enc s_a4_c1) 24) :: L) ⟨rfl, rfl, rfl, rfl, rfl, rfl, rfl, trivial⟩ rfl ?_
    refine Cd.region ?_
    refine Lst.run rfl rfl (by decide) (Ev.assign rfl) ?_
    refine Lst.run rfl rfl (by decide) (Ev.assign rfl) ?_
    refine Lst.nil ?_
    refine At.then ?_
    obtain ⟨o122, H, HKo122⟩ := bind_some H
    refine Cd.join (σ := Int × Int) (fun (y120, y121) => [(0, Sl.v s_a0), (1, .int .i64 a1), (2, .int .i64 a2), (3, .int .i64 a3), (4, .func (.func 48) #[] #[.pointer (some ⟨b_a4_c0, 0, none⟩), .pointer (some ⟨b_a4_c1, 0, none⟩)]), (18, .int .i64 (w64 (((BitVec.ofInt 64 (w64 (a1 + a3))) >>> 1).toNat : Int))), (19, .int .i64 (w64 ((w64 (((BitVec.ofInt 64 (w64 (a1 + a3))) >>> 1).toNat : Int)) + a2))), (20, .int .i64 y120), (21, .int .i64 y121)]) (fun (y120, y121) => (.own s_a0 3 1 (encs a0)) :: (.blk b_a4_c0 (enc s_a4_c0) 36) :: (.blk b_a4_c1 (enc s_a4_c1) 24) :: L) (fun _ (y120, y121) => (y120, y121) = o122) ?_ ?_
    · refine Cd.seq ?_
      refine Cd.region ?_
      refine Lst.run rfl rfl (by decide) (Ev.move rfl) ?_
      refine Lst.run rfl rfl (by decide) (Ev.move rfl) ?_
      refine Lst.run rfl rfl (by decide) (Ev.gtr rfl rfl) ?_
      refine Lst.nil ?_
      refine At.then ?_
      rcases (Bool.eq_false_or_eq_true (decide (a2 > (w64 (((BitVec.ofInt 64 (w64 (a1 + a3))) >>> 1).toNat : Int))))).symm with hb123 | hb123
      · replace H := ite_f hb123 H
        refine Cd.condF rfl hb123 ?_
        refine Cd.seq ?_
        refine Cd.region ?_
        refine Lst.run rfl rfl (by decide) (Ev.move rfl) ?_
        refine Lst.run rfl rfl (by decide) (Ev.assign rfl) ?_
        refine Lst.nil ?_
        refine At.then ?_
        refine Cd.region ?_
        refine Lst.run rfl rfl (by decide) (Ev.move rfl) ?_
        refine Lst.run rfl rfl (by decide) (Ev.assign rfl) ?_
        refine Lst.nil ?_
        exact At.meet (a1, a2) (FLe.refl _) ⟨rfl, rfl, rfl, rfl, rfl, rfl, rfl, rfl, rfl, trivial⟩ rfl (some_inj H)
      replace H := ite_t hb123 H
      refine Cd.condT rfl hb123 ?_
      refine Cd.seq ?_
      refine Cd.region ?_
      refine Lst.run rfl rfl (by decide) (Ev.move rfl) ?_
      refine Lst.run rfl rfl (by decide) (Ev.move rfl) ?_
      refine Lst.run rfl rfl (by decide) (Ev.sub rfl rfl) ?_
      refine Lst.run rfl rfl (by decide) (Ev.assign rfl) ?_
      refine Lst.nil ?_
      refine At.then ?_
      refine Cd.region ?_
      refine Lst.run rfl rfl (by decide) (Ev.move rfl) ?_
      refine Lst.run rfl rfl (by decide) (Ev.assign rfl) ?_
      refine Lst.nil ?_
      exact At.meet (w64 ((w64 ((w64 (((BitVec.ofInt 64 (w64 (a1 + a3))) >>> 1).toNat : Int)) + a2)) - a3), w64 (((BitVec.ofInt 64 (w64 (a1 + a3))) >>> 1).toNat : Int)) (FLe.refl _) ⟨rfl, rfl, rfl, rfl, rfl, rfl, rfl, rfl, rfl, trivial⟩ rfl (some_inj H)
    rintro F124 ⟨y120, y121⟩ hF125 hy
    subst hy
    refine Cd.as (e' := [(0, Sl.v s_a0), (1, .int .i64 a1), (2, .int .i64 a2), (3, .int .i64 a3), (4, .func (.func 48) #[] #[.pointer (some ⟨b_a4_c0, 0, none⟩), .pointer (some ⟨b_a4_c1, 0, none⟩)]), (18, .int .i64 (w64 (((BitVec.ofInt 64 (w64 (a1 + a3))) >>> 1).toNat : Int))), (19, .int .i64 (w64 ((w64 (((BitVec.ofInt 64 (w64 (a1 + a3))) >>> 1).toNat : Int)) + a2))), (20, .int .i64 y120), (21, .int .i64 y121)]) (L' := (.own s_a0 3 1 (encs a0)) :: (.blk b_a4_c0 (enc s_a4_c0) 36) :: (.blk b_a4_c1 (enc s_a4_c1) 24) :: L) ⟨rfl, rfl, rfl, rfl, rfl, rfl, rfl, rfl, rfl, trivial⟩ rfl ?_
    replace H := HKo122
    refine Cd.seq ?_
    refine Cd.region ?_
    refine Lst.run rfl rfl (by decide) (Ev.move rfl) ?_
    refine Lst.run rfl rfl (by decide) (Ev.sub rfl rfl) ?_
    refine Lst.run rfl rfl (by decide) (Ev.assign rfl) ?_
    refine Lst.nil ?_
    refine At.then ?_
    refine Cd.seq ?_
    refine Cd.block ?_
    obtain ⟨ol126, H, HKl126⟩ := andThen_some H
    refine Cd.loop (σ := Nat × Int × Int) (fun (k126, y127, y128) => [(0, Sl.v s_a0), (1, .int .i64 a1), (2, .int .i64 a2), (3, .int .i64 a3), (4, .func (.func 48) #[] #[.pointer (some ⟨b_a4_c0, 0, none⟩), .pointer (some ⟨b_a4_c1, 0, none⟩)]), (18, .int .i64 (w64 (((BitVec.ofInt 64 (w64 (a1 + a3))) >>> 1).toNat : Int))), (19, .int .i64 (w64 ((w64 (((BitVec.ofInt 64 (w64 (a1 + a3))) >>> 1).toNat : Int)) + a2))), (20, .int .i64 y127), (21, .int .i64 y128), (22, .int .i64 (w64 ((w64 ((w64 (((BitVec.ofInt 64 (w64 (a1 + a3))) >>> 1).toNat : Int)) + a2)) - (1 : Int))))]) (fun (k126, y127, y128) => (.own s_a0 3 1 (encs a0)) :: (.blk b_a4_c0 (enc s_a4_c0) 36) :: (.blk b_a4_c1 (enc s_a4_c1) 24) :: L) (fun _ => (fun (k126, y127, y128) => whileM (slices_symMergeCmpFunc_int_Total_1_B8 a0 a1 a2 a3 a4_c0 a4_c1) k126 (y127, y128) = some ol126)) (fun (k126, y127, y128) => k126) (fu, y120, y121) ⟨rfl, rfl, rfl, rfl, rfl, rfl, rfl, rfl, rfl, rfl, trivial⟩ rfl H ?_
    rintro F129 ⟨k126, y127, y128⟩ hF130 H
    refine Cd.as (e' := [(0, Sl.v s_a0), (1, .int .i64 a1), (2, .int .i64 a2), (3, .int .i64 a3), (4, .func (.func 48) #[] #[.pointer (some ⟨b_a4_c0, 0, none⟩), .pointer (some ⟨b_a4_c1, 0, none⟩)]), (18, .int .i64 (w64 (((BitVec.ofInt 64 (w64 (a1 + a3))) >>> 1).toNat : Int))), (19, .int .i64 (w64 ((w64 (((BitVec.ofInt 64 (w64 (a1 + a3))) >>> 1).toNat : Int)) + a2))), (20, .int .i64 y127), (21, .int .i64 y128), (22, .int .i64 (w64 ((w64 ((w64 (((BitVec.ofInt 64 (w64 (a1 + a3))) >>> 1).toNat : Int)) + a2)) - (1 : Int))))]) (L' := (.own s_a0 3 1 (encs a0)) :: (.blk b_a4_c0 (enc s_a4_c0) 36) :: (.blk b_a4_c1 (enc s_a4_c1) 24) :: L) ⟨rfl, rfl, rfl, rfl, rfl, rfl, rfl, rfl, rfl, rfl, trivial⟩ rfl ?_
    rcases k126 with _ | k126
    · cases H
    obtain ⟨c126, H, hgo126, hbrk126, hret126⟩ := whileM_go H
    unfold slices_symMergeCmpFunc_int_Total_1_B8 at H
    try dsimp only at H
    refine Cd.seq ?_
    refine Cd.seq ?_
    refine Cd.region ?_
    refine Lst.run rfl rfl (by decide) (Ev.move rfl) ?_
    refine Lst.run rfl rfl (by decide) (Ev.move rfl) ?_
    refine Lst.run rfl rfl (by decide) (Ev.lss rfl rfl) ?_
    refine Lst.nil ?_
    refine At.then ?_
    rcases (Bool.eq_false_or_eq_true (decide (y127 < y128))).symm with hb131 | hb131
    · replace H := ite_f hb131 H
      refine Cd.condF rfl hb131 ?_
      refine Cd.exit ?_
      refine At.then_exit ?_
      refine At.then_exit ?_
      refine At.in_exit ?_
      have H := hbrk126 _ (some_inj H).symm
      subst H
      replace H := HKl126
      refine At.then ?_
      refine Cd.seq ?_
      refine Cd.region ?_
      refine Lst.run rfl rfl (by decide) (Ev.move rfl) ?_
      refine Lst.run rfl rfl (by decide) (Ev.move rfl) ?_
      refine Lst.run rfl rfl (by decide) (Ev.sub rfl rfl) ?_
      refine Lst.run rfl rfl (by decide) (Ev.assign rfl) ?_
      refine Lst.nil ?_
      refine At.then ?_
      obtain ⟨o133, H, HKo133⟩ := bind_some H
      refine Cd.join (σ := (List Int)) (fun l132 => [(0, Sl.v s_a0), (1, .int .i64 a1), (3, .int .i64 a3), (4, .func (.func 48) #[] #[.pointer (some ⟨b_a4_c0, 0, none⟩), .pointer (some ⟨b_a4_c1, 0, none⟩)]), (18, .int .i64 (w64 (((BitVec.ofInt 64 (w64 (a1 + a3))) >>> 1).toNat : Int))), (20, .int .i64 y127), (24, .int .i64 (w64 ((w64 ((w64 (((BitVec.ofInt 64 (w64 (a1 + a3))) >>> 1).toNat : Int)) + a2)) - y127)))]) (fun l132 => (.own s_a0 3 1 (encs l132)) :: (.blk b_a4_c0 (enc s_a4_c0) 36) :: (.blk b_a4_c1 (enc s_a4_c1) 24) :: L) (fun _ l132 => l132 = o133) ?_ ?_
      · refine Cd.seq ?_
        refine Cd.region ?_
        refine Lst.run rfl rfl (by decide) (Ev.move rfl) ?_
        refine Lst.run rfl rfl (by decide) (Ev.move rfl) ?_
        refine Lst.run rfl rfl (by decide) (Ev.lss rfl rfl) ?_
        refine Lst.run rfl rfl (by decide) (Ev.move rfl) ?_
        obtain ⟨o134, H, HKo134⟩ := bind_some H
        refine Lst.join (σ := Bool) 4 (fun y135 => [(0, Sl.v s_a0), (1, .int .i64 a1), (2, .int .i64 a2), (3, .int .i64 a3), (4, .func (.func 48) #[] #[.pointer (some ⟨b_a4_c0, 0, none⟩), .pointer (some ⟨b_a4_c1, 0, none⟩)]), (18, .int .i64 (w64 (((BitVec.ofInt 64 (w64 (a1 + a3))) >>> 1).toNat : Int))), (20, .int .i64 y127), (24, .int .i64 (w64 ((w64 ((w64 (((BitVec.ofInt 64 (w64 (a1 + a3))) >>> 1).toNat : Int)) + a2)) - y127))), (185, .bool y135)]) (fun y135 => (.own s_a0 3 1 (encs a0)) :: (.blk b_a4_c0 (enc s_a4_c0) 36) :: (.blk b_a4_c1 (enc s_a4_c1) 24) :: L) (fun _ y135 => y135 = o134) ?_ ?_
        · rcases (Bool.eq_false_or_eq_true (decide (y127 < a2))).symm with hb136 | hb136
          · replace H := ite_f hb136 H
            refine Lst.skip rfl rfl rfl hb136 rfl (by decide) ?_
            refine Lst.skip rfl rfl rfl hb136 rfl (by decide) ?_
            refine Lst.skip rfl rfl rfl hb136 rfl (by decide) ?_
            refine Lst.run rfl rfl (by decide) (Ev.pickF rfl hb136 rfl) ?_
            refine Lst.nil ?_
            exact At.meet false (FLe.refl _) ⟨rfl, rfl, rfl, rfl, rfl, rfl, rfl, rfl, rfl, trivial⟩ rfl (some_inj H)
          replace H := ite_t hb136 H
          refine Lst.runG rfl rfl rfl hb136 rfl (by decide) (Ev.move rfl) ?_
          refine Lst.runG rfl rfl rfl hb136 rfl (by decide) (Ev.move rfl) ?_
          refine Lst.runG rfl rfl rfl hb136 rfl (by decide) (Ev.lss rfl rfl) ?_
          refine Lst.run rfl rfl (by decide) (Ev.pickT rfl hb136 rfl) ?_
          refine Lst.nil ?_
          exact At.meet (decide (a2 < (w64 ((w64 ((w64 (((BitVec.ofInt 64 (w64 (a1 + a3))) >>> 1).toNat : Int)) + a2)) - y127)))) (FLe.refl _) ⟨rfl, rfl, rfl, rfl, rfl, rfl, rfl, rfl, rfl, trivial⟩ rfl (some_inj H)
        rintro F137 y135 hF138 hy
        subst hy
        refine Lst.as (e' := [(0, Sl.v s_a0), (1, .int .i64 a1), (2, .int .i64 a2), (3, .int .i64 a3), (4, .func (.func 48) #[] #[.pointer (some ⟨b_a4_c0, 0, none⟩), .pointer (some ⟨b_a4_c1, 0, none⟩)]), (18, .int .i64 (w64 (((BitVec.ofInt 64 (w64 (a1 + a3))) >>> 1).toNat : Int))), (20, .int .i64 y127), (24, .int .i64 (w64 ((w64 ((w64 (((BitVec.ofInt 64 (w64 (a1 + a3))) >>> 1).toNat : Int)) + a2)) - y127))), (185, .bool y135)]) (L' := (.own s_a0 3 1 (encs a0)) :: (.blk b_a4_c0 (enc s_a4_c0) 36) :: (.blk b_a4_c1 (enc s_a4_c1) 24) :: L) ⟨rfl, rfl, rfl, rfl, rfl, rfl, rfl, rfl, rfl, trivial⟩ rfl ?_
        replace H := HKo134
        refine Lst.nil ?_
        refine At.then ?_
        rcases (Bool.eq_false_or_eq_true y135).symm with hb139 | hb139
        · replace H := ite_f hb139 H
          refine Cd.condF rfl hb139 ?_
          refine Cd.skip ?_
          exact At.meet a0 hF138 ⟨rfl, rfl, rfl, rfl, rfl, rfl, rfl, trivial⟩ rfl (some_inj H)
        replace H := ite_t hb139 H
        refine Cd.condT rfl hb139 ?_
        refine Cd.region ?_
        refine Lst.run rfl rfl (by decide) (Ev.move rfl) ?_
        refine Lst.run rfl rfl (by decide) (Ev.move rfl) ?_
        refine Lst.run rfl rfl (by decide) (Ev.move rfl) ?_
        refine Lst.run rfl rfl (by decide) (Ev.move rfl) ?_
        refine Lst.run rfl rfl (by decide) (Ev.move rfl) ?_
        obtain ⟨r140, h141, H⟩ := bind_some H
        refine Lst.call rfl rfl (by decide) (vs := [Sl.v s_a0, .int .i64 y127, .int .i64 a2, .int .i64 (w64 ((w64 ((w64 (((BitVec.ofInt 64 (w64 (a1 + a3))) >>> 1).toNat : Int)) + a2)) - y127)), .func (.func 48) #[] #[.pointer (some ⟨b_a4_c0, 0, none⟩), .pointer (some ⟨b_a4_c1, 0, none⟩)]]) ⟨rfl, rfl, rfl, rfl, rfl, trivial⟩ Try.call79 (slices_rotateCmpFunc_int_Total_1_sim h141 w0 _ M _ hM (hs_a4_c0.mono (FLe.trans (FLe.trans hF125 hF130) hF138) (List.Sublist.refl _)) (hs_a4_c1.mono (FLe.trans (FLe.trans hF125 hF130) hF138) (List.Sublist.refl _))) (fun F142 L' v hF143 hv => ?_)
        obtain ⟨rfl, rfl⟩ := hv
        refine Lst.nil ?_
        exact At.meet r140 (FLe.trans hF138 hF143) ⟨rfl, rfl, rfl, rfl, rfl, rfl, rfl, trivial⟩ rfl (some_inj H)
      rintro F144 l132 hF145 hy
      subst hy
      refine Cd.as (e' := [(0, Sl.v s_a0), (1, .int .i64 a1), (3, .int .i64 a3), (4, .func (.func 48) #[] #[.pointer (some ⟨b_a4_c0, 0, none⟩), .pointer (some ⟨b_a4_c1, 0, none⟩)]), (18, .int .i64 (w64 (((BitVec.ofInt 64 (w64 (a1 + a3))) >>> 1).toNat : Int))), (20, .int .i64 y127), (24, .int .i64 (w64 ((w64 ((w64 (((BitVec.ofInt 64 (w64 (a1 + a3))) >>> 1).toNat : Int)) + a2)) - y127)))]) (L' := (.own s_a0 3 1 (encs l132)) :: (.blk b_a4_c0 (enc s_a4_c0) 36) :: (.blk b_a4_c1 (enc s_a4_c1) 24) :: L) ⟨rfl, rfl, rfl, rfl, rfl, rfl, rfl, trivial⟩ rfl ?_
      replace H := HKo133
      obtain ⟨o147, H, HKo147⟩ := bind_some H
      refine Cd.join (σ := (List Int)) (fun l146 => [(0, Sl.v s_a0), (3, .int .i64 a3), (4, .func (.func 48) #[] #[.pointer (some ⟨b_a4_c0, 0, none⟩), .pointer (some ⟨b_a4_c1, 0, none⟩)]), (18, .int .i64 (w64 (((BitVec.ofInt 64 (w64 (a1 + a3))) >>> 1).toNat : Int))), (24, .int .i64 (w64 ((w64 ((w64 (((BitVec.ofInt 64 (w64 (a1 + a3))) >>> 1).toNat : Int)) + a2)) - y127)))]) (fun l146 => (.own s_a0 3 1 (encs l146)) :: (.blk b_a4_c0 (enc s_a4_c0) 36) :: (.blk b_a4_c1 (enc s_a4_c1) 24) :: L) (fun _ l146 => l146 = o147) ?_ ?_
      · refine Cd.seq ?_
        refine Cd.region ?_
        refine Lst.run rfl rfl (by decide) (Ev.move rfl) ?_
        refine Lst.run rfl rfl (by decide) (Ev.move rfl) ?_
        refine Lst.run rfl rfl (by decide) (Ev.lss rfl rfl) ?_
        refine Lst.run rfl rfl (by decide) (Ev.move rfl) ?_
        obtain ⟨o148, H, HKo148⟩ := bind_some H
        refine Lst.join (σ := Bool) 4 (fun y149 => [(0, Sl.v s_a0), (1, .int .i64 a1), (3, .int .i64 a3), (4, .func (.func 48) #[] #[.pointer (some ⟨b_a4_c0, 0, none⟩), .pointer (some ⟨b_a4_c1, 0, none⟩)]), (18, .int .i64 (w64 (((BitVec.ofInt 64 (w64 (a1 + a3))) >>> 1).toNat : Int))), (20, .int .i64 y127), (24, .int .i64 (w64 ((w64 ((w64 (((BitVec.ofInt 64 (w64 (a1 + a3))) >>> 1).toNat : Int)) + a2)) - y127))), (199, .bool y149)]) (fun y149 => (.own s_a0 3 1 (encs l132)) :: (.blk b_a4_c0 (enc s_a4_c0) 36) :: (.blk b_a4_c1 (enc s_a4_c1) 24) :: L) (fun _ y149 => y149 = o148) ?_ ?_
        · rcases (Bool.eq_false_or_eq_true (decide (a1 < y127))).symm with hb150 | hb150
          · replace H := ite_f hb150 H
            refine Lst.skip rfl rfl rfl hb150 rfl (by decide) ?_
            refine Lst.skip rfl rfl rfl hb150 rfl (by decide) ?_
            refine Lst.skip rfl rfl rfl hb150 rfl (by decide) ?_
            refine Lst.run rfl rfl (by decide) (Ev.pickF rfl hb150 rfl) ?_
            refine Lst.nil ?_
            exact At.meet false (FLe.refl _) ⟨rfl, rfl, rfl, rfl, rfl, rfl, rfl, rfl, trivial⟩ rfl (some_inj H)
          replace H := ite_t hb150 H
          refine Lst.runG rfl rfl rfl hb150 rfl (by decide) (Ev.move rfl) ?_
          refine Lst.runG rfl rfl rfl hb150 rfl (by decide) (Ev.move rfl) ?_
          refine Lst.runG rfl rfl rfl hb150 rfl (by decide) (Ev.lss rfl rfl) ?_
          refine Lst.run rfl rfl (by decide) (Ev.pickT rfl hb150 rfl) ?_
          refine Lst.nil ?_
          exact At.meet (decide (y127 < (w64 (((BitVec.ofInt 64 (w64 (a1 + a3))) >>> 1).toNat : Int)))) (FLe.refl _) ⟨rfl, rfl, rfl, rfl, rfl, rfl, rfl, rfl, trivial⟩ rfl (some_inj H)
        rintro F151 y149 hF152 hy
        subst hy
        refine Lst.as (e' := [(0, Sl.v s_a0), (1, .int .i64 a1), (3, .int .i64 a3), (4, .func (.func 48) #[] #[.pointer (some ⟨b_a4_c0, 0, none⟩), .pointer (some ⟨b_a4_c1, 0, none⟩)]), (18, .int .i64 (w64 (((BitVec.ofInt 64 (w64 (a1 + a3))) >>> 1).toNat : Int))), (20, .int .i64 y127), (24, .int .i64 (w64 ((w64 ((w64 (((BitVec.ofInt 64 (w64 (a1 + a3))) >>> 1).toNat : Int)) + a2)) - y127))), (199, .bool y149)]) (L' := (.own s_a0 3 1 (encs l132)) :: (.blk b_a4_c0 (enc s_a4_c0) 36) :: (.blk b_a4_c1 (enc s_a4_c1) 24) :: L) ⟨rfl, rfl, rfl, rfl, rfl, rfl, rfl, rfl, trivial⟩ rfl ?_
        replace H := HKo148
        refine Lst.nil ?_
        refine At.then ?_
        rcases (Bool.eq_false_or_eq_true y149).symm with hb153 | hb153
        · replace H := ite_f hb153 H
          refine Cd.condF rfl hb153 ?_
          refine Cd.skip ?_
          exact At.meet l132 hF152 ⟨rfl, rfl, rfl, rfl, rfl, trivial⟩ rfl (some_inj H)
        replace H := ite_t hb153 H
        refine Cd.condT rfl hb153 ?_
        refine Cd.region ?_
        refine Lst.run rfl rfl (by decide) (Ev.move rfl) ?_
        refine Lst.run rfl rfl (by decide) (Ev.move rfl) ?_
        refine Lst.run rfl rfl (by decide) (Ev.move rfl) ?_
        refine Lst.run rfl rfl (by decide) (Ev.move rfl) ?_
        refine Lst.run rfl rfl (by decide) (Ev.move rfl) ?_
        obtain ⟨r154, h155, H⟩ := bind_some H
        refine Lst.call rfl rfl (by decide) (vs := [Sl.v s_a0, .int .i64 a1, .int .i64 y127, .int .i64 (w64 (((BitVec.ofInt 64 (w64 (a1 + a3))) >>> 1).toNat : Int)), .func (.func 48) #[] #[.pointer (some ⟨b_a4_c0, 0, none⟩), .pointer (some ⟨b_a4_c1, 0, none⟩)]]) ⟨rfl, rfl, rfl, rfl, rfl, trivial⟩ Try.call74 (ih h155 w0 _ M _ hM (hs_a4_c0.mono (FLe.trans (FLe.trans (FLe.trans hF125 hF130) hF145) hF152) (List.Sublist.refl _)) (hs_a4_c1.mono (FLe.trans (FLe.trans (FLe.trans hF125 hF130) hF145) hF152) (List.Sublist.refl _))) (fun F156 L' v hF157 hv => ?_)
        obtain ⟨rfl, rfl⟩ := hv
        refine Lst.nil ?_
        exact At.meet r154 (FLe.trans hF152 hF157) ⟨rfl, rfl, rfl, rfl, rfl, trivial⟩ rfl (some_inj H)
      rintro F158 l146 hF159 hy
      subst hy
      refine Cd.as (e' := [(0, Sl.v s_a0), (3, .int .i64 a3), (4, .func (.func 48) #[] #[.pointer (some ⟨b_a4_c0, 0, none⟩), .pointer (some ⟨b_a4_c1, 0, none⟩)]), (18, .int .i64 (w64 (((BitVec.ofInt 64 (w64 (a1 + a3))) >>> 1).toNat : Int))), (24, .int .i64 (w64 ((w64 ((w64 (((BitVec.ofInt 64 (w64 (a1 + a3))) >>> 1).toNat : Int)) + a2)) - y127)))]) (L' := (.own s_a0 3 1 (encs l146)) :: (.blk b_a4_c0 (enc s_a4_c0) 36) :: (.blk b_a4_c1 (enc s_a4_c1) 24) :: L) ⟨rfl, rfl, rfl, rfl, rfl, trivial⟩ rfl ?_
      replace H := HKo147
      refine Cd.seq ?_
      refine Cd.region ?_
      refine Lst.run rfl rfl (by decide) (Ev.move rfl) ?_
      refine Lst.run rfl rfl (by decide) (Ev.move rfl) ?_
      refine Lst.run rfl rfl (by decide) (Ev.lss rfl rfl) ?_
      refine Lst.run rfl rfl (by decide) (Ev.move rfl) ?_
      obtain ⟨o160, H, HKo160⟩ := bind_some H
      refine Lst.join (σ := Bool) 4 (fun y161 => [(0, Sl.v s_a0), (3, .int .i64 a3), (4, .func (.func 48) #[] #[.pointer (some ⟨b_a4_c0, 0, none⟩), .pointer (some ⟨b_a4_c1, 0, none⟩)]), (18, .int .i64 (w64 (((BitVec.ofInt 64 (w64 (a1 + a3))) >>> 1).toNat : Int))), (24, .int .i64 (w64 ((w64 ((w64 (((BitVec.ofInt 64 (w64 (a1 + a3))) >>> 1).toNat : Int)) + a2)) - y127))), (213, .bool y161)]) (fun y161 => (.own s_a0 3 1 (encs l146)) :: (.blk b_a4_c0 (enc s_a4_c0) 36) :: (.blk b_a4_c1 (enc s_a4_c1) 24) :: L) (fun _ y161 => y161 = o160) ?_ ?_
      · rcases (Bool.eq_false_or_eq_true (decide ((w64 (((BitVec.ofInt 64 (w64 (a1 + a3))) >>> 1).toNat : Int)) < (w64 ((w64 ((w64 (((BitVec.ofInt 64 (w64 (a1 + a3))) >>> 1).toNat : Int)) + a2)) - y127))))).symm with hb162 | hb162
        · replace H := ite_f hb162 H
          refine Lst.skip rfl rfl rfl hb162 rfl (by decide) ?_
          refine Lst.skip rfl rfl rfl hb162 rfl (by decide) ?_
          refine Lst.skip rfl rfl rfl hb162 rfl (by decide) ?_
          refine Lst.run rfl rfl (by decide) (Ev.pickF rfl hb162 rfl) ?_
          refine Lst.nil ?_
          exact At.meet false (FLe.refl _) ⟨rfl, rfl, rfl, rfl, rfl, rfl, trivial⟩ rfl (some_inj H)
        replace H := ite_t hb162 H
        refine Lst.runG rfl rfl rfl hb162 rfl (by decide) (Ev.move rfl) ?_
        refine Lst.runG rfl rfl rfl hb162 rfl (by decide) (Ev.move rfl) ?_
        refine Lst.runG rfl rfl rfl hb162 rfl (by decide) (Ev.lss rfl rfl) ?_
        refine Lst.run rfl rfl (by decide) (Ev.pickT rfl hb162 rfl) ?_
        refine Lst.nil ?_
        exact At.meet (decide ((w64 ((w64 ((w64 (((BitVec.ofInt 64 (w64 (a1 + a3))) >>> 1).toNat : Int)) + a2)) - y127)) < a3)) (FLe.refl _) ⟨rfl, rfl, rfl, rfl, rfl, rfl, trivial⟩ rfl (some_inj H)
      rintro F163 y161 hF164 hy
      subst hy
      refine Lst.as (e' := [(0, Sl.v s_a0), (3, .int .i64 a3), (4, .func (.func 48) #[] #[.pointer (some ⟨b_a4_c0, 0, none⟩), .pointer (some ⟨b_a4_c1, 0, none⟩)]), (18, .int .i64 (w64 (((BitVec.ofInt 64 (w64 (a1 + a3))) >>> 1).toNat : Int))), (24, .int .i64 (w64 ((w64 ((w64 (((BitVec.ofInt 64 (w64 (a1 + a3))) >>> 1).toNat : Int)) + a2)) - y127))), (213, .bool y161)]) (L' := (.own s_a0 3 1 (encs l146)) :: (.blk b_a4_c0 (enc s_a4_c0) 36) :: (.blk b_a4_c1 (enc s_a4_c1) 24) :: L) ⟨rfl, rfl, rfl, rfl, rfl, rfl, trivial⟩ rfl ?_
      replace H := HKo160
      refine Lst.nil ?_
      refine At.then ?_
      rcases (Bool.eq_false_or_eq_true y161).symm with hb165 | hb165
      · replace H := ite_f hb165 H
        refine Cd.condF rfl hb165 ?_
        refine Cd.skip ?_
        obtain rfl := some_inj H
        exact At.ret0 (.inr rfl) rfl (FLe.trans (FLe.trans (FLe.trans (FLe.trans hF125 hF130) hF145) hF159) hF164) (List.Sublist.cons_cons _ (List.Sublist.cons_cons _ (List.Sublist.cons_cons _ (List.Sublist.refl _)))) ⟨rfl, rfl⟩
      replace H := ite_t hb165 H
      refine Cd.condT rfl hb165 ?_
      refine Cd.region ?_
      refine Lst.run rfl rfl (by decide) (Ev.move rfl) ?_
      refine Lst.run rfl rfl (by decide) (Ev.move rfl) ?_
      refine Lst.run rfl rfl (by decide) (Ev.move rfl) ?_
      refine Lst.run rfl rfl (by decide) (Ev.move rfl) ?_
      refine Lst.run rfl rfl (by decide) (Ev.move rfl) ?_
      obtain ⟨r166, h167, H⟩ := bind_some H
      refine Lst.call rfl rfl (by decide) (vs := [Sl.v s_a0, .int .i64 (w64 (((BitVec.ofInt 64 (w64 (a1 + a3))) >>> 1).toNat : Int)), .int .i64 (w64 ((w64 ((w64 (((BitVec.ofInt 64 (w64 (a1 + a3))) >>> 1).toNat : Int)) + a2)) - y127)), .int .i64 a3, .func (.func 48) #[] #[.pointer (some ⟨b_a4_c0, 0, none⟩), .pointer (some ⟨b_a4_c1, 0, none⟩)]]) ⟨rfl, rfl, rfl, rfl, rfl, trivial⟩ Try.call74 (ih h167 w0 _ M _ hM (hs_a4_c0.mono (FLe.trans (FLe.trans (FLe.trans (FLe.trans hF125 hF130) hF145) hF159) hF164) (List.Sublist.refl _)) (hs_a4_c1.mono (FLe.trans (FLe.trans (FLe.trans (FLe.trans hF125 hF130) hF145) hF159) hF164) (List.Sublist.refl _))) (fun F168 L' v hF169 hv => ?_)
      obtain ⟨rfl, rfl⟩ := hv
      refine Lst.nil ?_
      obtain rfl := some_inj H
      exact At.ret0 (.inr rfl) rfl (FLe.trans (FLe.trans (FLe.trans (FLe.trans (FLe.trans hF125 hF130) hF145) hF159) hF164) hF169) (List.Sublist.cons_cons _ (List.Sublist.cons_cons _ (List.Sublist.cons_cons _ (List.Sublist.refl _)))) ⟨rfl, rfl⟩
    replace H := ite_t hb131 H
    refine Cd.condT rfl hb131 ?_
    refine Cd.skip ?_
    refine At.then ?_
    refine Cd.block ?_
    refine Cd.seq ?_
    refine Cd.region ?_
    refine Lst.run rfl rfl (by decide) (Ev.move rfl) ?_
    refine Lst.run rfl rfl (by decide) (Ev.move rfl) ?_
    refine Lst.run rfl rfl (by decide) (Ev.add rfl rfl) ?_
    refine Lst.run rfl rfl (by decide) (Ev.convTo64 rfl Try.runUnderlying3 Try.runUnderlying119) ?_
    refine Lst.run rfl rfl (by decide) (Ev.shrU64 (i := BitVec.ofInt 64 (w64 (y127 + y128))) (m := 1) rfl rfl) ?_
    refine Lst.run rfl rfl (by decide) (Ev.conv64 rfl Try.runUnderlying119 Try.runUnderlying3) ?_
    refine Lst.run rfl rfl (by decide) (Ev.assign rfl) ?_
    refine Lst.nil ?_
    refine At.then ?_
    refine Cd.seq ?_
    refine Cd.quiet (by kernel_rfl) (by kernel_rfl) ?_
    refine Qt.run rfl rfl (by decide) (Ev.move rfl) ?_
    refine Qt.run rfl rfl (by decide) (Ev.move rfl) ?_
    refine Qt.run rfl rfl (by decide) (Ev.move rfl) ?_
    refine Qt.run rfl rfl (by decide) (Ev.move rfl) ?_
    refine Qt.run rfl rfl (by decide) (Ev.sub rfl rfl) ?_
    obtain ⟨x170, h171, H⟩ := bind_some H
    have g172 := lat_some h171
    refine Qt.run rfl rfl (by decide) (Ev.indexS (α := Int) (xs := a0) rfl rfl Try.runUnderlying36 Try.sizeOf3 rfl (by decide) (Rd.own (i := 0) rfl rfl rfl) g172.1 g172.2.1) ?_
    refine Qt.run rfl rfl (by decide) (Ev.loadS (α := Int) rfl (Rd.own (i := 0) rfl rfl rfl) Try.isAgg3 (v := .int .i64 x170) ((Get.elemN (s := 1) (x := x170) rfl g172.2.2 (Get.here _)).off (by omega))) ?_
    refine Qt.run rfl rfl (by decide) (Ev.move rfl) ?_
    refine Qt.run rfl rfl (by decide) (Ev.move rfl) ?_
    obtain ⟨x173, h174, H⟩ := bind_some H
    have g175 := lat_some h174
    refine Qt.run rfl rfl (by decide) (Ev.indexS (α := Int) (xs := a0) rfl rfl Try.runUnderlying36 Try.sizeOf3 rfl (by decide) (Rd.own (i := 0) rfl rfl rfl) g175.1 g175.2.1) ?_
    refine Qt.run rfl rfl (by decide) (Ev.loadS (α := Int) rfl (Rd.own (i := 0) rfl rfl rfl) Try.isAgg3 (v := .int .i64 x173) ((Get.elemN (s := 1) (x := x173) rfl g175.2.2 (Get.here _)).off (by omega))) ?_
    obtain ⟨r176, h177, H⟩ := bind_some H
    refine Qt.callV rfl rfl (by decide) (vs := [.int .i64 x170, .int .i64 x173]) (cs := [.pointer (some ⟨b_a4_c0, 0, none⟩), .pointer (some ⟨b_a4_c1, 0, none⟩)]) rfl ⟨rfl, rfl, trivial⟩ Try.call48 (Ok.isPerm (List.Perm.trans (front_perm (i := 2) rfl) (front_perm (i := 2) rfl)) (stamp_Total_1_sim h177 w0 _ M _ (List.Sublist.cons _ hM) (hs_a4_c0.mono (FLe.trans hF125 hF130) (List.Sublist.refl _)) (hs_a4_c1.mono (FLe.trans hF125 hF130) (List.Sublist.refl _)))) ?_
    refine Qt.run rfl rfl (by decide) (Ev.lss rfl rfl) ?_
    refine Qt.run rfl rfl (by decide) (Ev.not rfl) ?_
    refine Qt.done ?_
    refine At.then ?_
    rcases (Bool.eq_false_or_eq_true (!(decide (r176 < (0 : Int))))).symm with hb180 | hb180
    · replace H := ite_f hb180 H
      refine Cd.condF rfl hb180 ?_
      refine Cd.as (e' := [(0, Sl.v s_a0), (1, .int .i64 a1), (2, .int .i64 a2), (3, .int .i64 a3), (4, .func (.func 48) #[] #[.pointer (some ⟨b_a4_c0, 0, none⟩), .pointer (some ⟨b_a4_c1, 0, none⟩)]), (18, .int .i64 (w64 (((BitVec.ofInt 64 (w64 (a1 + a3))) >>> 1).toNat : Int))), (19, .int .i64 (w64 ((w64 (((BitVec.ofInt 64 (w64 (a1 + a3))) >>> 1).toNat : Int)) + a2))), (20, .int .i64 y127), (22, .int .i64 (w64 ((w64 ((w64 (((BitVec.ofInt 64 (w64 (a1 + a3))) >>> 1).toNat : Int)) + a2)) - (1 : Int)))), (23, .int .i64 (w64 (((BitVec.ofInt 64 (w64 (y127 + y128))) >>> 1).toNat : Int)))]) (L' := (.own s_a0 3 1 (encs a0)) :: (.blk b_a4_c0 (enc s_a4_c0) 36) :: (.blk b_a4_c1 (enc s_a4_c1) 24) :: L) ⟨rfl, rfl, rfl, rfl, rfl, rfl, rfl, rfl, rfl, rfl, trivial⟩ rfl ?_
      refine Cd.region ?_
      refine Lst.run rfl rfl (by decide) (Ev.move rfl) ?_
      refine Lst.run rfl rfl (by decide) (Ev.assign rfl) ?_
      refine Lst.nil ?_
      refine At.in_normal ?_
      exact At.meet (k126, y127, w64 (((BitVec.ofInt 64 (w64 (y127 + y128))) >>> 1).toNat : Int)) hF130 ⟨rfl, rfl, rfl, rfl, rfl, rfl, rfl, rfl, rfl, rfl, trivial⟩ rfl ⟨hgo126 _ (some_inj H).symm, Nat.lt_succ_self _⟩
    replace H := ite_t hb180 H
    refine Cd.condT rfl hb180 ?_
    refine Cd.as (e' := [(0, Sl.v s_a0), (1, .int .i64 a1), (2, .int .i64 a2), (3, .int .i64 a3), (4, .func (.func 48) #[] #[.pointer (some ⟨b_a4_c0, 0, none⟩), .pointer (some ⟨b_a4_c1, 0, none⟩)]), (18, .int .i64 (w64 (((BitVec.ofInt 64 (w64 (a1 + a3))) >>> 1).toNat : Int))), (19, .int .i64 (w64 ((w64 (((BitVec.ofInt 64 (w64 (a1 + a3))) >>> 1).toNat : Int)) + a2))), (21, .int .i64 y128), (22, .int .i64 (w64 ((w64 ((w64 (((BitVec.ofInt 64 (w64 (a1 + a3))) >>> 1).toNat : Int)) + a2)) - (1 : Int)))), (23, .int .i64 (w64 (((BitVec.ofInt 64 (w64 (y127 + y128))) >>> 1).toNat : Int)))]) (L' := (.own s_a0 3 1 (encs a0)) :: (.blk b_a4_c0 (enc s_a4_c0) 36) :: (.blk b_a4_c1 (enc s_a4_c1) 24) :: L) ⟨rfl, rfl, rfl, rfl, rfl, rfl, rfl, rfl, rfl, rfl, trivial⟩ rfl ?_
    refine Cd.region ?_
    refine Lst.run rfl rfl (by decide) (Ev.move rfl) ?_
    refine Lst.run rfl rfl (by decide) (Ev.add rfl rfl) ?_
    refine Lst.run rfl rfl (by decide) (Ev.assign rfl) ?_
    refine Lst.nil ?_
    refine At.in_normal ?_
    exact At.meet (k126, w64 ((w64 (((BitVec.ofInt 64 (w64 (y127 + y128))) >>> 1).toNat : Int)) + (1 : Int)), y128) hF130 ⟨rfl, rfl, rfl, rfl, rfl, rfl, rfl, rfl, rfl, rfl, trivial⟩ rfl ⟨hgo126 _ (some_inj H).symm, Nat.lt_succ_self _⟩
theorem slices_symMergeCmpFunc_int_Total_1_sim {fu : Nat} {a0 : List Int} {a1 : Int} {a2 : Int} {a3 : Int} {a4_c0 : List Int} {a4_c1 : List Event} {s_a0 : Sl} {b_a4_c0 : Nat} {s_a4_c0 : Sl} {b_a4_c1 : Nat} {s_a4_c1 : Sl} {r : (List Int)} (H : slices_symMergeCmpFunc_int_Total_1 fu a0 a1 a2 a3 a4_c0 a4_c1 = some r) (w0 : World) (F : Frz) (M L : List Item) (hM : M.Sublist L) (hs_a4_c0 : Rd w0 F M s_a4_c0 a4_c0) (hs_a4_c1 : Rd w0 F M s_a4_c1 a4_c1) : Ok Try.prog w0 74 [Sl.v s_a0, .int .i64 a1, .int .i64 a2, .int .i64 a3, .func (.func 48) #[] #[.pointer (some ⟨b_a4_c0, 0, none⟩), .pointer (some ⟨b_a4_c1, 0, none⟩)]] F ((.own s_a0 3 1 (encs a0)) :: (.blk b_a4_c0 (enc s_a4_c0) 36) :: (.blk b_a4_c1 (enc s_a4_c1) 24) :: L) (fun _ L' v => v = .tuple #[] ∧ L' = (.own s_a0 3 1 (encs r)) :: (.blk b_a4_c0 (enc s_a4_c0) 36) :: (.blk b_a4_c1 (enc s_a4_c1) 24) :: L) :=
  slices_symMergeCmpFunc_int_Total_1_simR fu H w0 F M L hM hs_a4_c0 hs_a4_c1
set_option maxRecDepth 20000 in
theorem slices_stableCmpFunc_int_Total_1_sim {fu : Nat} {a0 : List Int} {a1 : Int} {a2_c0 : List Int} {a2_c1 : List Event} {s_a0 : Sl} {b_a2_c0 : Nat} {s_a2_c0 : Sl} {b_a2_c1 : Nat} {s_a2_c1 : Sl} {r : (List Int)} (H : slices_stableCmpFunc_int_Total_1 fu a0 a1 a2_c0 a2_c1 = some r) (w0 : World) (F : Frz) (M L : List Item) (hM : M.Sublist L) (hs_a2_c0 : Rd w0 F M s_a2_c0 a2_c0) (hs_a2_c1 : Rd w0 F M s_a2_c1 a2_c1) : Ok Try.prog w0 67 [Sl.v s_a0, .int .i64 a1, .func (.func 48) #[] #[.pointer (some ⟨b_a2_c0, 0, none⟩), .pointer (some ⟨b_a2_c1, 0, none⟩)]] F ((.own s_a0 3 1 (encs a0)) :: (.blk b_a2_c0 (enc s_a2_c0) 36) :: (.blk b_a2_c1 (enc s_a2_c1) 24) :: L) (fun _ L' v => v = .tuple #[] ∧ L' = (.own s_a0 3 1 (encs r)) :: (.blk b_a2_c0 (enc s_a2_c0) 36) :: (.blk b_a2_c1 (enc s_a2_c1) 24) :: L) := by
  unfold slices_stableCmpFunc_int_Total_1 at H
  refine Ok.enter (m := 3) (n := 63) Try.func67 rfl rfl rfl (by decide) ?_
  refine Cd.env (e' := [(0, Sl.v s_a0), (1, .int .i64 a1), (2, .func (.func 48) #[] #[.pointer (some ⟨b_a2_c0, 0, none⟩), .pointer (some ⟨b_a2_c1, 0, none⟩)])]) rfl ?_
  refine Cd.seq ?_
  refine Cd.region ?_
  refine Lst.run rfl rfl (by decide) (Ev.assign rfl) ?_
  refine Lst.nil ?_
  refine At.then ?_
  refine Cd.seq ?_
  refine Cd.region ?_
  refine Lst.run rfl rfl (by decide) (Ev.move rfl) ?_
  refine Lst.run rfl rfl (by decide) (Ev.assign rfl) ?_
  refine Lst.run rfl rfl (by decide) (Ev.assign rfl) ?_
  refine Lst.nil ?_
  refine At.then ?_
  refine Cd.seq ?_
  refine Cd.block ?_
  obtain ⟨ol4, H, HKl4⟩ := andThen_some H
  refine Cd.loop (σ := Nat × Int × Int × (List Int)) (fun (k4, y5, y6, l7) => [(0, Sl.v s_a0), (1, .int .i64 a1), (2, .func (.func 48) #[] #[.pointer (some ⟨b_a2_c0, 0, none⟩), .pointer (some ⟨b_a2_c1, 0, none⟩)]), (6, .int .i64 (20 : Int)), (7, .int .i64 y5), (8, .int .i64 y6)]) (fun (k4, y5, y6, l7) => (.own s_a0 3 1 (encs l7)) :: (.blk b_a2_c0 (enc s_a2_c0) 36) :: (.blk b_a2_c1 (enc s_a2_c1) 24) :: L) (fun _ => (fun (k4, y5, y6, l7) => whileM (slices_stableCmpFunc_int_Total_1_B0 fu a1 a2_c0 a2_c1) k4 (y5, y6, l7) = some ol4)) (fun (k4, y5, y6, l7) => k4) (fu, (0 : Int), (20 : Int), a0) ⟨rfl, rfl, rfl, rfl, rfl, rfl, trivial⟩ rfl H ?_
  rintro F8 ⟨k4, y5, y6, l7⟩ hF9 H
  refine Cd.as (e' := [(0, Sl.v s_a0), (1, .int .i64 a1), (2, .func (.func 48) #[] #[.pointer (some ⟨b_a2_c0, 0, none⟩), .pointer (some ⟨b_a2_c1, 0, none⟩)]), (6, .int .i64 (20 : Int)), (7, .int .i64 y5), (8, .int .i64 y6)]) (L' := (.own s_a0 3 1 (encs l7)) :: (.blk b_a2_c0 (enc s_a2_c0) 36) :: (.blk b_a2_c1 (enc s_a2_c1) 24) :: L) ⟨rfl, rfl, rfl, rfl, rfl, rfl, trivial⟩ rfl ?_
  rcases k4 with _ | k4
  · cases H
  obtain ⟨c4, H, hgo4, hbrk4, hret4⟩ := whileM_go H
  unfold slices_stableCmpFunc_int_Total_1_B0 at H
  try dsimp only at H
  refine Cd.seq ?_
  refine Cd.seq ?_
  refine Cd.region ?_
  refine Lst.run rfl rfl (by decide) (Ev.move rfl) ?_
  refine Lst.run rfl rfl (by decide) (Ev.move rfl) ?_
  refine Lst.run rfl rfl (by decide) (Ev.leq rfl rfl) ?_
  refine Lst.nil ?_
  refine At.then ?_
  rcases (Bool.eq_false_or_eq_true (decide (y6 ≤ a1))).symm with hb10 | hb10
  · replace H := ite_f hb10 H
    refine Cd.condF rfl hb10 ?_
    refine Cd.exit ?_
    refine At.then_exit ?_
    refine At.then_exit ?_
    refine At.in_exit ?_
    have H := hbrk4 _ (some_inj H).symm
    subst H
    replace H := HKl4
    refine At.then ?_
    refine Cd.seq ?_
    refine Cd.region ?_
    refine Lst.run rfl rfl (by decide) (Ev.move rfl) ?_
    refine Lst.run rfl rfl (by decide) (Ev.move rfl) ?_
    refine Lst.run rfl rfl (by decide) (Ev.move rfl) ?_
    refine Lst.run rfl rfl (by decide) (Ev.move rfl) ?_
    obtain ⟨r11, h12, H⟩ := bind_some H
    refine Lst.call rfl rfl (by decide) (vs := [Sl.v s_a0, .int .i64 y5, .int .i64 a1, .func (.func 48) #[] #[.pointer (some ⟨b_a2_c0, 0, none⟩), .pointer (some ⟨b_a2_c1, 0, none⟩)]]) ⟨rfl, rfl, rfl, rfl, trivial⟩ Try.call73 (slices_insertionSortCmpFunc_int_Total_1_sim h12 w0 _ M _ hM (hs_a2_c0.mono hF9 (List.Sublist.refl _)) (hs_a2_c1.mono hF9 (List.Sublist.refl _))) (fun F13 L' v hF14 hv => ?_)
    obtain ⟨rfl, rfl⟩ := hv
    refine Lst.nil ?_
    refine At.then ?_
    refine Cd.block ?_
    obtain ⟨ol15, H, HKl15⟩ := andThen_some H
    refine Cd.loop (σ := Nat × Int × (List Int)) (fun (k15, y16, l17) => [(0, Sl.v s_a0), (1, .int .i64 a1), (2, .func (.func 48) #[] #[.pointer (some ⟨b_a2_c0, 0, none⟩), .pointer (some ⟨b_a2_c1, 0, none⟩)]), (6, .int .i64 y16)]) (fun (k15, y16, l17) => (.own s_a0 3 1 (encs l17)) :: (.blk b_a2_c0 (enc s_a2_c0) 36) :: (.blk b_a2_c1 (enc s_a2_c1) 24) :: L) (fun _ => (fun (k15, y16, l17) => whileM (slices_stableCmpFunc_int_Total_1_B2 fu a1 a2_c0 a2_c1) k15 (y16, l17) = some ol15)) (fun (k15, y16, l17) => k15) (fu, (20 : Int), r11) ⟨rfl, rfl, rfl, rfl, trivial⟩ rfl H ?_
    rintro F18 ⟨k15, y16, l17⟩ hF19 H
    refine Cd.as (e' := [(0, Sl.v s_a0), (1, .int .i64 a1), (2, .func (.func 48) #[] #[.pointer (some ⟨b_a2_c0, 0, none⟩), .pointer (some ⟨b_a2_c1, 0, none⟩)]), (6, .int .i64 y16)]) (L' := (.own s_a0 3 1 (encs l17)) :: (.blk b_a2_c0 (enc s_a2_c0) 36) :: (.blk b_a2_c1 (enc s_a2_c1) 24) :: L) ⟨rfl, rfl, rfl, rfl, trivial⟩ rfl ?_
    rcases k15 with _ | k15
    · cases H
    obtain ⟨c15, H, hgo15, hbrk15, hret15⟩ := whileM_go H
    unfold slices_stableCmpFunc_int_Total_1_B2 at H
    try dsimp only at H
    refine Cd.seq ?_
    refine Cd.seq ?_
    refine Cd.region ?_
    refine Lst.run rfl rfl (by decide) (Ev.move rfl) ?_
    refine Lst.run rfl rfl (by decide) (Ev.move rfl) ?_
    refine Lst.run rfl rfl (by decide) (Ev.lss rfl rfl) ?_
    refine Lst.nil ?_
    refine At.then ?_
    rcases (Bool.eq_false_or_eq_true (decide (y16 < a1))).symm with hb20 | hb20
    · replace H := ite_f hb20 H
      refine Cd.condF rfl hb20 ?_
      refine Cd.exit ?_
      refine At.then_exit ?_
      refine At.then_exit ?_
      refine At.in_exit ?_
      have H := hbrk15 _ (some_inj H).symm
      subst H
      replace H := HKl15
      obtain rfl := some_inj H
      exact At.ret0 (.inr rfl) rfl (FLe.trans (FLe.trans hF9 hF14) hF19) (List.Sublist.cons_cons _ (List.Sublist.cons_cons _ (List.Sublist.cons_cons _ (List.Sublist.refl _)))) ⟨rfl, rfl⟩
    replace H := ite_t hb20 H
    refine Cd.condT rfl hb20 ?_
    refine Cd.skip ?_
    refine At.then ?_
    refine Cd.block ?_
    refine Cd.seq ?_
    refine Cd.region ?_
    refine Lst.run rfl rfl (by decide) (Ev.move rfl) ?_
    refine Lst.run rfl rfl (by decide) (Ev.mul rfl rfl) ?_
    refine Lst.run rfl rfl (by decide) (Ev.assign rfl) ?_
    refine Lst.run rfl rfl (by decide) (Ev.assign rfl) ?_
    refine Lst.nil ?_
    refine At.then ?_
    refine Cd.seq ?_
    refine Cd.block ?_
    obtain ⟨ol21, H, HKl21⟩ := andThen_some H
    refine Cd.loop (σ := Nat × Int × Int × (List Int)) (fun (k21, y22, y23, l24) => [(0, Sl.v s_a0), (1, .int .i64 a1), (2, .func (.func 48) #[] #[.pointer (some ⟨b_a2_c0, 0, none⟩), .pointer (some ⟨b_a2_c1, 0, none⟩)]), (6, .int .i64 y16), (7, .int .i64 y22), (8, .int .i64 y23)]) (fun (k21, y22, y23, l24) => (.own s_a0 3 1 (encs l24)) :: (.blk b_a2_c0 (enc s_a2_c0) 36) :: (.blk b_a2_c1 (enc s_a2_c1) 24) :: L) (fun _ => (fun (k21, y22, y23, l24) => whileM (slices_stableCmpFunc_int_Total_1_B4 fu a1 a2_c0 a2_c1 y16) k21 (y22, y23, l24) = some ol21)) (fun (k21, y22, y23, l24) => k21) (fu, (0 : Int), w64 ((2 : Int) * y16), l17) ⟨rfl, rfl, rfl, rfl, rfl, rfl, trivial⟩ rfl H ?_
    rintro F25 ⟨k21, y22, y23, l24⟩ hF26 H
    refine Cd.as (e' := [(0, Sl.v s_a0), (1, .int .i64 a1), (2, .func (.func 48) #[] #[.pointer (some ⟨b_a2_c0, 0, none⟩), .pointer (some ⟨b_a2_c1, 0, none⟩)]), (6, .int .i64 y16), (7, .int .i64 y22), (8, .int .i64 y23)]) (L' := (.own s_a0 3 1 (encs l24)) :: (.blk b_a2_c0 (enc s_a2_c0) 36) :: (.blk b_a2_c1 (enc s_a2_c1) 24) :: L) ⟨rfl, rfl, rfl, rfl, rfl, rfl, trivial⟩ rfl ?_
    rcases k21 with _ | k21
    · cases H
    obtain ⟨c21, H, hgo21, hbrk21, hret21⟩ := whileM_go H
    unfold slices_stableCmpFunc_int_Total_1_B4 at H
    try dsimp only at H
    refine Cd.seq ?_
    refine Cd.seq ?_
    refine Cd.region ?_
    refine Lst.run rfl rfl (by decide) (Ev.move rfl) ?_
    refine Lst.run rfl rfl (by decide) (Ev.move rfl) ?_
    refine Lst.run rfl rfl (by decide) (Ev.leq rfl rfl) ?_
    refine Lst.nil ?_
    refine At.then ?_
    rcases (Bool.eq_false_or_eq_true (decide (y23 ≤ a1))).symm with hb27 | hb27
    · replace H := ite_f hb27 H
      refine Cd.condF rfl hb27 ?_
      refine Cd.exit ?_
      refine At.then_exit ?_
      refine At.then_exit ?_
      refine At.in_exit ?_
      have H := hbrk21 _ (some_inj H).symm
      subst H
      replace H := HKl21
      refine At.then ?_
      refine Cd.seq ?_
      refine Cd.seq ?_
      refine Cd.region ?_
      refine Lst.run rfl rfl (by decide) (Ev.move rfl) ?_
      refine Lst.run rfl rfl (by decide) (Ev.move rfl) ?_
      refine Lst.run rfl rfl (by decide) (Ev.add rfl rfl) ?_
      refine Lst.run rfl rfl (by decide) (Ev.assign rfl) ?_
      refine Lst.nil ?_
      refine At.then ?_
      refine Cd.seq ?_
      refine Cd.region ?_
      refine Lst.run rfl rfl (by decide) (Ev.move rfl) ?_
      refine Lst.run rfl rfl (by decide) (Ev.move rfl) ?_
      refine Lst.run rfl rfl (by decide) (Ev.lss rfl rfl) ?_
      refine Lst.nil ?_
      refine At.then ?_
      rcases (Bool.eq_false_or_eq_true (decide ((w64 (y22 + y16)) < a1))).symm with hb28 | hb28
      · replace H := ite_f hb28 H
        refine Cd.condF rfl hb28 ?_
        refine Cd.skip ?_
        refine At.then ?_
        refine Cd.region ?_
        refine Lst.run rfl rfl (by decide) (Ev.move rfl) ?_
        refine Lst.run rfl rfl (by decide) (Ev.mul rfl rfl) ?_
        refine Lst.run rfl rfl (by decide) (Ev.assign rfl) ?_
        refine Lst.nil ?_
        refine At.in_normal ?_
        exact At.meet (k15, w64 (y16 * (2 : Int)), l24) (FLe.trans hF19 hF26) ⟨rfl, rfl, rfl, rfl, trivial⟩ rfl ⟨hgo15 _ (some_inj H).symm, Nat.lt_succ_self _⟩
      replace H := ite_t hb28 H
      refine Cd.condT rfl hb28 ?_
      refine Cd.region ?_
      refine Lst.run rfl rfl (by decide) (Ev.move rfl) ?_
      refine Lst.run rfl rfl (by decide) (Ev.move rfl) ?_
      refine Lst.run rfl rfl (by decide) (Ev.move rfl) ?_
      refine Lst.run rfl rfl (by decide) (Ev.move rfl) ?_
      refine Lst.run rfl rfl (by decide) (Ev.move rfl) ?_
      obtain ⟨r29, h30, H⟩ := bind_some H
      refine Lst.call rfl rfl (by decide) (vs := [Sl.v s_a0, .int .i64 y22, .int .i64 (w64 (y22 + y16)), .int .i64 a1, .func (.func 48) #[] #[.pointer (some ⟨b_a2_c0, 0, none⟩), .pointer (some ⟨b_a2_c1, 0, none⟩)]]) ⟨rfl, rfl, rfl, rfl, rfl, trivial⟩ Try.call74 (slices_symMergeCmpFunc_int_Total_1_sim h30 w0 _ M _ hM (hs_a2_c0.mono (FLe.trans (FLe.trans (FLe.trans hF9 hF14) hF19) hF26) (List.Sublist.refl _)) (hs_a2_c1.mono (FLe.trans (FLe.trans (FLe.trans hF9 hF14) hF19) hF26) (List.Sublist.refl _))) (fun F31 L' v hF32 hv => ?_)
      obtain ⟨rfl, rfl⟩ := hv
      refine Lst.nil ?_
      refine At.then ?_
      refine Cd.as (e' := [(0, Sl.v s_a0), (1, .int .i64 a1), (2, .func (.func 48) #[] #[.pointer (some ⟨b_a2_c0, 0, none⟩), .pointer (some ⟨b_a2_c1, 0, none⟩)]), (6, .int .i64 y16)]) (L' := (.own s_a0 3 1 (encs r29)) :: (.blk b_a2_c0 (enc s_a2_c0) 36) :: (.blk b_a2_c1 (enc s_a2_c1) 24) :: L) ⟨rfl, rfl, rfl, rfl, trivial⟩ rfl ?_
      refine Cd.region ?_
      refine Lst.run rfl rfl (by decide) (Ev.move rfl) ?_
      refine Lst.run rfl rfl (by decide) (Ev.mul rfl rfl) ?_
      refine Lst.run rfl rfl (by decide) (Ev.assign rfl) ?_
      refine Lst.nil ?_
      refine At.in_normal ?_
      exact At.meet (k15, w64 (y16 * (2 : Int)), r29) (FLe.trans (FLe.trans hF19 hF26) hF32) ⟨rfl, rfl, rfl, rfl, trivial⟩ rfl ⟨hgo15 _ (some_inj H).symm, Nat.lt_succ_self _⟩
    replace H := ite_t hb27 H
    refine Cd.condT rfl hb27 ?_
    refine Cd.skip ?_
    refine At.then ?_
    refine Cd.block ?_
    refine Cd.seq ?_
    refine Cd.region ?_
    refine Lst.run rfl rfl (by decide) (Ev.move rfl) ?_
    refine Lst.run rfl rfl (by decide) (Ev.move rfl) ?_
    refine Lst.run rfl rfl (by decide) (Ev.move rfl) ?_
    refine Lst.run rfl rfl (by decide) (Ev.move rfl) ?_
    refine Lst.run rfl rfl (by decide) (Ev.add rfl rfl) ?_
    refine Lst.run rfl rfl (by decide) (Ev.move rfl) ?_
    refine Lst.run rfl rfl (by decide) (Ev.move rfl) ?_
    obtain ⟨r33, h34, H⟩ := bind_some H
    refine Lst.call rfl rfl (by decide) (vs := [Sl.v s_a0, .int .i64 y22, .int .i64 (w64 (y22 + y16)), .int .i64 y23, .func (.func 48) #[] #[.pointer (some ⟨b_a2_c0, 0, none⟩), .pointer (some ⟨b_a2_c1, 0, none⟩)]]) ⟨rfl, rfl, rfl, rfl, rfl, trivial⟩ Try.call74 (slices_symMergeCmpFunc_int_Total_1_sim h34 w0 _ M _ hM (hs_a2_c0.mono (FLe.trans (FLe.trans (FLe.trans hF9 hF14) hF19) hF26) (List.Sublist.refl _)) (hs_a2_c1.mono (FLe.trans (FLe.trans (FLe.trans hF9 hF14) hF19) hF26) (List.Sublist.refl _))) (fun F35 L' v hF36 hv => ?_)
    obtain ⟨rfl, rfl⟩ := hv
    refine Lst.nil ?_
    refine At.then ?_
    refine Cd.seq ?_
    refine Cd.region ?_
    refine Lst.run rfl rfl (by decide) (Ev.move rfl) ?_
    refine Lst.run rfl rfl (by decide) (Ev.assign rfl) ?_
    refine Lst.nil ?_
    refine At.then ?_
    refine Cd.region ?_
    refine Lst.run rfl rfl (by decide) (Ev.move rfl) ?_
    refine Lst.run rfl rfl (by decide) (Ev.move rfl) ?_
    refine Lst.run rfl rfl (by decide) (Ev.mul rfl rfl) ?_
    refine Lst.run rfl rfl (by decide) (Ev.add rfl rfl) ?_
    refine Lst.run rfl rfl (by decide) (Ev.assign rfl) ?_
    refine Lst.nil ?_
    refine At.in_normal ?_
    exact At.meet (k21, y23, w64 (y23 + (w64 ((2 : Int) * y16))), r33) (FLe.trans hF26 hF36) ⟨rfl, rfl, rfl, rfl, rfl, rfl, trivial⟩ rfl ⟨hgo21 _ (some_inj H).symm, Nat.lt_succ_self _⟩
  replace H := ite_t hb10 H
  refine Cd.condT rfl hb10 ?_
  refine Cd.skip ?_
  refine At.then ?_
  refine Cd.block ?_
  refine Cd.seq ?_
  refine Cd.region ?_
  refine Lst.run rfl rfl (by decide) (Ev.move rfl) ?_
  refine Lst.run rfl rfl (by decide) (Ev.move rfl) ?_
  refine Lst.run rfl rfl (by decide) (Ev.move rfl) ?_
  refine Lst.run rfl rfl (by decide) (Ev.move rfl) ?_
  obtain ⟨r37, h38, H⟩ := bind_some H
  refine Lst.call rfl rfl (by decide) (vs := [Sl.v s_a0, .int .i64 y5, .int .i64 y6, .func (.func 48) #[] #[.pointer (some ⟨b_a2_c0, 0, none⟩), .pointer (some ⟨b_a2_c1, 0, none⟩)]]) ⟨rfl, rfl, rfl, rfl, trivial⟩ Try.call73 (slices_insertionSortCmpFunc_int_Total_1_sim h38 w0 _ M _ hM (hs_a2_c0.mono hF9 (List.Sublist.refl _)) (hs_a2_c1.mono hF9 (List.Sublist.refl _))) (fun F39 L' v hF40 hv => ?_)
  obtain ⟨rfl, rfl⟩ := hv
  refine Lst.nil ?_
  refine At.then ?_
  refine Cd.seq ?_
  refine Cd.region ?_
  refine Lst.run rfl rfl (by decide) (Ev.move rfl) ?_
  refine Lst.run rfl rfl (by decide) (Ev.assign rfl) ?_
  refine Lst.nil ?_
  refine At.then ?_
  refine Cd.region ?_
  refine Lst.run rfl rfl (by decide) (Ev.move rfl) ?_
  refine Lst.run rfl rfl (by decide) (Ev.move rfl) ?_
  refine Lst.run rfl rfl (by decide) (Ev.add rfl rfl) ?_
  refine Lst.run rfl rfl (by decide) (Ev.assign rfl) ?_
  refine Lst.nil ?_
  refine At.in_normal ?_
  exact At.meet (k4, y6, w64 (y6 + (20 : Int)), r37) (FLe.trans hF9 hF40) ⟨rfl, rfl, rfl, rfl, rfl, rfl, trivial⟩ rfl ⟨hgo4 _ (some_inj H).symm, Nat.lt_succ_self _⟩
set_option maxRecDepth 20000 in
theorem slices_SortStableFunc_int_int_Total_1_sim {fu : Nat} {a0 : List Int} {a1_c0 : List Int} {a1_c1 : List Event} {s_a0 : Sl} {b_a1_c0 : Nat} {s_a1_c0 : Sl} {b_a1_c1 : Nat} {s_a1_c1 : Sl} {r : (List Int)} (H : slices_SortStableFunc_int_int_Total_1 fu a0 a1_c0 a1_c1 = some r) (w0 : World) (F : Frz) (M L : List Item) (hM : M.Sublist L) (hs_a1_c0 : Rd w0 F M s_a1_c0 a1_c0) (hs_a1_c1 : Rd w0 F M s_a1_c1 a1_c1) : Ok Try.prog w0 47 [Sl.v s_a0, .func (.func 48) #[] #[.pointer (some ⟨b_a1_c0, 0, none⟩), .pointer (some ⟨b_a1_c1, 0, none⟩)]] F ((.own s_a0 3 1 (encs a0)) :: (.blk b_a1_c0 (enc s_a1_c0) 36) :: (.blk b_a1_c1 (enc s_a1_c1) 24) :: L) (fun _ L' v => v = .tuple #[] ∧ L' = (.own s_a0 3 1 (encs r)) :: (.blk b_a1_c0 (enc s_a1_c0) 36) :: (.blk b_a1_c1 (enc s_a1_c1) 24) :: L) := by
  unfold slices_SortStableFunc_int_int_Total_1 at H
  refine Ok.enter (m := 2) (n := 9) Try.func47 rfl rfl rfl (by decide) ?_
  refine Cd.env (e' := [(0, Sl.v s_a0), (1, .func (.func 48) #[] #[.pointer (some ⟨b_a1_c0, 0, none⟩), .pointer (some ⟨b_a1_c1, 0, none⟩)])]) rfl ?_
  refine Cd.region ?_
  refine Lst.run rfl rfl (by decide) (Ev.move rfl) ?_
  refine Lst.run rfl rfl (by decide) (Ev.move rfl) ?_
  refine Lst.run rfl rfl (by decide) (Ev.lenS (α := Int) (xs := a0) (by decide) rfl rfl Try.runUnderlying36 (Rd.own (i := 0) rfl rfl rfl)) ?_
  refine Lst.run rfl rfl (by decide) (Ev.move rfl) ?_
  obtain ⟨r4, h5, H⟩ := bind_some H
  refine Lst.call rfl rfl (by decide) (vs := [Sl.v s_a0, .int .i64 (a0.length : Int), .func (.func 48) #[] #[.pointer (some ⟨b_a1_c0, 0, none⟩), .pointer (some ⟨b_a1_c1, 0, none⟩)]]) ⟨rfl, rfl, rfl, trivial⟩ Try.call67 (slices_stableCmpFunc_int_Total_1_sim h5 w0 _ M _ hM (hs_a1_c0.mono (FLe.refl _) (List.Sublist.refl _)) (hs_a1_c1.mono (FLe.refl _) (List.Sublist.refl _))) (fun F6 L' v hF7 hv => ?_)
  obtain ⟨rfl, rfl⟩ := hv
  refine Lst.nil ?_
  obtain rfl := some_inj H
  exact At.ret0 (.inr rfl) rfl hF7 (List.Sublist.cons_cons _ (List.Sublist.cons_cons _ (List.Sublist.cons_cons _ (List.Sublist.refl _)))) ⟨rfl, rfl⟩
set_option maxRecDepth 20000 in
theorem stamp_Total_sim {fu : Nat} {a0 : List Event} {s_a0 : Sl} {r : (List Int) × Int} (H : stamp_Total fu a0 = some r) (w0 : World) (F : Frz) (M L : List Item) (hM : M.Sublist L) (hs_a0 : Rd w0 F M s_a0 a0) : Ok Try.prog w0 20 [Sl.v s_a0] F (L) (fun _ L' v => ∃ (s1 : Sl), v = .tuple #[Sl.v s1, .int .i64 r.2] ∧ L' = (.own s1 3 1 (encs r.1)) :: L) := by
  unfold stamp_Total at H
  refine Ok.enter (m := 1) (n := 30) Try.func20 rfl rfl rfl (by decide) ?_
  refine Cd.env (e' := [(0, Sl.v s_a0)]) rfl ?_
  refine Cd.seq ?_
  refine Cd.region ?_
  refine Lst.box rfl rfl (by decide) rfl (cs := enc s_a0) rfl (fun b1 => ?_)
  refine Lst.addNil 3 1 ?_
  refine Lst.run rfl rfl (by decide) (Ev.assign rfl) ?_
  refine Lst.run rfl rfl (by decide) (Ev.assign rfl) ?_
  refine Lst.nil ?_
  refine At.then ?_
  refine Cd.seq ?_
  refine Cd.region ?_
  refine Lst.run rfl rfl (by decide) (Ev.load (i := 1) rfl rfl Try.isAgg24 (v := Sl.v s_a0) (Get.here _)) ?_
  obtain ⟨r4, h5, H⟩ := bind_some H
  refine Lst.call rfl rfl (by decide) (vs := [Sl.v s_a0]) ⟨rfl, trivial⟩ Try.call19 (stamp_Stamps_sim h5 w0 _ M _ (List.Sublist.cons _ (List.Sublist.cons _ hM)) (hs_a0.mono (FLe.refl _) (List.Sublist.refl _))) (fun F8 L' v hF9 hv => ?_)
  obtain ⟨s6, rfl, rfl⟩ := hv
  refine Lst.run rfl rfl (by decide) (Ev.move rfl) ?_
  refine Lst.run rfl rfl (by decide) (Ev.extract rfl rfl) ?_
  refine Lst.run rfl rfl (by decide) (Ev.extract rfl rfl) ?_
  refine Lst.addNil 3 1 ?_
  refine Lst.alloc (cs := enc Sl.nil) rfl rfl (by decide) Try.zeroValue36 rfl (fun b11 => ?_)
  refine Lst.store (i := 0) rfl rfl rfl rfl rfl Try.sizeOf36 (vs := [Sl.v s6]) rfl rfl rfl (cs' := enc s6) (Put.here (vs := [Sl.v s6]) rfl) (L' := (.blk b11 (enc s6) 36) :: (.own Sl.nil 3 1 (encs ([] : List Int))) :: (.own s6 3 1 (encs r4.1)) :: (.own Sl.nil 3 1 (encs ([] : List Int))) :: (.blk b1 (enc s_a0) 24) :: L) rfl ?_
  refine Lst.run rfl rfl (by decide) (Ev.assign rfl) ?_
  refine Lst.nil ?_
  refine At.then ?_
  refine Cd.seq ?_
  refine Cd.seq ?_
  refine Cd.region ?_
  refine Lst.run rfl rfl (by decide) (Ev.move rfl) ?_
  refine Lst.run rfl rfl (by decide) (Ev.neq rfl rfl) ?_
  refine Lst.nil ?_
  refine At.then ?_
  rcases Bool.eq_false_or_eq_true (r4.2 != (0 : Int)) with hb13 | hb13
  · replace H := ite_t hb13 H
    refine Cd.condT rfl hb13 ?_
    refine Cd.seq ?_
    refine Cd.region ?_
    refine Lst.run rfl rfl (by decide) (Ev.move rfl) ?_
    refine Lst.addNil 3 1 ?_
    refine Lst.run rfl rfl (by decide) (Ev.assign rfl) ?_
    refine Lst.run rfl rfl (by decide) (Ev.assign rfl) ?_
    refine Lst.nil ?_
    refine At.then ?_
    obtain rfl := some_inj H
    refine Cd.ret ?_
    refine At.then_ret ?_
    exact At.ret2 rfl (Res.tmp rfl) (Res.tmp rfl) hF9 (List.Sublist.cons_cons _ (List.Sublist.cons _ (List.Sublist.cons _ (List.Sublist.cons _ (List.Sublist.cons _ (List.Sublist.cons _ (List.Sublist.refl _))))))) ⟨Sl.nil, rfl, rfl⟩
  replace H := ite_f hb13 H
  refine Cd.condF rfl hb13 ?_
  refine Cd.skip ?_
  refine At.then ?_
  refine Cd.seq ?_
  refine Cd.region ?_
  refine Lst.addNil 3 1 ?_
  refine Lst.run rfl rfl (by decide) (Ev.assign rfl) ?_
  refine Lst.nil ?_
  refine At.then ?_
  refine Cd.seq ?_
  refine Cd.seq ?_
  refine Cd.region ?_
  refine Lst.run rfl rfl (by decide) (Ev.load (i := 5) rfl rfl Try.isAgg24 (v := Sl.v s_a0) (Get.here _)) ?_
  refine Lst.run rfl rfl (by decide) (Ev.lenS (α := Event) (xs := a0) (by decide) rfl rfl Try.runUnderlying24 (hs_a0.mono hF9 (List.Sublist.cons _ (List.Sublist.cons _ (List.Sublist.cons _ (List.Sublist.cons _ (List.Sublist.cons _ (List.Sublist.cons _ hM)))))))) ?_
  refine Lst.run rfl rfl (by decide) (Ev.move rfl) ?_
  refine Lst.nil ?_
  refine At.then ?_
  refine Cd.block ?_
  refine Cd.bound (Rd.le (α := Event) (xs := a0) (by decide) (hs_a0.mono hF9 (List.Sublist.cons _ (List.Sublist.cons _ (List.Sublist.cons _ (List.Sublist.cons _ (List.Sublist.cons _ (List.Sublist.cons _ hM)))))))) (fun hN30 => ?_)
  obtain ⟨ol16, H, HKl16⟩ := bind_some H
  refine Cd.loop (σ := Nat × Nat × Sl × (List Int)) (fun (i16, k16, s17, l18) => [(1, .pointer (some ⟨b1, 0, none⟩)), (4, .pointer (some ⟨b11, 0, none⟩)), (6, Sl.v s17), (17, .int .i64 (a0.length : Int)), (18, .int .i64 (i16 : Int))]) (fun (i16, k16, s17, l18) => (.own s17 3 1 (encs l18)) :: (.blk b11 (enc s6) 36) :: (.own Sl.nil 3 1 (encs ([] : List Int))) :: (.own s6 3 1 (encs r4.1)) :: (.own Sl.nil 3 1 (encs ([] : List Int))) :: (.blk b1 (enc s_a0) 24) :: L) (fun _ => (fun (i16, k16, s17, l18) => rangeF (stamp_Total_B0) k16 i16 l18 = some ol16 ∧ i16 + k16 = a0.length)) (fun (i16, k16, s17, l18) => k16) (0, a0.length, Sl.nil, ([] : List Int)) ⟨rfl, rfl, rfl, rfl, rfl, trivial⟩ rfl ⟨H, by omega⟩ ?_
  rintro F19 ⟨i16, k16, s17, l18⟩ hF20 ⟨H, hik16⟩
  refine Cd.as (e' := [(1, .pointer (some ⟨b1, 0, none⟩)), (4, .pointer (some ⟨b11, 0, none⟩)), (6, Sl.v s17), (17, .int .i64 (a0.length : Int)), (18, .int .i64 (i16 : Int))]) (L' := (.own s17 3 1 (encs l18)) :: (.blk b11 (enc s6) 36) :: (.own Sl.nil 3 1 (encs ([] : List Int))) :: (.own s6 3 1 (encs r4.1)) :: (.own Sl.nil 3 1 (encs ([] : List Int))) :: (.blk b1 (enc s_a0) 24) :: L) ⟨rfl, rfl, rfl, rfl, rfl, trivial⟩ rfl ?_
  rcases k16 with _ | k16
  · have hc16 : decide ((i16 : Int) < (a0.length : Int)) = false := decide_eq_false (by omega)
    replace H := rangeF_end H
    refine Cd.seq ?_
    refine Cd.region ?_
    refine Lst.run rfl rfl (by decide) (Ev.lss rfl rfl) ?_
    refine Lst.nil ?_
    refine At.then ?_
    refine Cd.seq ?_
    refine Cd.condF rfl hc16 ?_
    refine Cd.exit ?_
    refine At.then_exit ?_
    refine At.then_exit ?_
    refine At.in_exit ?_
    subst H
    replace H := HKl16
    refine At.then ?_
    refine Cd.seq ?_
    refine Cd.region ?_
    refine Lst.run rfl rfl (by decide) (Ev.move rfl) ?_
    refine Lst.run rfl rfl (by decide) (Ev.makeFunc (us := []) (vs := [.pointer (some ⟨b11, 0, none⟩), .pointer (some ⟨b1, 0, none⟩)]) trivial ⟨rfl, rfl, trivial⟩) ?_
    obtain ⟨r26, h27, H⟩ := bind_some H
    refine Lst.front (i := 5) rfl (L' := (.blk b1 (enc s_a0) 24) :: (.own s17 3 1 (encs l18)) :: (.blk b11 (enc s6) 36) :: (.own Sl.nil 3 1 (encs ([] : List Int))) :: (.own s6 3 1 (encs r4.1)) :: (.own Sl.nil 3 1 (encs ([] : List Int))) :: L) rfl ?_
    refine Lst.front (i := 2) rfl (L' := (.blk b11 (enc s6) 36) :: (.blk b1 (enc s_a0) 24) :: (.own s17 3 1 (encs l18)) :: (.own Sl.nil 3 1 (encs ([] : List Int))) :: (.own s6 3 1 (encs r4.1)) :: (.own Sl.nil 3 1 (encs ([] : List Int))) :: L) rfl ?_
    refine Lst.front (i := 2) rfl (L' := (.own s17 3 1 (encs l18)) :: (.blk b11 (enc s6) 36) :: (.blk b1 (enc s_a0) 24) :: (.own Sl.nil 3 1 (encs ([] : List Int))) :: (.own s6 3 1 (encs r4.1)) :: (.own Sl.nil 3 1 (encs ([] : List Int))) :: L) rfl ?_
    refine Lst.call rfl rfl (by decide) (vs := [Sl.v s17, .func (.func 48) #[] #[.pointer (some ⟨b11, 0, none⟩), .pointer (some ⟨b1, 0, none⟩)]]) ⟨rfl, rfl, trivial⟩ Try.call47 (slices_SortStableFunc_int_int_Total_1_sim h27 w0 _ _ _ (List.Sublist.refl _) (Rd.own (i := 1) rfl rfl rfl) (hs_a0.mono (FLe.trans hF9 hF20) (List.Sublist.cons _ (List.Sublist.cons _ (List.Sublist.cons _ hM))))) (fun F28 L' v hF29 hv => ?_)
    obtain ⟨rfl, rfl⟩ := hv
    refine Lst.nil ?_
    refine At.then ?_
    refine Cd.seq ?_
    refine Cd.region ?_
    refine Lst.run rfl rfl (by decide) (Ev.move rfl) ?_
    refine Lst.run rfl rfl (by decide) (Ev.assign rfl) ?_
    refine Lst.run rfl rfl (by decide) (Ev.assign rfl) ?_
    refine Lst.nil ?_
    refine At.then ?_
    obtain rfl := some_inj H
    refine Cd.ret ?_
    exact At.ret2 rfl (Res.tmp rfl) (Res.tmp rfl) (FLe.trans (FLe.trans hF9 hF20) hF29) (List.Sublist.cons_cons _ (List.Sublist.cons _ (List.Sublist.cons _ (List.Sublist.cons _ (List.Sublist.cons _ (List.Sublist.cons _ (List.Sublist.refl _))))))) ⟨s17, rfl, rfl⟩
  have hc16 : decide ((i16 : Int) < (a0.length : Int)) = true := decide_eq_true (by omega)
  obtain ⟨c16, H, hgo16⟩ := rangeF_go H
  unfold stamp_Total_B0 at H
  try dsimp only at H
  refine Cd.seq ?_
  refine Cd.region ?_
  refine Lst.run rfl rfl (by decide) (Ev.lss rfl rfl) ?_
  refine Lst.nil ?_
  refine At.then ?_
  refine Cd.seq ?_
  refine Cd.condT rfl hc16 ?_
  refine Cd.skip ?_
  refine At.then ?_
  refine Cd.seq ?_
  refine Cd.block ?_
  refine Cd.seq ?_
  refine Cd.region ?_
  refine Lst.run rfl rfl (by decide) (Ev.move rfl) ?_
  refine Lst.run rfl rfl (by decide) (Ev.assign rfl) ?_
  refine Lst.nil ?_
  refine At.then ?_
  refine Cd.region ?_
  refine Lst.run rfl rfl (by decide) (Ev.move rfl) ?_
  refine Lst.run rfl rfl (by decide) (Ev.move rfl) ?_
  refine Lst.buildSlice (α := Int) (xs := ([(i16 : Int)] : List Int)) (pv := [(0, .int .i64 (i16 : Int))]) rfl rfl (by decide) ⟨rfl, rfl, trivial⟩ (run_buildSlice (α := Int) (z0 := (0 : Int)) (xs := ([(i16 : Int)] : List Int)) Try.runUnderlying36 Try.sizeOf3 Try.zeroValue3 rfl rfl rfl (by decide) rfl (fill_cons (cs := encs (List.replicate 1 (0 : Int))) (cs' := encs ((List.replicate 1 (0 : Int)).set 0 (i16 : Int))) (vs := [.int .i64 (i16 : Int)]) rfl rfl rfl ((Put.elemN (s := 1) (i := 0) (x := (0 : Int)) (y := (i16 : Int)) rfl rfl (Put.here (vs := [.int .i64 (i16 : Int)]) rfl)).off rfl) fill_nil)) rfl rfl (by decide) (fun s21 _ => ?_)
  obtain ⟨u23, h24, H⟩ := bind_some H
  refine Lst.append (i := 1) (α := Int) (xs := l18) (ys := ([(i16 : Int)] : List Int)) rfl rfl (by decide) rfl rfl Try.runUnderlying36 Try.typeInfo3 rfl rfl rfl rfl rfl rfl (Rd.own (i := 0) rfl rfl rfl) rfl (room_some h24) rfl (fun s25 => ?_)
  refine Lst.its (L' := (.own s21 3 1 (encs ([(i16 : Int)] : List Int))) :: (.own s25 3 1 (encs (l18 ++ ([(i16 : Int)] : List Int)))) :: (.blk b11 (enc s6) 36) :: (.own Sl.nil 3 1 (encs ([] : List Int))) :: (.own s6 3 1 (encs r4.1)) :: (.own Sl.nil 3 1 (encs ([] : List Int))) :: (.blk b1 (enc s_a0) 24) :: L) rfl ?_
  refine Lst.run rfl rfl (by decide) (Ev.assign rfl) ?_
  refine Lst.nil ?_
  refine At.in_normal ?_
  refine At.then ?_
  refine Cd.region ?_
  refine Lst.run rfl rfl (by decide) (Ev.incr (by omega) rfl rfl) ?_
  refine Lst.run rfl rfl (by decide) (Ev.move rfl) ?_
  refine Lst.nil ?_
  refine At.less (L' := (.own s25 3 1 (encs (l18 ++ ([(i16 : Int)] : List Int)))) :: (.blk b11 (enc s6) 36) :: (.own Sl.nil 3 1 (encs ([] : List Int))) :: (.own s6 3 1 (encs r4.1)) :: (.own Sl.nil 3 1 (encs ([] : List Int))) :: (.blk b1 (enc s_a0) 24) :: L) (List.Sublist.cons _ (List.Sublist.cons_cons _ (List.Sublist.cons_cons _ (List.Sublist.cons_cons _ (List.Sublist.cons_cons _ (List.Sublist.cons_cons _ (List.Sublist.cons_cons _ (List.Sublist.refl _)))))))) ?_
  exact At.meet (i16 + 1, k16, s25, l18 ++ ([(i16 : Int)] : List Int)) hF20 ⟨rfl, rfl, rfl, rfl, rfl, trivial⟩ rfl ⟨⟨hgo16 _ (some_inj H).symm, by omega⟩, Nat.lt_succ_self _⟩
set_option maxRecDepth 20000 in
theorem stamp_Ahead_sim {a0 : List Event} {s_a0 : Sl} {r : (List Pair) × Int} (H : stamp_Ahead a0 = some r) (w0 : World) (F : Frz) (M L : List Item) (hM : M.Sublist L) (hs_a0 : Rd w0 F M s_a0 a0) : Ok Try.prog w0 21 [Sl.v s_a0] F (L) (fun _ L' v => ∃ (s1 : Sl), v = .tuple #[Sl.v s1, .int .i64 r.2] ∧ L' = (.own s1 46 2 (encs r.1)) :: L) := by
  unfold stamp_Ahead at H
  refine Ok.enter (m := 1) (n := 129) Try.func21 rfl rfl rfl (by decide) ?_
  refine Cd.env (e' := [(0, Sl.v s_a0)]) rfl ?_
  refine Cd.seq ?_
  refine Cd.region ?_
  refine Lst.addNil 46 2 ?_
  refine Lst.run rfl rfl (by decide) (Ev.assign rfl) ?_
  refine Lst.run rfl rfl (by decide) (Ev.assign rfl) ?_
  refine Lst.nil ?_
  refine At.then ?_
  refine Cd.seq ?_
  refine Cd.seq ?_
  refine Cd.region ?_
  refine Lst.run rfl rfl (by decide) (Ev.move rfl) ?_
  obtain ⟨r2, h3, H⟩ := bind_some H
  refine Lst.call1 rfl rfl (by decide) (vs := [Sl.v s_a0]) ⟨rfl, trivial⟩ Try.call22 (stamp_Check_sim h3 w0 _ M _ (List.Sublist.cons _ hM) (hs_a0.mono (FLe.refl _) (List.Sublist.refl _))) ?_
  refine Lst.run rfl rfl (by decide) (Ev.assign rfl) ?_
  refine Lst.nil ?_
  refine At.then ?_
  refine Cd.seq ?_
  refine Cd.region ?_
  refine Lst.run rfl rfl (by decide) (Ev.move rfl) ?_
  refine Lst.run rfl rfl (by decide) (Ev.neq rfl rfl) ?_
  refine Lst.nil ?_
  refine At.then ?_
  rcases Bool.eq_false_or_eq_true (r2 != (0 : Int)) with hb6 | hb6
  · replace H := ite_t hb6 H
    refine Cd.condT rfl hb6 ?_
    refine Cd.seq ?_
    refine Cd.region ?_
    refine Lst.run rfl rfl (by decide) (Ev.move rfl) ?_
    refine Lst.addNil 46 2 ?_
    refine Lst.run rfl rfl (by decide) (Ev.assign rfl) ?_
    refine Lst.run rfl rfl (by decide) (Ev.assign rfl) ?_
    refine Lst.nil ?_
    refine At.then ?_
    obtain rfl := some_inj H
    refine Cd.ret ?_
    refine At.then_ret ?_
    exact At.ret2 rfl (Res.tmp rfl) (Res.tmp rfl) (FLe.refl _) (List.Sublist.cons_cons _ (List.Sublist.cons _ (List.Sublist.refl _))) ⟨Sl.nil, rfl, rfl⟩
  replace H := ite_f hb6 H
  refine Cd.condF rfl hb6 ?_
  refine Cd.skip ?_
  refine At.then ?_
  refine Cd.seq ?_
  refine Cd.region ?_
  refine Lst.run rfl rfl (by decide) (Ev.move rfl) ?_
  refine Lst.run rfl rfl (by decide) (Ev.lenS (α := Event) (xs := a0) (by decide) rfl rfl Try.runUnderlying24 (hs_a0.mono (FLe.refl _) (List.Sublist.cons _ hM))) ?_
  obtain ⟨n8, h9, H⟩ := bind_some H
  have g10 := mkLen_some h9
  have hm13 : (List.replicate n8 ((LR.mk [] Sl.nil) : LR Bool)).map LR.v = (List.replicate n8 ([] : List Bool)) := map_rep _ _
  refine Lst.make (α := LR Bool) (z0 := ((LR.mk [] Sl.nil) : LR Bool)) (k := n8) rfl rfl (by decide) (congrArg some (congrArg (Value.int .i64) g10.1)) (congrArg some (congrArg (Value.int .i64) g10.1)) Try.runUnderlying42 Try.typeInfo44 rfl rfl rfl rfl rfl g10.2 rfl (fun s11 => ?_)
  refine Lst.rowsNil Bool 4 n8 ?_
  refine Lst.its (L' := (.rows (α := Bool) 4 (List.replicate n8 ((LR.mk [] Sl.nil) : LR Bool))) :: (.own s11 44 1 (encs (List.replicate n8 ((LR.mk [] Sl.nil) : LR Bool)))) :: (.own Sl.nil 46 2 (encs ([] : List Pair))) :: L) rfl ?_
  refine Lst.run rfl rfl (by decide) (Ev.assign rfl) ?_
  refine Lst.nil ?_
  refine At.then ?_
  refine Cd.seq ?_
  refine Cd.seq ?_
  refine Cd.region ?_
  refine Lst.run rfl rfl (by decide) (Ev.move rfl) ?_
  refine Lst.run rfl rfl (by decide) (Ev.lenS (α := Event) (xs := a0) (by decide) rfl rfl Try.runUnderlying24 (hs_a0.mono (FLe.refl _) (List.Sublist.cons _ (List.Sublist.cons _ (List.Sublist.cons _ hM))))) ?_
  refine Lst.run rfl rfl (by decide) (Ev.move rfl) ?_
  refine Lst.nil ?_
  refine At.then ?_
  refine Cd.block ?_
  refine Cd.bound (Rd.le (α := Event) (xs := a0) (by decide) (hs_a0.mono (FLe.refl _) (List.Sublist.cons _ (List.Sublist.cons _ (List.Sublist.cons _ hM))))) (fun hN214 => ?_)
  obtain ⟨ol16, H, HKl16⟩ := bind_some H
  refine Cd.loop (σ := Nat × Nat × (List (List Bool)) × (List (LR Bool))) (fun (i16, k16, l17, rs18) => [(0, Sl.v s_a0), (5, Sl.v s11), (23, Sl.v s_a0), (24, .int .i64 (a0.length : Int)), (25, .int .i64 (i16 : Int))]) (fun (i16, k16, l17, rs18) => (.rows (α := Bool) 4 rs18) :: (.own s11 44 1 (encs rs18)) :: (.own Sl.nil 46 2 (encs ([] : List Pair))) :: L) (fun Fx => (fun (i16, k16, l17, rs18) => rangeF (stamp_Ahead_B0 a0) k16 i16 l17 = some ol16 ∧ i16 + k16 = a0.length ∧ rs18.map LR.v = l17)) (fun (i16, k16, l17, rs18) => k16) (0, a0.length, (List.replicate n8 ([] : List Bool)), (List.replicate n8 ((LR.mk [] Sl.nil) : LR Bool))) ⟨rfl, rfl, rfl, rfl, rfl, trivial⟩ rfl ⟨H, by omega, hm13⟩ ?_
  rintro F20 ⟨i16, k16, l17, rs18⟩ hF21 ⟨H, hik16, fm19⟩
  refine Cd.as (e' := [(0, Sl.v s_a0), (5, Sl.v s11), (23, Sl.v s_a0), (24, .int .i64 (a0.length : Int)), (25, .int .i64 (i16 : Int))]) (L' := (.rows (α := Bool) 4 rs18) :: (.own s11 44 1 (encs rs18)) :: (.own Sl.nil 46 2 (encs ([] : List Pair))) :: L) ⟨rfl, rfl, rfl, rfl, rfl, trivial⟩ rfl ?_
  rcases k16 with _ | k16
  · have hc16 : decide ((i16 : Int) < (a0.length : Int)) = false := decide_eq_false (by omega)
    replace H := rangeF_end H
    refine Cd.seq ?_
    refine Cd.region ?_
    refine Lst.run rfl rfl (by decide) (Ev.lss rfl rfl) ?_
    refine Lst.nil ?_
    refine At.then ?_
    refine Cd.seq ?_
    refine Cd.condF rfl hc16 ?_
    refine Cd.exit ?_
    refine At.then_exit ?_
    refine At.then_exit ?_
    refine At.in_exit ?_
    subst H
    replace H := HKl16
    refine At.then ?_
    refine Cd.seq ?_
    refine Cd.region ?_
    refine Lst.addNil 46 2 ?_
    refine Lst.run rfl rfl (by decide) (Ev.assign rfl) ?_
    refine Lst.nil ?_
    refine At.then ?_
    refine Cd.seq ?_
    refine Cd.seq ?_
    refine Cd.region ?_
    refine Lst.run rfl rfl (by decide) (Ev.move rfl) ?_
    refine Lst.run rfl rfl (by decide) (Ev.lenS (α := Event) (xs := a0) (by decide) rfl rfl Try.runUnderlying24 (hs_a0.mono hF21 (List.Sublist.cons _ (List.Sublist.cons _ (List.Sublist.cons _ (List.Sublist.cons _ hM)))))) ?_
    refine Lst.run rfl rfl (by decide) (Ev.move rfl) ?_
    refine Lst.nil ?_
    refine At.then ?_
    refine Cd.block ?_
    refine Cd.bound (Rd.le (α := Event) (xs := a0) (by decide) (hs_a0.mono hF21 (List.Sublist.cons _ (List.Sublist.cons _ (List.Sublist.cons _ (List.Sublist.cons _ hM)))))) (fun hN213 => ?_)
    obtain ⟨ol188, H, HKl188⟩ := bind_some H
    refine Cd.loop (σ := Nat × Nat × Sl × (List Pair)) (fun (i188, k188, s189, l190) => [(0, Sl.v s_a0), (5, Sl.v s11), (12, Sl.v s189), (104, .int .i64 (a0.length : Int)), (105, .int .i64 (i188 : Int))]) (fun (i188, k188, s189, l190) => (.own s189 46 2 (encs l190)) :: (.rows (α := Bool) 4 rs18) :: (.own s11 44 1 (encs rs18)) :: (.own Sl.nil 46 2 (encs ([] : List Pair))) :: L) (fun _ => (fun (i188, k188, s189, l190) => rangeF (stamp_Ahead_B6 a0 l17) k188 i188 l190 = some ol188 ∧ i188 + k188 = a0.length)) (fun (i188, k188, s189, l190) => k188) (0, a0.length, Sl.nil, ([] : List Pair)) ⟨rfl, rfl, rfl, rfl, rfl, trivial⟩ rfl ⟨H, by omega⟩ ?_
    rintro F191 ⟨i188, k188, s189, l190⟩ hF192 ⟨H, hik188⟩
    refine Cd.as (e' := [(0, Sl.v s_a0), (5, Sl.v s11), (12, Sl.v s189), (104, .int .i64 (a0.length : Int)), (105, .int .i64 (i188 : Int))]) (L' := (.own s189 46 2 (encs l190)) :: (.rows (α := Bool) 4 rs18) :: (.own s11 44 1 (encs rs18)) :: (.own Sl.nil 46 2 (encs ([] : List Pair))) :: L) ⟨rfl, rfl, rfl, rfl, rfl, trivial⟩ rfl ?_
    rcases k188 with _ | k188
    · have hc188 : decide ((i188 : Int) < (a0.length : Int)) = false := decide_eq_false (by omega)
      replace H := rangeF_end H
      refine Cd.seq ?_
      refine Cd.region ?_
      refine Lst.run rfl rfl (by decide) (Ev.lss rfl rfl) ?_
      refine Lst.nil ?_
      refine At.then ?_
      refine Cd.seq ?_
      refine Cd.condF rfl hc188 ?_
      refine Cd.exit ?_
      refine At.then_exit ?_
      refine At.then_exit ?_
      refine At.in_exit ?_
      subst H
      replace H := HKl188
      refine At.then ?_
      refine Cd.seq ?_
      refine Cd.region ?_
      refine Lst.run rfl rfl (by decide) (Ev.move rfl) ?_
      refine Lst.run rfl rfl (by decide) (Ev.assign rfl) ?_
      refine Lst.run rfl rfl (by decide) (Ev.assign rfl) ?_
      refine Lst.nil ?_
      refine At.then ?_
      obtain rfl := some_inj H
      refine Cd.ret ?_
      exact At.ret2 rfl (Res.tmp rfl) (Res.tmp rfl) (FLe.trans hF21 hF192) (List.Sublist.cons_cons _ (List.Sublist.cons _ (List.Sublist.cons _ (List.Sublist.cons _ (List.Sublist.refl _))))) ⟨s189, rfl, rfl⟩
    have hc188 : decide ((i188 : Int) < (a0.length : Int)) = true := decide_eq_true (by omega)
    obtain ⟨c188, H, hgo188⟩ := rangeF_go H
    unfold stamp_Ahead_B6 at H
    try dsimp only at H
    refine Cd.seq ?_
    refine Cd.region ?_
    refine Lst.run rfl rfl (by decide) (Ev.lss rfl rfl) ?_
    refine Lst.nil ?_
    refine At.then ?_
    refine Cd.seq ?_
    refine Cd.condT rfl hc188 ?_
    refine Cd.skip ?_
    refine At.then ?_
    refine Cd.seq ?_
    refine Cd.block ?_
    refine Cd.seq ?_
    refine Cd.region ?_
    refine Lst.run rfl rfl (by decide) (Ev.move rfl) ?_
    refine Lst.run rfl rfl (by decide) (Ev.assign rfl) ?_
    refine Lst.nil ?_
    refine At.then ?_
    refine Cd.seq ?_
    refine Cd.region ?_
    refine Lst.run rfl rfl (by decide) (Ev.move rfl) ?_
    refine Lst.run rfl rfl (by decide) (Ev.lenS (α := Event) (xs := a0) (by decide) rfl rfl Try.runUnderlying24 (hs_a0.mono (FLe.trans hF21 hF192) (List.Sublist.cons _ (List.Sublist.cons _ (List.Sublist.cons _ (List.Sublist.cons _ hM)))))) ?_
    refine Lst.run rfl rfl (by decide) (Ev.move rfl) ?_
    refine Lst.nil ?_
    refine At.then ?_
    refine Cd.block ?_
    refine Cd.bound (Rd.le (α := Event) (xs := a0) (by decide) (hs_a0.mono (FLe.trans hF21 hF192) (List.Sublist.cons _ (List.Sublist.cons _ (List.Sublist.cons _ (List.Sublist.cons _ hM)))))) (fun hN212 => ?_)
    obtain ⟨ol193, H, HKl193⟩ := bind_some H
    refine Cd.loop (σ := Nat × Nat × Sl × (List Pair)) (fun (i193, k193, s194, l195) => [(0, Sl.v s_a0), (5, Sl.v s11), (12, Sl.v s194), (13, .int .i64 (i188 : Int)), (104, .int .i64 (a0.length : Int)), (105, .int .i64 (i188 : Int)), (109, .int .i64 (a0.length : Int)), (110, .int .i64 (i193 : Int))]) (fun (i193, k193, s194, l195) => (.own s194 46 2 (encs l195)) :: (.rows (α := Bool) 4 rs18) :: (.own s11 44 1 (encs rs18)) :: (.own Sl.nil 46 2 (encs ([] : List Pair))) :: L) (fun _ => (fun (i193, k193, s194, l195) => rangeF (stamp_Ahead_B8 l17 i188) k193 i193 l195 = some ol193 ∧ i193 + k193 = a0.length)) (fun (i193, k193, s194, l195) => k193) (0, a0.length, s189, l190) ⟨rfl, rfl, rfl, rfl, rfl, rfl, rfl, rfl, trivial⟩ rfl ⟨H, by omega⟩ ?_
    rintro F196 ⟨i193, k193, s194, l195⟩ hF197 ⟨H, hik193⟩
    refine Cd.as (e' := [(0, Sl.v s_a0), (5, Sl.v s11), (12, Sl.v s194), (13, .int .i64 (i188 : Int)), (104, .int .i64 (a0.length : Int)), (105, .int .i64 (i188 : Int)), (109, .int .i64 (a0.length : Int)), (110, .int .i64 (i193 : Int))]) (L' := (.own s194 46 2 (encs l195)) :: (.rows (α := Bool) 4 rs18) :: (.own s11 44 1 (encs rs18)) :: (.own Sl.nil 46 2 (encs ([] : List Pair))) :: L) ⟨rfl, rfl, rfl, rfl, rfl, rfl, rfl, rfl, trivial⟩ rfl ?_
    rcases k193 with _ | k193
    · have hc193 : decide ((i193 : Int) < (a0.length : Int)) = false := decide_eq_false (by omega)
      replace H := rangeF_end H
      refine Cd.seq ?_
      refine Cd.region ?_
      refine Lst.run rfl rfl (by decide) (Ev.lss rfl rfl) ?_
      refine Lst.nil ?_
      refine At.then ?_
      refine Cd.seq ?_
      refine Cd.condF rfl hc193 ?_
      refine Cd.exit ?_
      refine At.then_exit ?_
      refine At.then_exit ?_
      refine At.in_exit ?_
      subst H
      replace H := HKl193
      refine At.in_normal ?_
      refine At.then ?_
      refine Cd.region ?_
      refine Lst.run rfl rfl (by decide) (Ev.incr (by omega) rfl rfl) ?_
      refine Lst.run rfl rfl (by decide) (Ev.move rfl) ?_
      refine Lst.nil ?_
      exact At.meet (i188 + 1, k188, s194, l195) (FLe.trans hF192 hF197) ⟨rfl, rfl, rfl, rfl, rfl, trivial⟩ rfl ⟨⟨hgo188 _ (some_inj H).symm, by omega⟩, Nat.lt_succ_self _⟩
    have hc193 : decide ((i193 : Int) < (a0.length : Int)) = true := decide_eq_true (by omega)
    obtain ⟨c193, H, hgo193⟩ := rangeF_go H
    unfold stamp_Ahead_B8 at H
    try dsimp only at H
    refine Cd.seq ?_
    refine Cd.region ?_
    refine Lst.run rfl rfl (by decide) (Ev.lss rfl rfl) ?_
    refine Lst.nil ?_
    refine At.then ?_
    refine Cd.seq ?_
    refine Cd.condT rfl hc193 ?_
    refine Cd.skip ?_
    refine At.then ?_
    refine Cd.seq ?_
    refine Cd.block ?_
    refine Cd.seq ?_
    refine Cd.region ?_
    refine Lst.run rfl rfl (by decide) (Ev.move rfl) ?_
    refine Lst.run rfl rfl (by decide) (Ev.assign rfl) ?_
    refine Lst.nil ?_
    refine At.then ?_
    refine Cd.seq ?_
    refine Cd.region ?_
    refine Lst.run rfl rfl (by decide) (Ev.move rfl) ?_
    refine Lst.run rfl rfl (by decide) (Ev.move rfl) ?_
    obtain ⟨x198, h199, H⟩ := bind_some H
    have g200 := lat_some h199
    obtain ⟨⟨r201v, r201h⟩, r201g, r201e, r201m⟩ := map_get fm19 g200.2.2
    obtain rfl : x198 = r201v := r201e.symm
    have hh202 := row_h r201g
    refine Lst.run rfl rfl (by decide) (Ev.indexS (α := LR Bool) (xs := rs18) rfl rfl Try.runUnderlying42 Try.sizeOf44 rfl (by decide) (Rd.own (i := 2) rfl rfl rfl) g200.1 (by have := map_len fm19; omega)) ?_
    refine Lst.run rfl rfl (by decide) (Ev.loadS (α := LR Bool) rfl (Rd.own (i := 2) rfl rfl rfl) Try.isAgg44 (v := Sl.v r201h) ((Get.elemN (s := 1) rfl r201g (Get.here _)).off (by omega))) ?_
    refine Lst.run rfl rfl (by decide) (Ev.move rfl) ?_
    obtain ⟨x203, h204, H⟩ := bind_some H
    have g205 := lat_some h204
    refine Lst.run rfl rfl (by decide) (Ev.indexS (α := Bool) (xs := x198) rfl rfl Try.runUnderlying44 Try.sizeOf4 rfl (by decide) (Rd.row (j := 1) rfl r201g) g205.1 g205.2.1) ?_
    refine Lst.run rfl rfl (by decide) (Ev.loadS (α := Bool) rfl (Rd.row (j := 1) rfl r201g) Try.isAgg4 (v := .bool x203) ((Get.elemN (s := 1) (x := x203) rfl g205.2.2 (Get.here _)).off (by omega))) ?_
    refine Lst.nil ?_
    refine At.then ?_
    rcases (Bool.eq_false_or_eq_true x203).symm with hb206 | hb206
    · replace H := ite_f hb206 H
      refine Cd.condF rfl hb206 ?_
      refine Cd.skip ?_
      refine At.in_normal ?_
      refine At.then ?_
      refine Cd.region ?_
      refine Lst.run rfl rfl (by decide) (Ev.incr (by omega) rfl rfl) ?_
      refine Lst.run rfl rfl (by decide) (Ev.move rfl) ?_
      refine Lst.nil ?_
      exact At.meet (i193 + 1, k193, s194, l195) hF197 ⟨rfl, rfl, rfl, rfl, rfl, rfl, rfl, rfl, trivial⟩ rfl ⟨⟨hgo193 _ (some_inj H).symm, by omega⟩, Nat.lt_succ_self _⟩
    replace H := ite_t hb206 H
    refine Cd.condT rfl hb206 ?_
    refine Cd.region ?_
    refine Lst.run rfl rfl (by decide) (Ev.move rfl) ?_
    refine Lst.run rfl rfl (by decide) (Ev.move rfl) ?_
    refine Lst.run rfl rfl (by decide) (Ev.move rfl) ?_
    refine Lst.run rfl rfl (by decide) (Ev.build (v := .agg (enc ({ Pair.zero with A := (i188 : Int), B := (i193 : Int) } : Pair)).toArray) (pv := [(0, .int .i64 (i188 : Int)), (1, .int .i64 (i193 : Int))]) ⟨rfl, rfl, ⟨rfl, rfl, trivial⟩⟩ (fun w => by kernel_rfl)) ?_
    refine Lst.buildSlice (α := Pair) (xs := ([({ Pair.zero with A := (i188 : Int), B := (i193 : Int) } : Pair)] : List Pair)) (pv := [(0, .agg (enc ({ Pair.zero with A := (i188 : Int), B := (i193 : Int) } : Pair)).toArray)]) rfl rfl (by decide) ⟨rfl, rfl, trivial⟩ (run_buildSlice (α := Pair) (z0 := Pair.zero) (xs := ([({ Pair.zero with A := (i188 : Int), B := (i193 : Int) } : Pair)] : List Pair)) Try.runUnderlying39 Try.sizeOf46 Try.zeroValue46 rfl rfl rfl (by decide) rfl (fill_cons (cs := encs (List.replicate 1 Pair.zero)) (cs' := encs ((List.replicate 1 Pair.zero).set 0 ({ Pair.zero with A := (i188 : Int), B := (i193 : Int) } : Pair))) (vs := enc ({ Pair.zero with A := (i188 : Int), B := (i193 : Int) } : Pair)) rfl rfl (Enc.len _) ((Put.elemN (s := 2) (i := 0) (x := Pair.zero) (y := ({ Pair.zero with A := (i188 : Int), B := (i193 : Int) } : Pair)) rfl rfl (Put.here ((Enc.len _).trans (Enc.len _).symm))).off rfl) fill_nil)) rfl rfl (by decide) (fun s207 _ => ?_)
    obtain ⟨u209, h210, H⟩ := bind_some H
    refine Lst.append (i := 1) (α := Pair) (xs := l195) (ys := ([({ Pair.zero with A := (i188 : Int), B := (i193 : Int) } : Pair)] : List Pair)) rfl rfl (by decide) rfl rfl Try.runUnderlying39 Try.typeInfo46 rfl rfl rfl rfl rfl rfl (Rd.own (i := 0) rfl rfl rfl) rfl (room_some h210) rfl (fun s211 => ?_)
    refine Lst.its (L' := (.own s207 46 2 (encs ([({ Pair.zero with A := (i188 : Int), B := (i193 : Int) } : Pair)] : List Pair))) :: (.own s211 46 2 (encs (l195 ++ ([({ Pair.zero with A := (i188 : Int), B := (i193 : Int) } : Pair)] : List Pair)))) :: (.rows (α := Bool) 4 rs18) :: (.own s11 44 1 (encs rs18)) :: (.own Sl.nil 46 2 (encs ([] : List Pair))) :: L) rfl ?_
    refine Lst.run rfl rfl (by decide) (Ev.assign rfl) ?_
    refine Lst.nil ?_
    refine At.in_normal ?_
    refine At.then ?_
    refine Cd.as (e' := [(0, Sl.v s_a0), (5, Sl.v s11), (13, .int .i64 (i188 : Int)), (104, .int .i64 (a0.length : Int)), (105, .int .i64 (i188 : Int)), (109, .int .i64 (a0.length : Int)), (110, .int .i64 (i193 : Int)), (12, Sl.v s211)]) (L' := (.own s207 46 2 (encs ([({ Pair.zero with A := (i188 : Int), B := (i193 : Int) } : Pair)] : List Pair))) :: (.own s211 46 2 (encs (l195 ++ ([({ Pair.zero with A := (i188 : Int), B := (i193 : Int) } : Pair)] : List Pair)))) :: (.rows (α := Bool) 4 rs18) :: (.own s11 44 1 (encs rs18)) :: (.own Sl.nil 46 2 (encs ([] : List Pair))) :: L) ⟨rfl, rfl, rfl, rfl, rfl, rfl, rfl, rfl, trivial⟩ rfl ?_
    refine Cd.region ?_
    refine Lst.run rfl rfl (by decide) (Ev.incr (by omega) rfl rfl) ?_
    refine Lst.run rfl rfl (by decide) (Ev.move rfl) ?_
    refine Lst.nil ?_
    refine At.less (L' := (.own s211 46 2 (encs (l195 ++ ([({ Pair.zero with A := (i188 : Int), B := (i193 : Int) } : Pair)] : List Pair)))) :: (.rows (α := Bool) 4 rs18) :: (.own s11 44 1 (encs rs18)) :: (.own Sl.nil 46 2 (encs ([] : List Pair))) :: L) (List.Sublist.cons _ (List.Sublist.cons_cons _ (List.Sublist.cons_cons _ (List.Sublist.cons_cons _ (List.Sublist.cons_cons _ (List.Sublist.refl _)))))) ?_
    exact At.meet (i193 + 1, k193, s211, l195 ++ ([({ Pair.zero with A := (i188 : Int), B := (i193 : Int) } : Pair)] : List Pair)) hF197 ⟨rfl, rfl, rfl, rfl, rfl, rfl, rfl, rfl, trivial⟩ rfl ⟨⟨hgo193 _ (some_inj H).symm, by omega⟩, Nat.lt_succ_self _⟩
  have hc16 : decide ((i16 : Int) < (a0.length : Int)) = true := decide_eq_true (by omega)
  obtain ⟨c16, H, hgo16⟩ := rangeF_go H
  unfold stamp_Ahead_B0 at H
  try dsimp only at H
  refine Cd.seq ?_
  refine Cd.region ?_
  refine Lst.run rfl rfl (by decide) (Ev.lss rfl rfl) ?_
  refine Lst.nil ?_
  refine At.then ?_
  refine Cd.seq ?_
  refine Cd.condT rfl hc16 ?_
  refine Cd.skip ?_
  refine At.then ?_
  refine Cd.seq ?_
  refine Cd.block ?_
  refine Cd.seq ?_
  refine Cd.region ?_
  refine Lst.run rfl rfl (by decide) (Ev.move rfl) ?_
  obtain ⟨x22, h23, H⟩ := bind_some H
  have g24 := lat_some h23
  refine Lst.run rfl rfl (by decide) (Ev.indexS (α := Event) (xs := a0) rfl rfl Try.runUnderlying24 Try.sizeOf75 rfl (by decide) (hs_a0.mono hF21 (List.Sublist.cons _ (List.Sublist.cons _ (List.Sublist.cons _ hM)))) g24.1 g24.2.1) ?_
  refine Lst.run rfl rfl (by decide) (Ev.loadSA (α := Event) rfl (hs_a0.mono hF21 (List.Sublist.cons _ (List.Sublist.cons _ (List.Sublist.cons _ hM)))) Try.isAgg75 Try.sizeOf75 (ch := enc x22) (Enc.len _) (by decide) ((Get.elemN (s := 3) (x := x22) rfl g24.2.2 (Get.here _)).off (by omega))) ?_
  refine Lst.alloc (cs := enc Event.zero) rfl rfl (by decide) Try.zeroValue75 rfl (fun b25 => ?_)
  refine Lst.run rfl rfl (by decide) (Ev.assign rfl) ?_
  refine Lst.store (i := 0) rfl rfl rfl rfl rfl Try.sizeOf75 (vs := enc x22) rfl (Enc.len _) (Enc.one _) (cs' := enc x22) (Put.here ((Enc.len _).trans (Enc.len _).symm)) (L' := (.blk b25 (enc x22) 75) :: (.rows (α := Bool) 4 rs18) :: (.own s11 44 1 (encs rs18)) :: (.own Sl.nil 46 2 (encs ([] : List Pair))) :: L) rfl ?_
  refine Lst.nil ?_
  refine At.then ?_
  refine Cd.seq ?_
  refine Cd.region ?_
  refine Lst.run rfl rfl (by decide) (Ev.move rfl) ?_
  refine Lst.run rfl rfl (by decide) (Ev.move rfl) ?_
  refine Lst.run rfl rfl (by decide) (Ev.move rfl) ?_
  refine Lst.run rfl rfl (by decide) (Ev.lenS (α := Event) (xs := a0) (by decide) rfl rfl Try.runUnderlying24 (hs_a0.mono hF21 (List.Sublist.cons _ (List.Sublist.cons _ (List.Sublist.cons _ (List.Sublist.cons _ hM)))))) ?_
  obtain ⟨n27, h28, H⟩ := bind_some H
  have g29 := mkLen_some h28
  refine Lst.make (α := Bool) (z0 := false) (k := n27) rfl rfl (by decide) (congrArg some (congrArg (Value.int .i64) g29.1)) (congrArg some (congrArg (Value.int .i64) g29.1)) Try.runUnderlying44 Try.typeInfo4 rfl rfl rfl rfl rfl g29.2 rfl (fun s30 => ?_)
  obtain ⟨x32, h33, H⟩ := bind_some H
  have g34 := lat_some h33
  obtain ⟨⟨r35v, r35h⟩, r35g, r35e, r35m⟩ := map_get fm19 g34.2.2
  obtain rfl : x32 = r35v := r35e.symm
  have hh36 := row_h r35g
  refine Lst.run rfl rfl (by decide) (Ev.indexS (α := LR Bool) (xs := rs18) rfl rfl Try.runUnderlying42 Try.sizeOf44 rfl (by decide) (Rd.own (i := 3) rfl rfl rfl) g34.1 (by have := map_len fm19; omega)) ?_
  obtain ⟨p37, h38, H⟩ := Let_some H
  have hm39 : (rs18.set (i16 : Int).toNat (LR.mk (List.replicate n27 false) s30)).map LR.v = p37 := (map_set fm19 _ _).trans h38
  refine Lst.storeS (i := 3) rfl rfl rfl rfl rfl Try.sizeOf44 (vs := [Sl.v s30]) rfl rfl (by decide) rfl (xs' := encs (rs18.set (i16 : Int).toNat (LR.mk (List.replicate n27 false) s30))) ((Put.elemN (s := 1) (y := (LR.mk (List.replicate n27 false) s30)) rfl r35g (Put.here (vs := [Sl.v s30]) rfl)).off (by omega)) (L' := (.own s30 4 1 (encs (List.replicate n27 false))) :: (.blk b25 (enc x22) 75) :: (.rows (α := Bool) 4 rs18) :: (.own s11 44 1 (encs (rs18.set (i16 : Int).toNat (LR.mk (List.replicate n27 false) s30)))) :: (.own Sl.nil 46 2 (encs ([] : List Pair))) :: L) rfl ?_
  refine Lst.front (i := 2) rfl (L' := (.rows (α := Bool) 4 rs18) :: (.own s30 4 1 (encs (List.replicate n27 false))) :: (.blk b25 (enc x22) 75) :: (.own s11 44 1 (encs (rs18.set (i16 : Int).toNat (LR.mk (List.replicate n27 false) s30)))) :: (.own Sl.nil 46 2 (encs ([] : List Pair))) :: L) rfl ?_
  refine Lst.front (i := 1) rfl (L' := (.own s30 4 1 (encs (List.replicate n27 false))) :: (.rows (α := Bool) 4 rs18) :: (.blk b25 (enc x22) 75) :: (.own s11 44 1 (encs (rs18.set (i16 : Int).toNat (LR.mk (List.replicate n27 false) s30)))) :: (.own Sl.nil 46 2 (encs ([] : List Pair))) :: L) rfl ?_
  refine Lst.rowIn (k := (i16 : Int).toNat) r35g rfl ?_
  refine Lst.its (L' := (.rows (α := Bool) 4 (rs18.set (i16 : Int).toNat (LR.mk (List.replicate n27 false) s30))) :: (.blk b25 (enc x22) 75) :: (.own s11 44 1 (encs (rs18.set (i16 : Int).toNat (LR.mk (List.replicate n27 false) s30)))) :: (.own Sl.nil 46 2 (encs ([] : List Pair))) :: L) rfl ?_
  refine Lst.nil ?_
  refine At.then ?_
  refine Cd.seq ?_
  refine Cd.region ?_
  refine Lst.run rfl rfl (by decide) (Ev.move rfl) ?_
  refine Lst.run rfl rfl (by decide) (Ev.move rfl) ?_
  obtain ⟨m40, h41, H⟩ := bind_some H
  obtain ⟨g42, gl43⟩ := cutL_some h41
  have hq44 : Rd w0 F M (s_a0.cut (0 : Int).toNat ((i16 : Int) : Int).toNat 3) m40 := by rw [← gl43]; exact Rd.cut (by decide) hs_a0 (by omega) (by omega)
  refine Lst.run rfl rfl (by decide) (Ev.cut (α := Event) (xs := a0) (i := 0) (j := (i16 : Int)) rfl rfl rfl Try.runUnderlying24 Try.sizeOf75 rfl (by decide) (hs_a0.mono hF21 (List.Sublist.cons _ (List.Sublist.cons _ (List.Sublist.cons _ (List.Sublist.cons _ hM))))) g42.1 g42.2.1 g42.2.2) ?_
  refine Lst.run rfl rfl (by decide) (Ev.lenS (α := Event) (xs := m40) (by decide) rfl rfl Try.runUnderlying24 (hq44.mono hF21 (List.Sublist.cons _ (List.Sublist.cons _ (List.Sublist.cons _ (List.Sublist.cons _ hM)))))) ?_
  refine Lst.run rfl rfl (by decide) (Ev.move rfl) ?_
  refine Lst.nil ?_
  refine At.then ?_
  refine Cd.block ?_
  refine Cd.bound (Rd.le (α := Event) (xs := m40) (by decide) (hq44.mono hF21 (List.Sublist.cons _ (List.Sublist.cons _ (List.Sublist.cons _ (List.Sublist.cons _ hM)))))) (fun hN186 => ?_)
  obtain ⟨ol45, H, HKl45⟩ := bind_some H
  refine Cd.loop (σ := Nat × Nat × (List (List Bool)) × (List (LR Bool))) (fun (i45, k45, l46, rs47) => [(0, Sl.v s_a0), (5, Sl.v s11), (6, .int .i64 (i16 : Int)), (7, .pointer (some ⟨b25, 0, none⟩)), (23, Sl.v s_a0), (24, .int .i64 (a0.length : Int)), (25, .int .i64 (i16 : Int)), (38, Sl.v (s_a0.cut (0 : Int).toNat ((i16 : Int) : Int).toNat 3)), (39, .int .i64 (m40.length : Int)), (40, .int .i64 (i45 : Int))]) (fun (i45, k45, l46, rs47) => (.rows (α := Bool) 4 rs47) :: (.blk b25 (enc x22) 75) :: (.own s11 44 1 (encs rs47)) :: (.own Sl.nil 46 2 (encs ([] : List Pair))) :: L) (fun Fx => (fun (i45, k45, l46, rs47) => rangeF (stamp_Ahead_B2 i16 x22 m40) k45 i45 l46 = some ol45 ∧ i45 + k45 = m40.length ∧ rs47.map LR.v = l46)) (fun (i45, k45, l46, rs47) => k45) (0, m40.length, p37, (rs18.set (i16 : Int).toNat (LR.mk (List.replicate n27 false) s30))) ⟨rfl, rfl, rfl, rfl, rfl, rfl, rfl, rfl, rfl, rfl, trivial⟩ rfl ⟨H, by omega, hm39⟩ ?_
  rintro F49 ⟨i45, k45, l46, rs47⟩ hF50 ⟨H, hik45, fm48⟩
  refine Cd.as (e' := [(0, Sl.v s_a0), (5, Sl.v s11), (6, .int .i64 (i16 : Int)), (7, .pointer (some ⟨b25, 0, none⟩)), (23, Sl.v s_a0), (24, .int .i64 (a0.length : Int)), (25, .int .i64 (i16 : Int)), (38, Sl.v (s_a0.cut (0 : Int).toNat ((i16 : Int) : Int).toNat 3)), (39, .int .i64 (m40.length : Int)), (40, .int .i64 (i45 : Int))]) (L' := (.rows (α := Bool) 4 rs47) :: (.blk b25 (enc x22) 75) :: (.own s11 44 1 (encs rs47)) :: (.own Sl.nil 46 2 (encs ([] : List Pair))) :: L) ⟨rfl, rfl, rfl, rfl, rfl, rfl, rfl, rfl, rfl, rfl, trivial⟩ rfl ?_
  rcases k45 with _ | k45
  · have hc45 : decide ((i45 : Int) < (m40.length : Int)) = false := decide_eq_false (by omega)
    replace H := rangeF_end H
    refine Cd.seq ?_
    refine Cd.region ?_
    refine Lst.run rfl rfl (by decide) (Ev.lss rfl rfl) ?_
    refine Lst.nil ?_
    refine At.then ?_
    refine Cd.seq ?_
    refine Cd.condF rfl hc45 ?_
    refine Cd.exit ?_
    refine At.then_exit ?_
    refine At.then_exit ?_
    refine At.in_exit ?_
    subst H
    replace H := HKl45
    refine At.in_normal ?_
    refine At.then ?_
    refine Cd.region ?_
    refine Lst.run rfl rfl (by decide) (Ev.incr (by omega) rfl rfl) ?_
    refine Lst.run rfl rfl (by decide) (Ev.move rfl) ?_
    refine Lst.nil ?_
    refine At.less (L' := (.rows (α := Bool) 4 rs47) :: (.own s11 44 1 (encs rs47)) :: (.own Sl.nil 46 2 (encs ([] : List Pair))) :: L) (List.Sublist.cons_cons _ (List.Sublist.cons _ (List.Sublist.cons_cons _ (List.Sublist.cons_cons _ (List.Sublist.refl _))))) ?_
    exact At.meet (i16 + 1, k16, l46, rs47) (FLe.trans hF21 hF50) ⟨rfl, rfl, rfl, rfl, rfl, trivial⟩ rfl ⟨⟨hgo16 _ (some_inj H).symm, by omega, fm48⟩, Nat.lt_succ_self _⟩
  have hc45 : decide ((i45 : Int) < (m40.length : Int)) = true := decide_eq_true (by omega)
  obtain ⟨c45, H, hgo45⟩ := rangeF_go H
  unfold stamp_Ahead_B2 at H
  try dsimp only at H
  refine Cd.seq ?_
  refine Cd.region ?_
  refine Lst.run rfl rfl (by decide) (Ev.lss rfl rfl) ?_
  refine Lst.nil ?_
  refine At.then ?_
  refine Cd.seq ?_
  refine Cd.condT rfl hc45 ?_
  refine Cd.skip ?_
  refine At.then ?_
  obtain ⟨o54, H, HKo54⟩ := bind_some H
  refine Cd.join (σ := (List (List Bool)) × (List (LR Bool))) (fun (l51, rs52) => [(0, Sl.v s_a0), (5, Sl.v s11), (6, .int .i64 (i16 : Int)), (7, .pointer (some ⟨b25, 0, none⟩)), (23, Sl.v s_a0), (24, .int .i64 (a0.length : Int)), (25, .int .i64 (i16 : Int)), (38, Sl.v (s_a0.cut (0 : Int).toNat ((i16 : Int) : Int).toNat 3)), (39, .int .i64 (m40.length : Int)), (40, .int .i64 (i45 : Int))]) (fun (l51, rs52) => (.rows (α := Bool) 4 rs52) :: (.blk b25 (enc x22) 75) :: (.own s11 44 1 (encs rs52)) :: (.own Sl.nil 46 2 (encs ([] : List Pair))) :: L) (fun Fx (l51, rs52) => l51 = o54 ∧ rs52.map LR.v = l51) ?_ ?_
  · refine Cd.block ?_
    refine Cd.seq ?_
    refine Cd.region ?_
    refine Lst.run rfl rfl (by decide) (Ev.move rfl) ?_
    obtain ⟨x55, h56, H⟩ := bind_some H
    have g57 := lat_some h56
    refine Lst.run rfl rfl (by decide) (Ev.indexS (α := Event) (xs := m40) rfl rfl Try.runUnderlying24 Try.sizeOf75 rfl (by decide) (hq44.mono (FLe.trans hF21 hF50) (List.Sublist.cons _ (List.Sublist.cons _ (List.Sublist.cons _ (List.Sublist.cons _ hM))))) g57.1 g57.2.1) ?_
    refine Lst.run rfl rfl (by decide) (Ev.loadSA (α := Event) rfl (hq44.mono (FLe.trans hF21 hF50) (List.Sublist.cons _ (List.Sublist.cons _ (List.Sublist.cons _ (List.Sublist.cons _ hM))))) Try.isAgg75 Try.sizeOf75 (ch := enc x55) (Enc.len _) (by decide) ((Get.elemN (s := 3) (x := x55) rfl g57.2.2 (Get.here _)).off (by omega))) ?_
    refine Lst.alloc (cs := enc Event.zero) rfl rfl (by decide) Try.zeroValue75 rfl (fun b58 => ?_)
    refine Lst.run rfl rfl (by decide) (Ev.assign rfl) ?_
    refine Lst.store (i := 0) rfl rfl rfl rfl rfl Try.sizeOf75 (vs := enc x55) rfl (Enc.len _) (Enc.one _) (cs' := enc x55) (Put.here ((Enc.len _).trans (Enc.len _).symm)) (L' := (.blk b58 (enc x55) 75) :: (.rows (α := Bool) 4 rs47) :: (.blk b25 (enc x22) 75) :: (.own s11 44 1 (encs rs47)) :: (.own Sl.nil 46 2 (encs ([] : List Pair))) :: L) rfl ?_
    refine Lst.nil ?_
    refine At.then ?_
    refine Cd.seq ?_
    refine Cd.seq ?_
    refine Cd.region ?_
    refine Lst.run rfl rfl (by decide) (Ev.fieldAddr (off' := 0) rfl Try.runUnderlying75 rfl Try.sizeOf3 rfl rfl) ?_
    refine Lst.run rfl rfl (by decide) (Ev.load (i := 0) rfl rfl Try.isAgg3 (v := .int .i64 x55.Proc) ((Event.get_Proc (Get.here _)).off (by rfl))) ?_
    refine Lst.run rfl rfl (by decide) (Ev.fieldAddr (off' := 0) rfl Try.runUnderlying75 rfl Try.sizeOf3 rfl rfl) ?_
    refine Lst.run rfl rfl (by decide) (Ev.load (i := 2) rfl rfl Try.isAgg3 (v := .int .i64 x22.Proc) ((Event.get_Proc (Get.here _)).off (by rfl))) ?_
    refine Lst.run rfl rfl (by decide) (Ev.neq rfl rfl) ?_
    refine Lst.run rfl rfl (by decide) (Ev.move rfl) ?_
    rcases (Bool.eq_false_or_eq_true (x55.Proc != x22.Proc)).symm with hb60 | hb60
    · replace H := ite_f hb60 H
      refine Lst.skip rfl rfl rfl hb60 rfl (by decide) ?_
      refine Lst.skip rfl rfl rfl hb60 rfl (by decide) ?_
      refine Lst.skip rfl rfl rfl hb60 rfl (by decide) ?_
      refine Lst.skip rfl rfl rfl hb60 rfl (by decide) ?_
      refine Lst.skipU rfl rfl rfl rfl (by decide) ?_
      refine Lst.skipU rfl rfl rfl rfl (by decide) ?_
      refine Lst.skipU rfl rfl rfl rfl (by decide) ?_
      refine Lst.skip rfl rfl rfl hb60 rfl (by decide) ?_
      refine Lst.skip rfl rfl rfl hb60 rfl (by decide) ?_
      refine Lst.skipU rfl rfl rfl rfl (by decide) ?_
      refine Lst.skipU rfl rfl rfl rfl (by decide) ?_
      refine Lst.skipU rfl rfl rfl rfl (by decide) ?_
      refine Lst.skipU rfl rfl rfl rfl (by decide) ?_
      refine Lst.skipU rfl rfl rfl rfl (by decide) ?_
      refine Lst.skip rfl rfl rfl hb60 rfl (by decide) ?_
      refine Lst.skip rfl rfl rfl hb60 rfl (by decide) ?_
      refine Lst.run rfl rfl (by decide) (Ev.pickF rfl hb60 rfl) ?_
      refine Lst.nil ?_
      refine At.then ?_
      refine Cd.condF rfl rfl ?_
      refine Cd.skip ?_
      refine At.then ?_
      refine Cd.seq ?_
      refine Cd.as (e' := [(0, Sl.v s_a0), (5, Sl.v s11), (6, .int .i64 (i16 : Int)), (7, .pointer (some ⟨b25, 0, none⟩)), (23, Sl.v s_a0), (24, .int .i64 (a0.length : Int)), (25, .int .i64 (i16 : Int)), (38, Sl.v (s_a0.cut (0 : Int).toNat ((i16 : Int) : Int).toNat 3)), (39, .int .i64 (m40.length : Int)), (40, .int .i64 (i45 : Int)), (8, .int .i64 (i45 : Int))]) (L' := (.blk b58 (enc x55) 75) :: (.rows (α := Bool) 4 rs47) :: (.blk b25 (enc x22) 75) :: (.own s11 44 1 (encs rs47)) :: (.own Sl.nil 46 2 (encs ([] : List Pair))) :: L) ⟨rfl, rfl, rfl, rfl, rfl, rfl, rfl, rfl, rfl, rfl, rfl, trivial⟩ rfl ?_
      refine Cd.region ?_
      refine Lst.run rfl rfl (by decide) (Ev.move rfl) ?_
      refine Lst.run rfl rfl (by decide) (Ev.move rfl) ?_
      obtain ⟨x61, h62, H⟩ := bind_some H
      have g63 := lat_some h62
      obtain ⟨⟨r64v, r64h⟩, r64g, r64e, r64m⟩ := map_get fm48 g63.2.2
      obtain rfl : x61 = r64v := r64e.symm
      have hh65 := row_h r64g
      refine Lst.run rfl rfl (by decide) (Ev.indexS (α := LR Bool) (xs := rs47) rfl rfl Try.runUnderlying42 Try.sizeOf44 rfl (by decide) (Rd.own (i := 3) rfl rfl rfl) g63.1 (by have := map_len fm48; omega)) ?_
      refine Lst.run rfl rfl (by decide) (Ev.loadS (α := LR Bool) rfl (Rd.own (i := 3) rfl rfl rfl) Try.isAgg44 (v := Sl.v r64h) ((Get.elemN (s := 1) rfl r64g (Get.here _)).off (by omega))) ?_
      refine Lst.run rfl rfl (by decide) (Ev.move rfl) ?_
      obtain ⟨x66, h67, H⟩ := bind_some H
      have g68 := lat_some h67
      refine Lst.run rfl rfl (by decide) (Ev.indexS (α := Bool) (xs := x61) rfl rfl Try.runUnderlying44 Try.sizeOf4 rfl (by decide) (Rd.row (j := 1) rfl r64g) g68.1 g68.2.1) ?_
      obtain ⟨p69, h70, H⟩ := Let_some H
      have hm71 : (rs47.set (i16 : Int).toNat (LR.mk (x61.set (i45 : Int).toNat true) r64h)).map LR.v = p69 := (map_set fm48 _ _).trans h70
      refine Lst.front (i := 1) rfl (L' := (.rows (α := Bool) 4 rs47) :: (.blk b58 (enc x55) 75) :: (.blk b25 (enc x22) 75) :: (.own s11 44 1 (encs rs47)) :: (.own Sl.nil 46 2 (encs ([] : List Pair))) :: L) rfl ?_
      refine Lst.storeR (α := Bool) rfl rfl rfl rfl r64g Try.sizeOf4 (vs := [.bool true]) rfl rfl (by decide) rfl (xs' := (x61.set (i45 : Int).toNat true)) ((Put.elemN (s := 1) (x := x66) rfl g68.2.2 (Put.here (vs := [.bool true]) rfl)).off (by omega)) ?_
      refine Lst.its (L' := (.rows (α := Bool) 4 (rs47.set (i16 : Int).toNat (LR.mk (x61.set (i45 : Int).toNat true) r64h))) :: (.blk b58 (enc x55) 75) :: (.blk b25 (enc x22) 75) :: (.own s11 44 1 (encs (rs47.set (i16 : Int).toNat (LR.mk (x61.set (i45 : Int).toNat true) r64h)))) :: (.own Sl.nil 46 2 (encs ([] : List Pair))) :: L) (by rw [show encs (rs47.set (i16 : Int).toNat (LR.mk (x61.set (i45 : Int).toNat true) r64h)) = encs rs47 from encs_rowv r64g]) ?_
      refine Lst.nil ?_
      refine At.then ?_
      refine Cd.seq ?_
      refine Cd.region ?_
      refine Lst.run rfl rfl (by decide) (Ev.move rfl) ?_
      refine Lst.run rfl rfl (by decide) (Ev.move rfl) ?_
      obtain ⟨x73, h74, H⟩ := bind_some H
      have g75 := lat_some h74
      obtain ⟨⟨r76v, r76h⟩, r76g, r76e, r76m⟩ := map_get hm71 g75.2.2
      obtain rfl : x73 = r76v := r76e.symm
      have hh77 := row_h r76g
      refine Lst.run rfl rfl (by decide) (Ev.indexS (α := LR Bool) (xs := (rs47.set (i16 : Int).toNat (LR.mk (x61.set (i45 : Int).toNat true) r64h))) rfl rfl Try.runUnderlying42 Try.sizeOf44 rfl (by decide) (Rd.own (i := 3) rfl rfl rfl) g75.1 (by have := map_len hm71; omega)) ?_
      refine Lst.run rfl rfl (by decide) (Ev.loadS (α := LR Bool) rfl (Rd.own (i := 3) rfl rfl rfl) Try.isAgg44 (v := Sl.v r76h) ((Get.elemN (s := 1) rfl r76g (Get.here _)).off (by omega))) ?_
      refine Lst.run rfl rfl (by decide) (Ev.lenS (α := Bool) (xs := x73) (by decide) rfl rfl Try.runUnderlying44 (Rd.row (j := 0) rfl r76g)) ?_
      refine Lst.run rfl rfl (by decide) (Ev.move rfl) ?_
      refine Lst.nil ?_
      refine At.then ?_
      refine Cd.block ?_
      refine Cd.bound (Rd.le (α := Bool) (xs := x73) (by decide) (Rd.row (j := 0) rfl r76g)) (fun hN116 => ?_)
      obtain ⟨ol78, H, HKl78⟩ := bind_some H
      refine Cd.loop (σ := Nat × Nat × (List (List Bool)) × (List (LR Bool))) (fun (i78, k78, l79, rs80) => [(0, Sl.v s_a0), (5, Sl.v s11), (6, .int .i64 (i16 : Int)), (7, .pointer (some ⟨b25, 0, none⟩)), (23, Sl.v s_a0), (24, .int .i64 (a0.length : Int)), (25, .int .i64 (i16 : Int)), (38, Sl.v (s_a0.cut (0 : Int).toNat ((i16 : Int) : Int).toNat 3)), (39, .int .i64 (m40.length : Int)), (40, .int .i64 (i45 : Int)), (77, Sl.v r76h), (78, .int .i64 (x73.length : Int)), (79, .int .i64 (i78 : Int))]) (fun (i78, k78, l79, rs80) => (.rows (α := Bool) 4 rs80) :: (.blk b58 (enc x55) 75) :: (.blk b25 (enc x22) 75) :: (.own s11 44 1 (encs rs80)) :: (.own Sl.nil 46 2 (encs ([] : List Pair))) :: L) (fun Fx => (fun (i78, k78, l79, rs80) => rangeF (stamp_Ahead_B4 i16 i45) k78 i78 l79 = some ol78 ∧ i78 + k78 = x73.length ∧ rs80.map LR.v = l79 ∧ (rs80.map LR.h)[(i45 : Int).toNat]? = some r76h)) (fun (i78, k78, l79, rs80) => k78) (0, x73.length, p69, (rs47.set (i16 : Int).toNat (LR.mk (x61.set (i45 : Int).toNat true) r64h))) ⟨rfl, rfl, rfl, rfl, rfl, rfl, rfl, rfl, rfl, rfl, rfl, rfl, rfl, trivial⟩ rfl ⟨H, by omega, hm71, hh77⟩ ?_
      rintro F83 ⟨i78, k78, l79, rs80⟩ hF84 ⟨H, hik78, fm81, hh82⟩
      refine Cd.as (e' := [(0, Sl.v s_a0), (5, Sl.v s11), (6, .int .i64 (i16 : Int)), (7, .pointer (some ⟨b25, 0, none⟩)), (23, Sl.v s_a0), (24, .int .i64 (a0.length : Int)), (25, .int .i64 (i16 : Int)), (38, Sl.v (s_a0.cut (0 : Int).toNat ((i16 : Int) : Int).toNat 3)), (39, .int .i64 (m40.length : Int)), (40, .int .i64 (i45 : Int)), (77, Sl.v r76h), (78, .int .i64 (x73.length : Int)), (79, .int .i64 (i78 : Int))]) (L' := (.rows (α := Bool) 4 rs80) :: (.blk b58 (enc x55) 75) :: (.blk b25 (enc x22) 75) :: (.own s11 44 1 (encs rs80)) :: (.own Sl.nil 46 2 (encs ([] : List Pair))) :: L) ⟨rfl, rfl, rfl, rfl, rfl, rfl, rfl, rfl, rfl, rfl, rfl, rfl, rfl, trivial⟩ rfl ?_
      rcases k78 with _ | k78
      · have hc78 : decide ((i78 : Int) < (x73.length : Int)) = false := decide_eq_false (by omega)
        replace H := rangeF_end H
        refine Cd.seq ?_
        refine Cd.region ?_
        refine Lst.run rfl rfl (by decide) (Ev.lss rfl rfl) ?_
        refine Lst.nil ?_
        refine At.then ?_
        refine Cd.seq ?_
        refine Cd.condF rfl hc78 ?_
        refine Cd.exit ?_
        refine At.then_exit ?_
        refine At.then_exit ?_
        refine At.in_exit ?_
        subst H
        replace H := HKl78
        refine At.in_normal ?_
        refine At.less (L' := (.rows (α := Bool) 4 rs80) :: (.blk b25 (enc x22) 75) :: (.own s11 44 1 (encs rs80)) :: (.own Sl.nil 46 2 (encs ([] : List Pair))) :: L) (List.Sublist.cons_cons _ (List.Sublist.cons _ (List.Sublist.cons_cons _ (List.Sublist.cons_cons _ (List.Sublist.cons_cons _ (List.Sublist.refl _)))))) ?_
        exact At.meet (l79, rs80) hF84 ⟨rfl, rfl, rfl, rfl, rfl, rfl, rfl, rfl, rfl, rfl, trivial⟩ rfl ⟨some_inj H, fm81⟩
      have hc78 : decide ((i78 : Int) < (x73.length : Int)) = true := decide_eq_true (by omega)
      obtain ⟨c78, H, hgo78⟩ := rangeF_go H
      unfold stamp_Ahead_B4 at H
      try dsimp only at H
      refine Cd.seq ?_
      refine Cd.region ?_
      refine Lst.run rfl rfl (by decide) (Ev.lss rfl rfl) ?_
      refine Lst.nil ?_
      refine At.then ?_
      refine Cd.seq ?_
      refine Cd.condT rfl hc78 ?_
      refine Cd.skip ?_
      refine At.then ?_
      refine Cd.seq ?_
      refine Cd.block ?_
      refine Cd.seq ?_
      refine Cd.region ?_
      refine Lst.run rfl rfl (by decide) (Ev.move rfl) ?_
      obtain ⟨x85, h86, H⟩ := bind_some H
      have g87 := lat_some h86
      obtain ⟨⟨r88v, r88h⟩, r88g, r88e, r88m⟩ := map_get fm81 g87.2.2
      obtain rfl : x85 = r88v := r88e.symm
      obtain rfl := row_handle hh82 r88g
      obtain ⟨x89, h90, H⟩ := bind_some H
      have g91 := lat_some h90
      refine Lst.run rfl rfl (by decide) (Ev.indexS (α := Bool) (xs := x85) rfl rfl Try.runUnderlying44 Try.sizeOf4 rfl (by decide) (Rd.row (j := 0) rfl r88g) g91.1 g91.2.1) ?_
      refine Lst.run rfl rfl (by decide) (Ev.loadS (α := Bool) rfl (Rd.row (j := 0) rfl r88g) Try.isAgg4 (v := .bool x89) ((Get.elemN (s := 1) (x := x89) rfl g91.2.2 (Get.here _)).off (by omega))) ?_
      refine Lst.run rfl rfl (by decide) (Ev.assign rfl) ?_
      refine Lst.run rfl rfl (by decide) (Ev.assign rfl) ?_
      refine Lst.nil ?_
      refine At.then ?_
      refine Cd.tail 16 (by kernel_rfl) (by kernel_rfl) ?_
      refine Qt.run rfl rfl (by decide) (Ev.move rfl) ?_
      refine Qt.run rfl rfl (by decide) (Ev.move rfl) ?_
      obtain ⟨x92, h93, H⟩ := bind_some H
      have g94 := lat_some h93
      obtain ⟨⟨r95v, r95h⟩, r95g, r95e, r95m⟩ := map_get fm81 g94.2.2
      obtain rfl : x92 = r95v := r95e.symm
      have hh96 := row_h r95g
      refine Qt.run rfl rfl (by decide) (Ev.indexS (α := LR Bool) (xs := rs80) rfl rfl Try.runUnderlying42 Try.sizeOf44 rfl (by decide) (Rd.own (i := 3) rfl rfl rfl) g94.1 (by have := map_len fm81; omega)) ?_
      refine Qt.run rfl rfl (by decide) (Ev.loadS (α := LR Bool) rfl (Rd.own (i := 3) rfl rfl rfl) Try.isAgg44 (v := Sl.v r95h) ((Get.elemN (s := 1) rfl r95g (Get.here _)).off (by omega))) ?_
      refine Qt.run rfl rfl (by decide) (Ev.move rfl) ?_
      refine Qt.run rfl rfl (by decide) (Ev.move rfl) ?_
      refine Qt.run rfl rfl (by decide) (Ev.move rfl) ?_
      obtain ⟨x97, h98, H⟩ := bind_some H
      have g99 := lat_some h98
      obtain ⟨⟨r100v, r100h⟩, r100g, r100e, r100m⟩ := map_get fm81 g99.2.2
      obtain rfl : x97 = r100v := r100e.symm
      have hh101 := row_h r100g
      refine Qt.run rfl rfl (by decide) (Ev.indexS (α := LR Bool) (xs := rs80) rfl rfl Try.runUnderlying42 Try.sizeOf44 rfl (by decide) (Rd.own (i := 3) rfl rfl rfl) g99.1 (by have := map_len fm81; omega)) ?_
      refine Qt.run rfl rfl (by decide) (Ev.loadS (α := LR Bool) rfl (Rd.own (i := 3) rfl rfl rfl) Try.isAgg44 (v := Sl.v r100h) ((Get.elemN (s := 1) rfl r100g (Get.here _)).off (by omega))) ?_
      refine Qt.run rfl rfl (by decide) (Ev.move rfl) ?_
      obtain ⟨x102, h103, H⟩ := bind_some H
      have g104 := lat_some h103
      refine Qt.run rfl rfl (by decide) (Ev.indexS (α := Bool) (xs := x97) rfl rfl Try.runUnderlying44 Try.sizeOf4 rfl (by decide) (Rd.row (j := 0) rfl r100g) g104.1 g104.2.1) ?_
      refine Qt.run rfl rfl (by decide) (Ev.loadS (α := Bool) rfl (Rd.row (j := 0) rfl r100g) Try.isAgg4 (v := .bool x102) ((Get.elemN (s := 1) (x := x102) rfl g104.2.2 (Get.here _)).off (by omega))) ?_
      refine Qt.run rfl rfl (by decide) (Ev.move rfl) ?_
      obtain ⟨o105, H, HKo105⟩ := bind_some H
      refine Qt.join (σ := Bool) 2 (fun y106 => [(0, Sl.v s_a0), (5, Sl.v s11), (6, .int .i64 (i16 : Int)), (7, .pointer (some ⟨b25, 0, none⟩)), (23, Sl.v s_a0), (24, .int .i64 (a0.length : Int)), (25, .int .i64 (i16 : Int)), (38, Sl.v (s_a0.cut (0 : Int).toNat ((i16 : Int) : Int).toNat 3)), (39, .int .i64 (m40.length : Int)), (40, .int .i64 (i45 : Int)), (77, Sl.v r76h), (78, .int .i64 (x73.length : Int)), (79, .int .i64 (i78 : Int)), (87, Sl.v r95h), (88, .int .i64 (i78 : Int)), (98, .bool y106)]) (fun y106 => y106 = o105) ?_ ?_
      · rcases Bool.eq_false_or_eq_true x102 with hb107 | hb107
        · replace H := ite_t hb107 H
          refine Qt.skip rfl rfl rfl hb107 rfl (by decide) ?_
          refine Qt.run rfl rfl (by decide) (Ev.pickT rfl hb107 rfl) ?_
          exact Qt.meet true ⟨rfl, rfl, rfl, rfl, rfl, rfl, rfl, rfl, rfl, rfl, rfl, rfl, rfl, rfl, rfl, rfl, trivial⟩ (some_inj H)
        replace H := ite_f hb107 H
        refine Qt.runG rfl rfl rfl hb107 rfl (by decide) (Ev.move rfl) ?_
        refine Qt.run rfl rfl (by decide) (Ev.pickF rfl hb107 rfl) ?_
        exact Qt.meet x89 ⟨rfl, rfl, rfl, rfl, rfl, rfl, rfl, rfl, rfl, rfl, rfl, rfl, rfl, rfl, rfl, rfl, trivial⟩ (some_inj H)
      rintro y106 hy
      subst hy
      refine Qt.as (e' := [(0, Sl.v s_a0), (5, Sl.v s11), (6, .int .i64 (i16 : Int)), (7, .pointer (some ⟨b25, 0, none⟩)), (23, Sl.v s_a0), (24, .int .i64 (a0.length : Int)), (25, .int .i64 (i16 : Int)), (38, Sl.v (s_a0.cut (0 : Int).toNat ((i16 : Int) : Int).toNat 3)), (39, .int .i64 (m40.length : Int)), (40, .int .i64 (i45 : Int)), (77, Sl.v r76h), (78, .int .i64 (x73.length : Int)), (79, .int .i64 (i78 : Int)), (87, Sl.v r95h), (88, .int .i64 (i78 : Int)), (98, .bool y106)]) ⟨rfl, rfl, rfl, rfl, rfl, rfl, rfl, rfl, rfl, rfl, rfl, rfl, rfl, rfl, rfl, rfl, trivial⟩ ?_
      replace H := HKo105
      obtain ⟨x108, h109, H⟩ := bind_some H
      have g110 := lat_some h109
      refine Qt.run rfl rfl (by decide) (Ev.indexS (α := Bool) (xs := x92) rfl rfl Try.runUnderlying44 Try.sizeOf4 rfl (by decide) (Rd.row (j := 0) rfl r95g) g110.1 g110.2.1) ?_
      refine Qt.tail ?_
      obtain ⟨p111, h112, H⟩ := Let_some H
      have hm113 : (rs80.set (i16 : Int).toNat (LR.mk (x92.set (i78 : Int).toNat y106) r95h)).map LR.v = p111 := (map_set fm81 _ _).trans h112
      have hh115 := row_h_set (xs := (x92.set (i78 : Int).toNat y106)) r95g hh82
      refine Lst.storeR (α := Bool) rfl rfl rfl rfl r95g Try.sizeOf4 (vs := [.bool y106]) rfl rfl (by decide) rfl (xs' := (x92.set (i78 : Int).toNat y106)) ((Put.elemN (s := 1) (x := x108) rfl g110.2.2 (Put.here (vs := [.bool y106]) rfl)).off (by omega)) ?_
      refine Lst.its (L' := (.rows (α := Bool) 4 (rs80.set (i16 : Int).toNat (LR.mk (x92.set (i78 : Int).toNat y106) r95h))) :: (.blk b58 (enc x55) 75) :: (.blk b25 (enc x22) 75) :: (.own s11 44 1 (encs (rs80.set (i16 : Int).toNat (LR.mk (x92.set (i78 : Int).toNat y106) r95h)))) :: (.own Sl.nil 46 2 (encs ([] : List Pair))) :: L) (by rw [show encs (rs80.set (i16 : Int).toNat (LR.mk (x92.set (i78 : Int).toNat y106) r95h)) = encs rs80 from encs_rowv r95g]) ?_
      refine Lst.nil ?_
      refine At.in_normal ?_
      refine At.then ?_
      refine Cd.region ?_
      refine Lst.run rfl rfl (by decide) (Ev.incr (by omega) rfl rfl) ?_
      refine Lst.run rfl rfl (by decide) (Ev.move rfl) ?_
      refine Lst.nil ?_
      exact At.meet (i78 + 1, k78, p111, (rs80.set (i16 : Int).toNat (LR.mk (x92.set (i78 : Int).toNat y106) r95h))) hF84 ⟨rfl, rfl, rfl, rfl, rfl, rfl, rfl, rfl, rfl, rfl, rfl, rfl, rfl, trivial⟩ rfl ⟨⟨hgo78 _ (some_inj H).symm, by omega, hm113, hh115⟩, Nat.lt_succ_self _⟩
    replace H := ite_t hb60 H
    refine Lst.runG rfl rfl rfl hb60 rfl (by decide) (Ev.fieldAddr (off' := 1) rfl Try.runUnderlying75 rfl Try.sizeOf3 rfl rfl) ?_
    refine Lst.runG rfl rfl rfl hb60 rfl (by decide) (Ev.load (i := 0) rfl rfl Try.isAgg3 (v := .int .i64 x55.Kind) ((Event.get_Kind (Get.here _)).off (by rfl))) ?_
    refine Lst.runG rfl rfl rfl hb60 rfl (by decide) (Ev.eql rfl rfl) ?_
    refine Lst.runG rfl rfl rfl hb60 rfl (by decide) (Ev.move rfl) ?_
    obtain ⟨o117, H, HKo117⟩ := bind_some H
    refine Lst.join (σ := Bool) 4 (fun y118 => [(0, Sl.v s_a0), (5, Sl.v s11), (6, .int .i64 (i16 : Int)), (7, .pointer (some ⟨b25, 0, none⟩)), (8, .int .i64 (i45 : Int)), (9, .pointer (some ⟨b58, 0, none⟩)), (23, Sl.v s_a0), (24, .int .i64 (a0.length : Int)), (25, .int .i64 (i16 : Int)), (38, Sl.v (s_a0.cut (0 : Int).toNat ((i16 : Int) : Int).toNat 3)), (39, .int .i64 (m40.length : Int)), (40, .int .i64 (i45 : Int)), (50, .bool (x55.Proc != x22.Proc)), (58, .bool y118)]) (fun y118 => (.blk b58 (enc x55) 75) :: (.rows (α := Bool) 4 rs47) :: (.blk b25 (enc x22) 75) :: (.own s11 44 1 (encs rs47)) :: (.own Sl.nil 46 2 (encs ([] : List Pair))) :: L) (fun _ y118 => y118 = o117) ?_ ?_
    · rcases (Bool.eq_false_or_eq_true (x55.Kind == (2 : Int))).symm with hb119 | hb119
      · replace H := ite_f hb119 H
        refine Lst.skip rfl rfl rfl hb119 rfl (by decide) ?_
        refine Lst.skip rfl rfl rfl hb119 rfl (by decide) ?_
        refine Lst.skip rfl rfl rfl hb119 rfl (by decide) ?_
        refine Lst.runG rfl rfl rfl hb60 rfl (by decide) (Ev.pickF rfl hb119 rfl) ?_
        refine Lst.nil ?_
        exact At.meet false (FLe.refl _) ⟨rfl, rfl, rfl, rfl, rfl, rfl, rfl, rfl, rfl, rfl, rfl, rfl, rfl, rfl, trivial⟩ rfl (some_inj H)
      replace H := ite_t hb119 H
      refine Lst.runG rfl rfl rfl hb119 rfl (by decide) (Ev.fieldAddr (off' := 1) rfl Try.runUnderlying75 rfl Try.sizeOf3 rfl rfl) ?_
      refine Lst.runG rfl rfl rfl hb119 rfl (by decide) (Ev.load (i := 2) rfl rfl Try.isAgg3 (v := .int .i64 x22.Kind) ((Event.get_Kind (Get.here _)).off (by rfl))) ?_
      refine Lst.runG rfl rfl rfl hb119 rfl (by decide) (Ev.eql rfl rfl) ?_
      refine Lst.runG rfl rfl rfl hb60 rfl (by decide) (Ev.pickT rfl hb119 rfl) ?_
      refine Lst.nil ?_
      exact At.meet (x22.Kind == (3 : Int)) (FLe.refl _) ⟨rfl, rfl, rfl, rfl, rfl, rfl, rfl, rfl, rfl, rfl, rfl, rfl, rfl, rfl, trivial⟩ rfl (some_inj H)
    rintro F120 y118 hF121 hy
    subst hy
    refine Lst.as (e' := [(0, Sl.v s_a0), (5, Sl.v s11), (6, .int .i64 (i16 : Int)), (7, .pointer (some ⟨b25, 0, none⟩)), (8, .int .i64 (i45 : Int)), (9, .pointer (some ⟨b58, 0, none⟩)), (23, Sl.v s_a0), (24, .int .i64 (a0.length : Int)), (25, .int .i64 (i16 : Int)), (38, Sl.v (s_a0.cut (0 : Int).toNat ((i16 : Int) : Int).toNat 3)), (39, .int .i64 (m40.length : Int)), (40, .int .i64 (i45 : Int)), (50, .bool (x55.Proc != x22.Proc)), (58, .bool y118)]) (L' := (.blk b58 (enc x55) 75) :: (.rows (α := Bool) 4 rs47) :: (.blk b25 (enc x22) 75) :: (.own s11 44 1 (encs rs47)) :: (.own Sl.nil 46 2 (encs ([] : List Pair))) :: L) ⟨rfl, rfl, rfl, rfl, rfl, rfl, rfl, rfl, rfl, rfl, rfl, rfl, rfl, rfl, trivial⟩ rfl ?_
    replace H := HKo117
    refine Lst.runG rfl rfl rfl hb60 rfl (by decide) (Ev.move rfl) ?_
    obtain ⟨o122, H, HKo122⟩ := bind_some H
    refine Lst.join (σ := Bool) 6 (fun y123 => [(0, Sl.v s_a0), (5, Sl.v s11), (6, .int .i64 (i16 : Int)), (7, .pointer (some ⟨b25, 0, none⟩)), (8, .int .i64 (i45 : Int)), (23, Sl.v s_a0), (24, .int .i64 (a0.length : Int)), (25, .int .i64 (i16 : Int)), (38, Sl.v (s_a0.cut (0 : Int).toNat ((i16 : Int) : Int).toNat 3)), (39, .int .i64 (m40.length : Int)), (40, .int .i64 (i45 : Int)), (50, .bool (x55.Proc != x22.Proc)), (65, .bool y123)]) (fun y123 => (.blk b58 (enc x55) 75) :: (.rows (α := Bool) 4 rs47) :: (.blk b25 (enc x22) 75) :: (.own s11 44 1 (encs rs47)) :: (.own Sl.nil 46 2 (encs ([] : List Pair))) :: L) (fun _ y123 => y123 = o122) ?_ ?_
    · rcases (Bool.eq_false_or_eq_true y118).symm with hb124 | hb124
      · replace H := ite_f hb124 H
        refine Lst.skip rfl rfl rfl hb124 rfl (by decide) ?_
        refine Lst.skip rfl rfl rfl hb124 rfl (by decide) ?_
        refine Lst.skip rfl rfl rfl hb124 rfl (by decide) ?_
        refine Lst.skip rfl rfl rfl hb124 rfl (by decide) ?_
        refine Lst.skip rfl rfl rfl hb124 rfl (by decide) ?_
        refine Lst.runG rfl rfl rfl hb60 rfl (by decide) (Ev.pickF rfl hb124 rfl) ?_
        refine Lst.nil ?_
        exact At.meet false (FLe.refl _) ⟨rfl, rfl, rfl, rfl, rfl, rfl, rfl, rfl, rfl, rfl, rfl, rfl, rfl, trivial⟩ rfl (some_inj H)
      replace H := ite_t hb124 H
      refine Lst.runG rfl rfl rfl hb124 rfl (by decide) (Ev.fieldAddr (off' := 2) rfl Try.runUnderlying75 rfl Try.sizeOf3 rfl rfl) ?_
      refine Lst.runG rfl rfl rfl hb124 rfl (by decide) (Ev.load (i := 0) rfl rfl Try.isAgg3 (v := .int .i64 x55.Msg) ((Event.get_Msg (Get.here _)).off (by rfl))) ?_
      refine Lst.runG rfl rfl rfl hb124 rfl (by decide) (Ev.fieldAddr (off' := 2) rfl Try.runUnderlying75 rfl Try.sizeOf3 rfl rfl) ?_
      refine Lst.runG rfl rfl rfl hb124 rfl (by decide) (Ev.load (i := 2) rfl rfl Try.isAgg3 (v := .int .i64 x22.Msg) ((Event.get_Msg (Get.here _)).off (by rfl))) ?_
      refine Lst.runG rfl rfl rfl hb124 rfl (by decide) (Ev.eql rfl rfl) ?_
      refine Lst.runG rfl rfl rfl hb60 rfl (by decide) (Ev.pickT rfl hb124 rfl) ?_
      refine Lst.nil ?_
      exact At.meet (x55.Msg == x22.Msg) (FLe.refl _) ⟨rfl, rfl, rfl, rfl, rfl, rfl, rfl, rfl, rfl, rfl, rfl, rfl, rfl, trivial⟩ rfl (some_inj H)
    rintro F125 y123 hF126 hy
    subst hy
    refine Lst.as (e' := [(0, Sl.v s_a0), (5, Sl.v s11), (6, .int .i64 (i16 : Int)), (7, .pointer (some ⟨b25, 0, none⟩)), (8, .int .i64 (i45 : Int)), (23, Sl.v s_a0), (24, .int .i64 (a0.length : Int)), (25, .int .i64 (i16 : Int)), (38, Sl.v (s_a0.cut (0 : Int).toNat ((i16 : Int) : Int).toNat 3)), (39, .int .i64 (m40.length : Int)), (40, .int .i64 (i45 : Int)), (50, .bool (x55.Proc != x22.Proc)), (65, .bool y123)]) (L' := (.blk b58 (enc x55) 75) :: (.rows (α := Bool) 4 rs47) :: (.blk b25 (enc x22) 75) :: (.own s11 44 1 (encs rs47)) :: (.own Sl.nil 46 2 (encs ([] : List Pair))) :: L) ⟨rfl, rfl, rfl, rfl, rfl, rfl, rfl, rfl, rfl, rfl, rfl, rfl, rfl, trivial⟩ rfl ?_
    replace H := HKo122
    refine Lst.runG rfl rfl rfl hb60 rfl (by decide) (Ev.not rfl) ?_
    refine Lst.run rfl rfl (by decide) (Ev.pickT rfl hb60 rfl) ?_
    refine Lst.nil ?_
    refine At.then ?_
    rcases Bool.eq_false_or_eq_true (!y123) with hb127 | hb127
    · replace H := ite_t hb127 H
      refine Cd.condT rfl hb127 ?_
      refine Cd.exit ?_
      refine At.then_exit ?_
      refine At.in_exit ?_
      refine At.less (L' := (.rows (α := Bool) 4 rs47) :: (.blk b25 (enc x22) 75) :: (.own s11 44 1 (encs rs47)) :: (.own Sl.nil 46 2 (encs ([] : List Pair))) :: L) (List.Sublist.cons _ (List.Sublist.cons_cons _ (List.Sublist.cons_cons _ (List.Sublist.cons_cons _ (List.Sublist.cons_cons _ (List.Sublist.refl _)))))) ?_
      exact At.meet (l46, rs47) (FLe.trans hF121 hF126) ⟨rfl, rfl, rfl, rfl, rfl, rfl, rfl, rfl, rfl, rfl, trivial⟩ rfl ⟨some_inj H, fm48⟩
    replace H := ite_f hb127 H
    refine Cd.condF rfl hb127 ?_
    refine Cd.skip ?_
    refine At.then ?_
    refine Cd.seq ?_
    refine Cd.region ?_
    refine Lst.run rfl rfl (by decide) (Ev.move rfl) ?_
    refine Lst.run rfl rfl (by decide) (Ev.move rfl) ?_
    obtain ⟨x128, h129, H⟩ := bind_some H
    have g130 := lat_some h129
    obtain ⟨⟨r131v, r131h⟩, r131g, r131e, r131m⟩ := map_get fm48 g130.2.2
    obtain rfl : x128 = r131v := r131e.symm
    have hh132 := row_h r131g
    refine Lst.run rfl rfl (by decide) (Ev.indexS (α := LR Bool) (xs := rs47) rfl rfl Try.runUnderlying42 Try.sizeOf44 rfl (by decide) (Rd.own (i := 3) rfl rfl rfl) g130.1 (by have := map_len fm48; omega)) ?_
    refine Lst.run rfl rfl (by decide) (Ev.loadS (α := LR Bool) rfl (Rd.own (i := 3) rfl rfl rfl) Try.isAgg44 (v := Sl.v r131h) ((Get.elemN (s := 1) rfl r131g (Get.here _)).off (by omega))) ?_
    refine Lst.run rfl rfl (by decide) (Ev.move rfl) ?_
    obtain ⟨x133, h134, H⟩ := bind_some H
    have g135 := lat_some h134
    refine Lst.run rfl rfl (by decide) (Ev.indexS (α := Bool) (xs := x128) rfl rfl Try.runUnderlying44 Try.sizeOf4 rfl (by decide) (Rd.row (j := 1) rfl r131g) g135.1 g135.2.1) ?_
    obtain ⟨p136, h137, H⟩ := Let_some H
    have hm138 : (rs47.set (i16 : Int).toNat (LR.mk (x128.set (i45 : Int).toNat true) r131h)).map LR.v = p136 := (map_set fm48 _ _).trans h137
    refine Lst.front (i := 1) rfl (L' := (.rows (α := Bool) 4 rs47) :: (.blk b58 (enc x55) 75) :: (.blk b25 (enc x22) 75) :: (.own s11 44 1 (encs rs47)) :: (.own Sl.nil 46 2 (encs ([] : List Pair))) :: L) rfl ?_
    refine Lst.storeR (α := Bool) rfl rfl rfl rfl r131g Try.sizeOf4 (vs := [.bool true]) rfl rfl (by decide) rfl (xs' := (x128.set (i45 : Int).toNat true)) ((Put.elemN (s := 1) (x := x133) rfl g135.2.2 (Put.here (vs := [.bool true]) rfl)).off (by omega)) ?_
    refine Lst.its (L' := (.rows (α := Bool) 4 (rs47.set (i16 : Int).toNat (LR.mk (x128.set (i45 : Int).toNat true) r131h))) :: (.blk b58 (enc x55) 75) :: (.blk b25 (enc x22) 75) :: (.own s11 44 1 (encs (rs47.set (i16 : Int).toNat (LR.mk (x128.set (i45 : Int).toNat true) r131h)))) :: (.own Sl.nil 46 2 (encs ([] : List Pair))) :: L) (by rw [show encs (rs47.set (i16 : Int).toNat (LR.mk (x128.set (i45 : Int).toNat true) r131h)) = encs rs47 from encs_rowv r131g]) ?_
    refine Lst.nil ?_
    refine At.then ?_
    refine Cd.seq ?_
    refine Cd.region ?_
    refine Lst.run rfl rfl (by decide) (Ev.move rfl) ?_
    refine Lst.run rfl rfl (by decide) (Ev.move rfl) ?_
    obtain ⟨x140, h141, H⟩ := bind_some H
    have g142 := lat_some h141
    obtain ⟨⟨r143v, r143h⟩, r143g, r143e, r143m⟩ := map_get hm138 g142.2.2
    obtain rfl : x140 = r143v := r143e.symm
    have hh144 := row_h r143g
    refine Lst.run rfl rfl (by decide) (Ev.indexS (α := LR Bool) (xs := (rs47.set (i16 : Int).toNat (LR.mk (x128.set (i45 : Int).toNat true) r131h))) rfl rfl Try.runUnderlying42 Try.sizeOf44 rfl (by decide) (Rd.own (i := 3) rfl rfl rfl) g142.1 (by have := map_len hm138; omega)) ?_
    refine Lst.run rfl rfl (by decide) (Ev.loadS (α := LR Bool) rfl (Rd.own (i := 3) rfl rfl rfl) Try.isAgg44 (v := Sl.v r143h) ((Get.elemN (s := 1) rfl r143g (Get.here _)).off (by omega))) ?_
    refine Lst.run rfl rfl (by decide) (Ev.lenS (α := Bool) (xs := x140) (by decide) rfl rfl Try.runUnderlying44 (Rd.row (j := 0) rfl r143g)) ?_
    refine Lst.run rfl rfl (by decide) (Ev.move rfl) ?_
    refine Lst.nil ?_
    refine At.then ?_
    refine Cd.block ?_
    refine Cd.bound (Rd.le (α := Bool) (xs := x140) (by decide) (Rd.row (j := 0) rfl r143g)) (fun hN183 => ?_)
    obtain ⟨ol145, H, HKl145⟩ := bind_some H
    refine Cd.loop (σ := Nat × Nat × (List (List Bool)) × (List (LR Bool))) (fun (i145, k145, l146, rs147) => [(0, Sl.v s_a0), (5, Sl.v s11), (6, .int .i64 (i16 : Int)), (7, .pointer (some ⟨b25, 0, none⟩)), (23, Sl.v s_a0), (24, .int .i64 (a0.length : Int)), (25, .int .i64 (i16 : Int)), (38, Sl.v (s_a0.cut (0 : Int).toNat ((i16 : Int) : Int).toNat 3)), (39, .int .i64 (m40.length : Int)), (40, .int .i64 (i45 : Int)), (77, Sl.v r143h), (78, .int .i64 (x140.length : Int)), (79, .int .i64 (i145 : Int))]) (fun (i145, k145, l146, rs147) => (.rows (α := Bool) 4 rs147) :: (.blk b58 (enc x55) 75) :: (.blk b25 (enc x22) 75) :: (.own s11 44 1 (encs rs147)) :: (.own Sl.nil 46 2 (encs ([] : List Pair))) :: L) (fun Fx => (fun (i145, k145, l146, rs147) => rangeF (stamp_Ahead_B4x i16 i45) k145 i145 l146 = some ol145 ∧ i145 + k145 = x140.length ∧ rs147.map LR.v = l146 ∧ (rs147.map LR.h)[(i45 : Int).toNat]? = some r143h)) (fun (i145, k145, l146, rs147) => k145) (0, x140.length, p136, (rs47.set (i16 : Int).toNat (LR.mk (x128.set (i45 : Int).toNat true) r131h))) ⟨rfl, rfl, rfl, rfl, rfl, rfl, rfl, rfl, rfl, rfl, rfl, rfl, rfl, trivial⟩ rfl ⟨H, by omega, hm138, hh144⟩ ?_
    rintro F150 ⟨i145, k145, l146, rs147⟩ hF151 ⟨H, hik145, fm148, hh149⟩
    refine Cd.as (e' := [(0, Sl.v s_a0), (5, Sl.v s11), (6, .int .i64 (i16 : Int)), (7, .pointer (some ⟨b25, 0, none⟩)), (23, Sl.v s_a0), (24, .int .i64 (a0.length : Int)), (25, .int .i64 (i16 : Int)), (38, Sl.v (s_a0.cut (0 : Int).toNat ((i16 : Int) : Int).toNat 3)), (39, .int .i64 (m40.length : Int)), (40, .int .i64 (i45 : Int)), (77, Sl.v r143h), (78, .int .i64 (x140.length : Int)), (79, .int .i64 (i145 : Int))]) (L' := (.rows (α := Bool) 4 rs147) :: (.blk b58 (enc x55) 75) :: (.blk b25 (enc x22) 75) :: (.own s11 44 1 (encs rs147)) :: (.own Sl.nil 46 2 (encs ([] : List Pair))) :: L) ⟨rfl, rfl, rfl, rfl, rfl, rfl, rfl, rfl, rfl, rfl, rfl, rfl, rfl, trivial⟩ rfl ?_
    rcases k145 with _ | k145
    · have hc145 : decide ((i145 : Int) < (x140.length : Int)) = false := decide_eq_false (by omega)
      replace H := rangeF_end H
      refine Cd.seq ?_
      refine Cd.region ?_
      refine Lst.run rfl rfl (by decide) (Ev.lss rfl rfl) ?_
      refine Lst.nil ?_
      refine At.then ?_
      refine Cd.seq ?_
      refine Cd.condF rfl hc145 ?_
      refine Cd.exit ?_
      refine At.then_exit ?_
      refine At.then_exit ?_
      refine At.in_exit ?_
      subst H
      replace H := HKl145
      refine At.in_normal ?_
      refine At.less (L' := (.rows (α := Bool) 4 rs147) :: (.blk b25 (enc x22) 75) :: (.own s11 44 1 (encs rs147)) :: (.own Sl.nil 46 2 (encs ([] : List Pair))) :: L) (List.Sublist.cons_cons _ (List.Sublist.cons _ (List.Sublist.cons_cons _ (List.Sublist.cons_cons _ (List.Sublist.cons_cons _ (List.Sublist.refl _)))))) ?_
      exact At.meet (l146, rs147) (FLe.trans (FLe.trans hF121 hF126) hF151) ⟨rfl, rfl, rfl, rfl, rfl, rfl, rfl, rfl, rfl, rfl, trivial⟩ rfl ⟨some_inj H, fm148⟩
    have hc145 : decide ((i145 : Int) < (x140.length : Int)) = true := decide_eq_true (by omega)
    obtain ⟨c145, H, hgo145⟩ := rangeF_go H
    unfold stamp_Ahead_B4x at H
    try dsimp only at H
    refine Cd.seq ?_
    refine Cd.region ?_
    refine Lst.run rfl rfl (by decide) (Ev.lss rfl rfl) ?_
    refine Lst.nil ?_
    refine At.then ?_
    refine Cd.seq ?_
    refine Cd.condT rfl hc145 ?_
    refine Cd.skip ?_
    refine At.then ?_
    refine Cd.seq ?_
    refine Cd.block ?_
    refine Cd.seq ?_
    refine Cd.region ?_
    refine Lst.run rfl rfl (by decide) (Ev.move rfl) ?_
    obtain ⟨x152, h153, H⟩ := bind_some H
    have g154 := lat_some h153
    obtain ⟨⟨r155v, r155h⟩, r155g, r155e, r155m⟩ := map_get fm148 g154.2.2
    obtain rfl : x152 = r155v := r155e.symm
    obtain rfl := row_handle hh149 r155g
    obtain ⟨x156, h157, H⟩ := bind_some H
    have g158 := lat_some h157
    refine Lst.run rfl rfl (by decide) (Ev.indexS (α := Bool) (xs := x152) rfl rfl Try.runUnderlying44 Try.sizeOf4 rfl (by decide) (Rd.row (j := 0) rfl r155g) g158.1 g158.2.1) ?_
    refine Lst.run rfl rfl (by decide) (Ev.loadS (α := Bool) rfl (Rd.row (j := 0) rfl r155g) Try.isAgg4 (v := .bool x156) ((Get.elemN (s := 1) (x := x156) rfl g158.2.2 (Get.here _)).off (by omega))) ?_
    refine Lst.run rfl rfl (by decide) (Ev.assign rfl) ?_
    refine Lst.run rfl rfl (by decide) (Ev.assign rfl) ?_
    refine Lst.nil ?_
    refine At.then ?_
    refine Cd.tail 16 (by kernel_rfl) (by kernel_rfl) ?_
    refine Qt.run rfl rfl (by decide) (Ev.move rfl) ?_
    refine Qt.run rfl rfl (by decide) (Ev.move rfl) ?_
    obtain ⟨x159, h160, H⟩ := bind_some H
    have g161 := lat_some h160
    obtain ⟨⟨r162v, r162h⟩, r162g, r162e, r162m⟩ := map_get fm148 g161.2.2
    obtain rfl : x159 = r162v := r162e.symm
    have hh163 := row_h r162g
    refine Qt.run rfl rfl (by decide) (Ev.indexS (α := LR Bool) (xs := rs147) rfl rfl Try.runUnderlying42 Try.sizeOf44 rfl (by decide) (Rd.own (i := 3) rfl rfl rfl) g161.1 (by have := map_len fm148; omega)) ?_
    refine Qt.run rfl rfl (by decide) (Ev.loadS (α := LR Bool) rfl (Rd.own (i := 3) rfl rfl rfl) Try.isAgg44 (v := Sl.v r162h) ((Get.elemN (s := 1) rfl r162g (Get.here _)).off (by omega))) ?_
    refine Qt.run rfl rfl (by decide) (Ev.move rfl) ?_
    refine Qt.run rfl rfl (by decide) (Ev.move rfl) ?_
    refine Qt.run rfl rfl (by decide) (Ev.move rfl) ?_
    obtain ⟨x164, h165, H⟩ := bind_some H
    have g166 := lat_some h165
    obtain ⟨⟨r167v, r167h⟩, r167g, r167e, r167m⟩ := map_get fm148 g166.2.2
    obtain rfl : x164 = r167v := r167e.symm
    have hh168 := row_h r167g
    refine Qt.run rfl rfl (by decide) (Ev.indexS (α := LR Bool) (xs := rs147) rfl rfl Try.runUnderlying42 Try.sizeOf44 rfl (by decide) (Rd.own (i := 3) rfl rfl rfl) g166.1 (by have := map_len fm148; omega)) ?_
    refine Qt.run rfl rfl (by decide) (Ev.loadS (α := LR Bool) rfl (Rd.own (i := 3) rfl rfl rfl) Try.isAgg44 (v := Sl.v r167h) ((Get.elemN (s := 1) rfl r167g (Get.here _)).off (by omega))) ?_
    refine Qt.run rfl rfl (by decide) (Ev.move rfl) ?_
    obtain ⟨x169, h170, H⟩ := bind_some H
    have g171 := lat_some h170
    refine Qt.run rfl rfl (by decide) (Ev.indexS (α := Bool) (xs := x164) rfl rfl Try.runUnderlying44 Try.sizeOf4 rfl (by decide) (Rd.row (j := 0) rfl r167g) g171.1 g171.2.1) ?_
    refine Qt.run rfl rfl (by decide) (Ev.loadS (α := Bool) rfl (Rd.row (j := 0) rfl r167g) Try.isAgg4 (v := .bool x169) ((Get.elemN (s := 1) (x := x169) rfl g171.2.2 (Get.here _)).off (by omega))) ?_
    refine Qt.run rfl rfl (by decide) (Ev.move rfl) ?_
    obtain ⟨o172, H, HKo172⟩ := bind_some H
    refine Qt.join (σ := Bool) 2 (fun y173 => [(0, Sl.v s_a0), (5, Sl.v s11), (6, .int .i64 (i16 : Int)), (7, .pointer (some ⟨b25, 0, none⟩)), (23, Sl.v s_a0), (24, .int .i64 (a0.length : Int)), (25, .int .i64 (i16 : Int)), (38, Sl.v (s_a0.cut (0 : Int).toNat ((i16 : Int) : Int).toNat 3)), (39, .int .i64 (m40.length : Int)), (40, .int .i64 (i45 : Int)), (77, Sl.v r143h), (78, .int .i64 (x140.length : Int)), (79, .int .i64 (i145 : Int)), (87, Sl.v r162h), (88, .int .i64 (i145 : Int)), (98, .bool y173)]) (fun y173 => y173 = o172) ?_ ?_
    · rcases Bool.eq_false_or_eq_true x169 with hb174 | hb174
      · replace H := ite_t hb174 H
        refine Qt.skip rfl rfl rfl hb174 rfl (by decide) ?_
        refine Qt.run rfl rfl (by decide) (Ev.pickT rfl hb174 rfl) ?_
        exact Qt.meet true ⟨rfl, rfl, rfl, rfl, rfl, rfl, rfl, rfl, rfl, rfl, rfl, rfl, rfl, rfl, rfl, rfl, trivial⟩ (some_inj H)
      replace H := ite_f hb174 H
      refine Qt.runG rfl rfl rfl hb174 rfl (by decide) (Ev.move rfl) ?_
      refine Qt.run rfl rfl (by decide) (Ev.pickF rfl hb174 rfl) ?_
      exact Qt.meet x156 ⟨rfl, rfl, rfl, rfl, rfl, rfl, rfl, rfl, rfl, rfl, rfl, rfl, rfl, rfl, rfl, rfl, trivial⟩ (some_inj H)
    rintro y173 hy
    subst hy
    refine Qt.as (e' := [(0, Sl.v s_a0), (5, Sl.v s11), (6, .int .i64 (i16 : Int)), (7, .pointer (some ⟨b25, 0, none⟩)), (23, Sl.v s_a0), (24, .int .i64 (a0.length : Int)), (25, .int .i64 (i16 : Int)), (38, Sl.v (s_a0.cut (0 : Int).toNat ((i16 : Int) : Int).toNat 3)), (39, .int .i64 (m40.length : Int)), (40, .int .i64 (i45 : Int)), (77, Sl.v r143h), (78, .int .i64 (x140.length : Int)), (79, .int .i64 (i145 : Int)), (87, Sl.v r162h), (88, .int .i64 (i145 : Int)), (98, .bool y173)]) ⟨rfl, rfl, rfl, rfl, rfl, rfl, rfl, rfl, rfl, rfl, rfl, rfl, rfl, rfl, rfl, rfl, trivial⟩ ?_
    replace H := HKo172
    obtain ⟨x175, h176, H⟩ := bind_some H
    have g177 := lat_some h176
    refine Qt.run rfl rfl (by decide) (Ev.indexS (α := Bool) (xs := x159) rfl rfl Try.runUnderlying44 Try.sizeOf4 rfl (by decide) (Rd.row (j := 0) rfl r162g) g177.1 g177.2.1) ?_
    refine Qt.tail ?_
    obtain ⟨p178, h179, H⟩ := Let_some H
    have hm180 : (rs147.set (i16 : Int).toNat (LR.mk (x159.set (i145 : Int).toNat y173) r162h)).map LR.v = p178 := (map_set fm148 _ _).trans h179
    have hh182 := row_h_set (xs := (x159.set (i145 : Int).toNat y173)) r162g hh149
    refine Lst.storeR (α := Bool) rfl rfl rfl rfl r162g Try.sizeOf4 (vs := [.bool y173]) rfl rfl (by decide) rfl (xs' := (x159.set (i145 : Int).toNat y173)) ((Put.elemN (s := 1) (x := x175) rfl g177.2.2 (Put.here (vs := [.bool y173]) rfl)).off (by omega)) ?_
    refine Lst.its (L' := (.rows (α := Bool) 4 (rs147.set (i16 : Int).toNat (LR.mk (x159.set (i145 : Int).toNat y173) r162h))) :: (.blk b58 (enc x55) 75) :: (.blk b25 (enc x22) 75) :: (.own s11 44 1 (encs (rs147.set (i16 : Int).toNat (LR.mk (x159.set (i145 : Int).toNat y173) r162h)))) :: (.own Sl.nil 46 2 (encs ([] : List Pair))) :: L) (by rw [show encs (rs147.set (i16 : Int).toNat (LR.mk (x159.set (i145 : Int).toNat y173) r162h)) = encs rs147 from encs_rowv r162g]) ?_
    refine Lst.nil ?_
    refine At.in_normal ?_
    refine At.then ?_
    refine Cd.region ?_
    refine Lst.run rfl rfl (by decide) (Ev.incr (by omega) rfl rfl) ?_
    refine Lst.run rfl rfl (by decide) (Ev.move rfl) ?_
    refine Lst.nil ?_
    exact At.meet (i145 + 1, k145, p178, (rs147.set (i16 : Int).toNat (LR.mk (x159.set (i145 : Int).toNat y173) r162h))) hF151 ⟨rfl, rfl, rfl, rfl, rfl, rfl, rfl, rfl, rfl, rfl, rfl, rfl, rfl, trivial⟩ rfl ⟨⟨hgo145 _ (some_inj H).symm, by omega, hm180, hh182⟩, Nat.lt_succ_self _⟩
  rintro F184 ⟨l51, rs52⟩ hF185 ⟨hy, fm53⟩
  subst hy
  refine Cd.as (e' := [(0, Sl.v s_a0), (5, Sl.v s11), (6, .int .i64 (i16 : Int)), (7, .pointer (some ⟨b25, 0, none⟩)), (23, Sl.v s_a0), (24, .int .i64 (a0.length : Int)), (25, .int .i64 (i16 : Int)), (38, Sl.v (s_a0.cut (0 : Int).toNat ((i16 : Int) : Int).toNat 3)), (39, .int .i64 (m40.length : Int)), (40, .int .i64 (i45 : Int))]) (L' := (.rows (α := Bool) 4 rs52) :: (.blk b25 (enc x22) 75) :: (.own s11 44 1 (encs rs52)) :: (.own Sl.nil 46 2 (encs ([] : List Pair))) :: L) ⟨rfl, rfl, rfl, rfl, rfl, rfl, rfl, rfl, rfl, rfl, trivial⟩ rfl ?_
  replace H := HKo54
  refine Cd.region ?_
  refine Lst.run rfl rfl (by decide) (Ev.incr (by omega) rfl rfl) ?_
  refine Lst.run rfl rfl (by decide) (Ev.move rfl) ?_
  refine Lst.nil ?_
  exact At.meet (i45 + 1, k45, l51, rs52) (FLe.trans hF50 hF185) ⟨rfl, rfl, rfl, rfl, rfl, rfl, rfl, rfl, rfl, rfl, trivial⟩ rfl ⟨⟨hgo45 _ (some_inj H).symm, by omega, fm53⟩, Nat.lt_succ_self _⟩
set_option maxRecDepth 20000 in
theorem partref_Closure_sim {fu : Nat} {a0 : Int} {a1 : List Pair} {s_a1 : Sl} {r : (List (List Bool))} (H : partref_Closure fu a0 a1 = some r) (w0 : World) (F : Frz) (M L : List Item) (hM : M.Sublist L) (hs_a1 : Rd w0 F M s_a1 a1) : Ok Try.prog w0 52 [.int .i64 a0, Sl.v s_a1] F (L) (fun Fx L' v => ∃ (s1 : Sl) (rs2 : List (LR Bool)), v = Sl.v s1 ∧ L' = (.rows (α := Bool) 4 rs2) :: (.own s1 44 1 (encs rs2)) :: L ∧ rs2.map LR.v = r) := by
  unfold partref_Closure at H
  refine Ok.enter (m := 2) (n := 68) Try.func52 rfl rfl rfl (by decide) ?_
  refine Cd.env (e' := [(0, .int .i64 a0), (1, Sl.v s_a1)]) rfl ?_
  refine Cd.seq ?_
  refine Cd.region ?_
  have ha2 : All LR.rel w0 F [] ([] : List (LR Bool)) := All.nil
  have ha2m : List.map LR.v ([] : List (LR Bool)) = ([] : List (List Bool)) := rfl
  refine Lst.addNil 44 1 ?_
  refine Lst.run rfl rfl (by decide) (Ev.assign rfl) ?_
  refine Lst.nil ?_
  refine At.then ?_
  refine Cd.seq ?_
  refine Cd.region ?_
  refine Lst.run rfl rfl (by decide) (Ev.move rfl) ?_
  obtain ⟨n3, h4, H⟩ := bind_some H
  have g5 := mkLen_some h4
  have hm8 : (List.replicate n3 ((LR.mk [] Sl.nil) : LR Bool)).map LR.v = (List.replicate n3 ([] : List Bool)) := map_rep _ _
  refine Lst.make (α := LR Bool) (z0 := ((LR.mk [] Sl.nil) : LR Bool)) (k := n3) rfl rfl (by decide) (congrArg some (congrArg (Value.int .i64) g5.1)) (congrArg some (congrArg (Value.int .i64) g5.1)) Try.runUnderlying42 Try.typeInfo44 rfl rfl rfl rfl rfl g5.2 rfl (fun s6 => ?_)
  refine Lst.rowsNil Bool 4 n3 ?_
  refine Lst.its (L' := (.rows (α := Bool) 4 (List.replicate n3 ((LR.mk [] Sl.nil) : LR Bool))) :: (.own s6 44 1 (encs (List.replicate n3 ((LR.mk [] Sl.nil) : LR Bool)))) :: (.own Sl.nil 44 1 (encs ([] : List (LR Bool)))) :: L) rfl ?_
  refine Lst.run rfl rfl (by decide) (Ev.assign rfl) ?_
  refine Lst.nil ?_
  refine At.then ?_
  refine Cd.seq ?_
  refine Cd.seq ?_
  refine Cd.region ?_
  refine Lst.run rfl rfl (by decide) (Ev.move rfl) ?_
  refine Lst.run rfl rfl (by decide) (Ev.move rfl) ?_
  refine Lst.nil ?_
  refine At.then ?_
  refine Cd.block ?_
  obtain ⟨nn17, hN93, H⟩ := bind_some H
  replace hN93 := upTo_some hN93
  obtain ⟨ol11, H, HKl11⟩ := bind_some H
  refine Cd.loop (σ := Nat × Nat × (List (List Bool)) × (List (LR Bool))) (fun (i11, k11, l12, rs13) => [(0, .int .i64 a0), (1, Sl.v s_a1), (5, Sl.v s6), (13, .int .i64 a0), (14, .int .i64 (i11 : Int))]) (fun (i11, k11, l12, rs13) => (.rows (α := Bool) 4 rs13) :: (.own s6 44 1 (encs rs13)) :: (.own Sl.nil 44 1 (encs ([] : List (LR Bool)))) :: L) (fun Fx => (fun (i11, k11, l12, rs13) => rangeF (partref_Closure_B0 fu a0 a1) k11 i11 l12 = some ol11 ∧ i11 + k11 = nn17 ∧ rs13.map LR.v = l12)) (fun (i11, k11, l12, rs13) => k11) (0, nn17, (List.replicate n3 ([] : List Bool)), (List.replicate n3 ((LR.mk [] Sl.nil) : LR Bool))) ⟨rfl, rfl, rfl, rfl, rfl, trivial⟩ rfl ⟨H, by omega, hm8⟩ ?_
  rintro F15 ⟨i11, k11, l12, rs13⟩ hF16 ⟨H, hik11, fm14⟩
  refine Cd.as (e' := [(0, .int .i64 a0), (1, Sl.v s_a1), (5, Sl.v s6), (13, .int .i64 a0), (14, .int .i64 (i11 : Int))]) (L' := (.rows (α := Bool) 4 rs13) :: (.own s6 44 1 (encs rs13)) :: (.own Sl.nil 44 1 (encs ([] : List (LR Bool)))) :: L) ⟨rfl, rfl, rfl, rfl, rfl, trivial⟩ rfl ?_
  rcases k11 with _ | k11
  · have hc11 : decide ((i11 : Int) < a0) = false := decide_eq_false (by omega)
    replace H := rangeF_end H
    refine Cd.seq ?_
    refine Cd.region ?_
    refine Lst.run rfl rfl (by decide) (Ev.lss rfl rfl) ?_
    refine Lst.nil ?_
    refine At.then ?_
    refine Cd.seq ?_
    refine Cd.condF rfl hc11 ?_
    refine Cd.exit ?_
    refine At.then_exit ?_
    refine At.then_exit ?_
    refine At.in_exit ?_
    subst H
    replace H := HKl11
    refine At.then ?_
    refine Cd.seq ?_
    refine Cd.region ?_
    refine Lst.run rfl rfl (by decide) (Ev.move rfl) ?_
    refine Lst.run rfl rfl (by decide) (Ev.assign rfl) ?_
    refine Lst.nil ?_
    refine At.then ?_
    obtain rfl := some_inj H
    refine Cd.ret ?_
    exact At.ret1 rfl (Res.tmp rfl) hF16 (List.Sublist.cons_cons _ (List.Sublist.cons_cons _ (List.Sublist.cons _ (List.Sublist.refl _)))) ⟨s6, rs13, rfl, rfl, fm14⟩
  have hc11 : decide ((i11 : Int) < a0) = true := decide_eq_true (by omega)
  obtain ⟨c11, H, hgo11⟩ := rangeF_go H
  unfold partref_Closure_B0 at H
  try dsimp only at H
  refine Cd.seq ?_
  refine Cd.region ?_
  refine Lst.run rfl rfl (by decide) (Ev.lss rfl rfl) ?_
  refine Lst.nil ?_
  refine At.then ?_
  refine Cd.seq ?_
  refine Cd.condT rfl hc11 ?_
  refine Cd.skip ?_
  refine At.then ?_
  refine Cd.seq ?_
  refine Cd.block ?_
  refine Cd.seq ?_
  refine Cd.region ?_
  refine Lst.run rfl rfl (by decide) (Ev.move rfl) ?_
  refine Lst.run rfl rfl (by decide) (Ev.assign rfl) ?_
  refine Lst.nil ?_
  refine At.then ?_
  refine Cd.seq ?_
  refine Cd.region ?_
  refine Lst.run rfl rfl (by decide) (Ev.move rfl) ?_
  refine Lst.run rfl rfl (by decide) (Ev.move rfl) ?_
  refine Lst.run rfl rfl (by decide) (Ev.move rfl) ?_
  obtain ⟨n18, h19, H⟩ := bind_some H
  have g20 := mkLen_some h19
  refine Lst.make (α := Bool) (z0 := false) (k := n18) rfl rfl (by decide) (congrArg some (congrArg (Value.int .i64) g20.1)) (congrArg some (congrArg (Value.int .i64) g20.1)) Try.runUnderlying44 Try.typeInfo4 rfl rfl rfl rfl rfl g20.2 rfl (fun s21 => ?_)
  obtain ⟨x23, h24, H⟩ := bind_some H
  have g25 := lat_some h24
  obtain ⟨⟨r26v, r26h⟩, r26g, r26e, r26m⟩ := map_get fm14 g25.2.2
  obtain rfl : x23 = r26v := r26e.symm
  have hh27 := row_h r26g
  refine Lst.run rfl rfl (by decide) (Ev.indexS (α := LR Bool) (xs := rs13) rfl rfl Try.runUnderlying42 Try.sizeOf44 rfl (by decide) (Rd.own (i := 2) rfl rfl rfl) g25.1 (by have := map_len fm14; omega)) ?_
  obtain ⟨p28, h29, H⟩ := Let_some H
  have hm30 : (rs13.set (i11 : Int).toNat (LR.mk (List.replicate n18 false) s21)).map LR.v = p28 := (map_set fm14 _ _).trans h29
  refine Lst.storeS (i := 2) rfl rfl rfl rfl rfl Try.sizeOf44 (vs := [Sl.v s21]) rfl rfl (by decide) rfl (xs' := encs (rs13.set (i11 : Int).toNat (LR.mk (List.replicate n18 false) s21))) ((Put.elemN (s := 1) (y := (LR.mk (List.replicate n18 false) s21)) rfl r26g (Put.here (vs := [Sl.v s21]) rfl)).off (by omega)) (L' := (.own s21 4 1 (encs (List.replicate n18 false))) :: (.rows (α := Bool) 4 rs13) :: (.own s6 44 1 (encs (rs13.set (i11 : Int).toNat (LR.mk (List.replicate n18 false) s21)))) :: (.own Sl.nil 44 1 (encs ([] : List (LR Bool)))) :: L) rfl ?_
  refine Lst.rowIn (k := (i11 : Int).toNat) r26g rfl ?_
  refine Lst.its (L' := (.rows (α := Bool) 4 (rs13.set (i11 : Int).toNat (LR.mk (List.replicate n18 false) s21))) :: (.own s6 44 1 (encs (rs13.set (i11 : Int).toNat (LR.mk (List.replicate n18 false) s21)))) :: (.own Sl.nil 44 1 (encs ([] : List (LR Bool)))) :: L) rfl ?_
  refine Lst.nil ?_
  refine At.then ?_
  refine Cd.seq ?_
  refine Cd.region ?_
  refine Lst.run rfl rfl (by decide) (Ev.move rfl) ?_
  refine Lst.buildSlice (α := Int) (xs := ([(i11 : Int)] : List Int)) (pv := [(0, .int .i64 (i11 : Int))]) rfl rfl (by decide) ⟨rfl, rfl, trivial⟩ (run_buildSlice (α := Int) (z0 := (0 : Int)) (xs := ([(i11 : Int)] : List Int)) Try.runUnderlying36 Try.sizeOf3 Try.zeroValue3 rfl rfl rfl (by decide) rfl (fill_cons (cs := encs (List.replicate 1 (0 : Int))) (cs' := encs ((List.replicate 1 (0 : Int)).set 0 (i11 : Int))) (vs := [.int .i64 (i11 : Int)]) rfl rfl rfl ((Put.elemN (s := 1) (i := 0) (x := (0 : Int)) (y := (i11 : Int)) rfl rfl (Put.here (vs := [.int .i64 (i11 : Int)]) rfl)).off rfl) fill_nil)) rfl rfl (by decide) (fun s31 _ => ?_)
  refine Lst.run rfl rfl (by decide) (Ev.assign rfl) ?_
  refine Lst.nil ?_
  refine At.then ?_
  refine Cd.block ?_
  obtain ⟨ol33, H, HKl33⟩ := andThen_some H
  refine Cd.loop (σ := Nat × Sl × (List Int) × (List (List Bool)) × (List (LR Bool))) (fun (k33, s34, l35, l36, rs37) => [(0, .int .i64 a0), (1, Sl.v s_a1), (5, Sl.v s6), (6, .int .i64 (i11 : Int)), (7, Sl.v s34), (13, .int .i64 a0), (14, .int .i64 (i11 : Int))]) (fun (k33, s34, l35, l36, rs37) => (.own s34 3 1 (encs l35)) :: (.rows (α := Bool) 4 rs37) :: (.own s6 44 1 (encs rs37)) :: (.own Sl.nil 44 1 (encs ([] : List (LR Bool)))) :: L) (fun Fx => (fun (k33, s34, l35, l36, rs37) => whileM (partref_Closure_B2 a1 i11) k33 (l35, l36) = some ol33 ∧ rs37.map LR.v = l36)) (fun (k33, s34, l35, l36, rs37) => k33) (fu, s31, ([(i11 : Int)] : List Int), p28, (rs13.set (i11 : Int).toNat (LR.mk (List.replicate n18 false) s21))) ⟨rfl, rfl, rfl, rfl, rfl, rfl, rfl, trivial⟩ rfl ⟨H, hm30⟩ ?_
  rintro F39 ⟨k33, s34, l35, l36, rs37⟩ hF40 ⟨H, fm38⟩
  refine Cd.as (e' := [(0, .int .i64 a0), (1, Sl.v s_a1), (5, Sl.v s6), (6, .int .i64 (i11 : Int)), (7, Sl.v s34), (13, .int .i64 a0), (14, .int .i64 (i11 : Int))]) (L' := (.own s34 3 1 (encs l35)) :: (.rows (α := Bool) 4 rs37) :: (.own s6 44 1 (encs rs37)) :: (.own Sl.nil 44 1 (encs ([] : List (LR Bool)))) :: L) ⟨rfl, rfl, rfl, rfl, rfl, rfl, rfl, trivial⟩ rfl ?_
  rcases k33 with _ | k33
  · cases H
  obtain ⟨c33, H, hgo33, hbrk33, hret33⟩ := whileM_go H
  unfold partref_Closure_B2 at H
  try dsimp only at H
  refine Cd.seq ?_
  refine Cd.seq ?_
  refine Cd.region ?_
  refine Lst.run rfl rfl (by decide) (Ev.move rfl) ?_
  refine Lst.run rfl rfl (by decide) (Ev.lenS (α := Int) (xs := l35) (by decide) rfl rfl Try.runUnderlying36 (Rd.own (i := 0) rfl rfl rfl)) ?_
  refine Lst.run rfl rfl (by decide) (Ev.gtr rfl rfl) ?_
  refine Lst.nil ?_
  refine At.then ?_
  rcases (Bool.eq_false_or_eq_true (decide ((l35.length : Int) > (0 : Int)))).symm with hb41 | hb41
  · replace H := ite_f hb41 H
    refine Cd.condF rfl hb41 ?_
    refine Cd.exit ?_
    refine At.then_exit ?_
    refine At.then_exit ?_
    refine At.in_exit ?_
    have H := hbrk33 _ (some_inj H).symm
    subst H
    replace H := HKl33
    refine At.in_normal ?_
    refine At.then ?_
    refine Cd.region ?_
    refine Lst.run rfl rfl (by decide) (Ev.incr (by omega) rfl rfl) ?_
    refine Lst.run rfl rfl (by decide) (Ev.move rfl) ?_
    refine Lst.nil ?_
    refine At.less (L' := (.rows (α := Bool) 4 rs37) :: (.own s6 44 1 (encs rs37)) :: (.own Sl.nil 44 1 (encs ([] : List (LR Bool)))) :: L) (List.Sublist.cons _ (List.Sublist.cons_cons _ (List.Sublist.cons_cons _ (List.Sublist.cons_cons _ (List.Sublist.refl _))))) ?_
    exact At.meet (i11 + 1, k11, l36, rs37) (FLe.trans hF16 hF40) ⟨rfl, rfl, rfl, rfl, rfl, trivial⟩ rfl ⟨⟨hgo11 _ (some_inj H).symm, by omega, fm38⟩, Nat.lt_succ_self _⟩
  replace H := ite_t hb41 H
  refine Cd.condT rfl hb41 ?_
  refine Cd.skip ?_
  refine At.then ?_
  refine Cd.block ?_
  refine Cd.seq ?_
  refine Cd.region ?_
  refine Lst.run rfl rfl (by decide) (Ev.move rfl) ?_
  obtain ⟨x42, h43, H⟩ := bind_some H
  have g44 := lat_some h43
  refine Lst.run rfl rfl (by decide) (Ev.indexS (α := Int) (xs := l35) rfl rfl Try.runUnderlying36 Try.sizeOf3 rfl (by decide) (Rd.own (i := 0) rfl rfl rfl) g44.1 g44.2.1) ?_
  refine Lst.run rfl rfl (by decide) (Ev.loadS (α := Int) rfl (Rd.own (i := 0) rfl rfl rfl) Try.isAgg3 (v := .int .i64 x42) ((Get.elemN (s := 1) (x := x42) rfl g44.2.2 (Get.here _)).off (by omega))) ?_
  refine Lst.run rfl rfl (by decide) (Ev.assign rfl) ?_
  refine Lst.nil ?_
  refine At.then ?_
  refine Cd.seq ?_
  refine Cd.region ?_
  refine Lst.run rfl rfl (by decide) (Ev.move rfl) ?_
  obtain ⟨m45, h46, H⟩ := bind_some H
  obtain ⟨g47, gl48⟩ := cutL_some h46
  refine Lst.run rfl rfl (by decide) (Ev.cut (α := Int) (xs := l35) (i := (1 : Int)) (j := (l35.length : Int)) rfl rfl rfl Try.runUnderlying36 Try.sizeOf3 rfl (by decide) (Rd.own (i := 0) rfl rfl rfl) g47.1 g47.2.1 g47.2.2) ?_
  refine Lst.cutOwn (i := 0) (α := Int) (lo := ((1 : Int) : Int).toNat) (hi := ((l35.length : Int) : Int).toNat) rfl rfl rfl (by decide) (by omega) (by omega) (L' := (.own (s34.cut ((1 : Int) : Int).toNat ((l35.length : Int) : Int).toNat 1) 3 1 (encs m45)) :: (.rows (α := Bool) 4 rs37) :: (.own s6 44 1 (encs rs37)) :: (.own Sl.nil 44 1 (encs ([] : List (LR Bool)))) :: L) (by subst gl48; rfl) ?_
  refine Lst.run rfl rfl (by decide) (Ev.assign rfl) ?_
  refine Lst.nil ?_
  refine At.then ?_
  refine Cd.seq ?_
  refine Cd.region ?_
  refine Lst.run rfl rfl (by decide) (Ev.move rfl) ?_
  refine Lst.run rfl rfl (by decide) (Ev.lenS (α := Pair) (xs := a1) (by decide) rfl rfl Try.runUnderlying39 (hs_a1.mono (FLe.trans hF16 hF40) (List.Sublist.cons _ (List.Sublist.cons _ (List.Sublist.cons _ (List.Sublist.cons _ hM)))))) ?_
  refine Lst.run rfl rfl (by decide) (Ev.move rfl) ?_
  refine Lst.nil ?_
  refine At.then ?_
  refine Cd.block ?_
  refine Cd.bound (Rd.le (α := Pair) (xs := a1) (by decide) (hs_a1.mono (FLe.trans hF16 hF40) (List.Sublist.cons _ (List.Sublist.cons _ (List.Sublist.cons _ (List.Sublist.cons _ hM)))))) (fun hN92 => ?_)
  obtain ⟨ol50, H, HKl50⟩ := bind_some H
  refine Cd.loop (σ := Nat × Nat × Sl × (List Int) × (List (List Bool)) × (List (LR Bool))) (fun (i50, k50, s51, l52, l53, rs54) => [(0, .int .i64 a0), (1, Sl.v s_a1), (5, Sl.v s6), (6, .int .i64 (i11 : Int)), (7, Sl.v s51), (8, .int .i64 x42), (13, .int .i64 a0), (14, .int .i64 (i11 : Int)), (32, Sl.v s_a1), (33, .int .i64 (a1.length : Int)), (34, .int .i64 (i50 : Int))]) (fun (i50, k50, s51, l52, l53, rs54) => (.own s51 3 1 (encs l52)) :: (.rows (α := Bool) 4 rs54) :: (.own s6 44 1 (encs rs54)) :: (.own Sl.nil 44 1 (encs ([] : List (LR Bool)))) :: L) (fun Fx => (fun (i50, k50, s51, l52, l53, rs54) => rangeF (partref_Closure_B4 a1 i11 x42) k50 i50 (l52, l53) = some ol50 ∧ i50 + k50 = a1.length ∧ rs54.map LR.v = l53)) (fun (i50, k50, s51, l52, l53, rs54) => k50) (0, a1.length, (s34.cut ((1 : Int) : Int).toNat ((l35.length : Int) : Int).toNat 1), m45, l36, rs37) ⟨rfl, rfl, rfl, rfl, rfl, rfl, rfl, rfl, rfl, rfl, rfl, trivial⟩ rfl ⟨H, by omega, fm38⟩ ?_
  rintro F56 ⟨i50, k50, s51, l52, l53, rs54⟩ hF57 ⟨H, hik50, fm55⟩
  refine Cd.as (e' := [(0, .int .i64 a0), (1, Sl.v s_a1), (5, Sl.v s6), (6, .int .i64 (i11 : Int)), (7, Sl.v s51), (8, .int .i64 x42), (13, .int .i64 a0), (14, .int .i64 (i11 : Int)), (32, Sl.v s_a1), (33, .int .i64 (a1.length : Int)), (34, .int .i64 (i50 : Int))]) (L' := (.own s51 3 1 (encs l52)) :: (.rows (α := Bool) 4 rs54) :: (.own s6 44 1 (encs rs54)) :: (.own Sl.nil 44 1 (encs ([] : List (LR Bool)))) :: L) ⟨rfl, rfl, rfl, rfl, rfl, rfl, rfl, rfl, rfl, rfl, rfl, trivial⟩ rfl ?_
  rcases k50 with _ | k50
  · have hc50 : decide ((i50 : Int) < (a1.length : Int)) = false := decide_eq_false (by omega)
    replace H := rangeF_end H
    refine Cd.seq ?_
    refine Cd.region ?_
    refine Lst.run rfl rfl (by decide) (Ev.lss rfl rfl) ?_
    refine Lst.nil ?_
    refine At.then ?_
    refine Cd.seq ?_
    refine Cd.condF rfl hc50 ?_
    refine Cd.exit ?_
    refine At.then_exit ?_
    refine At.then_exit ?_
    refine At.in_exit ?_
    subst H
    replace H := HKl50
    refine At.in_normal ?_
    exact At.meet (k33, s51, l52, l53, rs54) (FLe.trans hF40 hF57) ⟨rfl, rfl, rfl, rfl, rfl, rfl, rfl, trivial⟩ rfl ⟨⟨hgo33 _ (some_inj H).symm, fm55⟩, Nat.lt_succ_self _⟩
  have hc50 : decide ((i50 : Int) < (a1.length : Int)) = true := decide_eq_true (by omega)
  obtain ⟨c50, H, hgo50⟩ := rangeF_go H
  unfold partref_Closure_B4 at H
  try dsimp only at H
  refine Cd.seq ?_
  refine Cd.region ?_
  refine Lst.run rfl rfl (by decide) (Ev.lss rfl rfl) ?_
  refine Lst.nil ?_
  refine At.then ?_
  refine Cd.seq ?_
  refine Cd.condT rfl hc50 ?_
  refine Cd.skip ?_
  refine At.then ?_
  refine Cd.seq ?_
  refine Cd.block ?_
  refine Cd.seq ?_
  refine Cd.region ?_
  obtain ⟨x58, h59, H⟩ := bind_some H
  have g60 := lat_some h59
  refine Lst.run rfl rfl (by decide) (Ev.indexS (α := Pair) (xs := a1) rfl rfl Try.runUnderlying39 Try.sizeOf46 rfl (by decide) (hs_a1.mono (FLe.trans (FLe.trans hF16 hF40) hF57) (List.Sublist.cons _ (List.Sublist.cons _ (List.Sublist.cons _ (List.Sublist.cons _ hM))))) g60.1 g60.2.1) ?_
  refine Lst.run rfl rfl (by decide) (Ev.loadSA (α := Pair) rfl (hs_a1.mono (FLe.trans (FLe.trans hF16 hF40) hF57) (List.Sublist.cons _ (List.Sublist.cons _ (List.Sublist.cons _ (List.Sublist.cons _ hM))))) Try.isAgg46 Try.sizeOf46 (ch := enc x58) (Enc.len _) (by decide) ((Get.elemN (s := 2) (x := x58) rfl g60.2.2 (Get.here _)).off (by omega))) ?_
  refine Lst.alloc (cs := enc Pair.zero) rfl rfl (by decide) Try.zeroValue46 rfl (fun b61 => ?_)
  refine Lst.store (i := 0) rfl rfl rfl rfl rfl Try.sizeOf46 (vs := enc x58) rfl (Enc.len _) (Enc.one _) (cs' := enc x58) (Put.here ((Enc.len _).trans (Enc.len _).symm)) (L' := (.blk b61 (enc x58) 46) :: (.own s51 3 1 (encs l52)) :: (.rows (α := Bool) 4 rs54) :: (.own s6 44 1 (encs rs54)) :: (.own Sl.nil 44 1 (encs ([] : List (LR Bool)))) :: L) rfl ?_
  refine Lst.nil ?_
  refine At.then ?_
  refine Cd.seq ?_
  refine Cd.quiet (by kernel_rfl) (by kernel_rfl) ?_
  refine Qt.run rfl rfl (by decide) (Ev.fieldAddr (off' := 0) rfl Try.runUnderlying46 rfl Try.sizeOf3 rfl rfl) ?_
  refine Qt.run rfl rfl (by decide) (Ev.load (i := 0) rfl rfl Try.isAgg3 (v := .int .i64 x58.A) ((Pair.get_A (Get.here _)).off (by rfl))) ?_
  refine Qt.run rfl rfl (by decide) (Ev.move rfl) ?_
  refine Qt.run rfl rfl (by decide) (Ev.eql rfl rfl) ?_
  refine Qt.run rfl rfl (by decide) (Ev.move rfl) ?_
  obtain ⟨o63, H, HKo63⟩ := bind_some H
  refine Qt.join (σ := Bool) 10 (fun y64 => [(0, .int .i64 a0), (1, Sl.v s_a1), (5, Sl.v s6), (6, .int .i64 (i11 : Int)), (7, Sl.v s51), (8, .int .i64 x42), (10, .pointer (some ⟨b61, 0, none⟩)), (13, .int .i64 a0), (14, .int .i64 (i11 : Int)), (32, Sl.v s_a1), (33, .int .i64 (a1.length : Int)), (34, .int .i64 (i50 : Int)), (52, .bool y64)]) (fun y64 => y64 = o63) ?_ ?_
  · rcases (Bool.eq_false_or_eq_true (x58.A == x42)).symm with hb65 | hb65
    · replace H := ite_f hb65 H
      refine Qt.skip rfl rfl rfl hb65 rfl (by decide) ?_
      refine Qt.skip rfl rfl rfl hb65 rfl (by decide) ?_
      refine Qt.skip rfl rfl rfl hb65 rfl (by decide) ?_
      refine Qt.skip rfl rfl rfl hb65 rfl (by decide) ?_
      refine Qt.skip rfl rfl rfl hb65 rfl (by decide) ?_
      refine Qt.skip rfl rfl rfl hb65 rfl (by decide) ?_
      refine Qt.skip rfl rfl rfl hb65 rfl (by decide) ?_
      refine Qt.skip rfl rfl rfl hb65 rfl (by decide) ?_
      refine Qt.skip rfl rfl rfl hb65 rfl (by decide) ?_
      refine Qt.run rfl rfl (by decide) (Ev.pickF rfl hb65 rfl) ?_
      exact Qt.meet false ⟨rfl, rfl, rfl, rfl, rfl, rfl, rfl, rfl, rfl, rfl, rfl, rfl, rfl, trivial⟩ (some_inj H)
    replace H := ite_t hb65 H
    refine Qt.runG rfl rfl rfl hb65 rfl (by decide) (Ev.move rfl) ?_
    refine Qt.runG rfl rfl rfl hb65 rfl (by decide) (Ev.move rfl) ?_
    obtain ⟨x66, h67, H⟩ := bind_some H
    have g68 := lat_some h67
    obtain ⟨⟨r69v, r69h⟩, r69g, r69e, r69m⟩ := map_get fm55 g68.2.2
    obtain rfl : x66 = r69v := r69e.symm
    have hh70 := row_h r69g
    refine Qt.runG rfl rfl rfl hb65 rfl (by decide) (Ev.indexS (α := LR Bool) (xs := rs54) rfl rfl Try.runUnderlying42 Try.sizeOf44 rfl (by decide) (Rd.own (i := 3) rfl rfl rfl) g68.1 (by have := map_len fm55; omega)) ?_
    refine Qt.runG rfl rfl rfl hb65 rfl (by decide) (Ev.loadS (α := LR Bool) rfl (Rd.own (i := 3) rfl rfl rfl) Try.isAgg44 (v := Sl.v r69h) ((Get.elemN (s := 1) rfl r69g (Get.here _)).off (by omega))) ?_
    refine Qt.runG rfl rfl rfl hb65 rfl (by decide) (Ev.fieldAddr (off' := 1) rfl Try.runUnderlying46 rfl Try.sizeOf3 rfl rfl) ?_
    refine Qt.runG rfl rfl rfl hb65 rfl (by decide) (Ev.load (i := 0) rfl rfl Try.isAgg3 (v := .int .i64 x58.B) ((Pair.get_B (Get.here _)).off (by rfl))) ?_
    obtain ⟨x71, h72, H⟩ := bind_some H
    have g73 := lat_some h72
    refine Qt.runG rfl rfl rfl hb65 rfl (by decide) (Ev.indexS (α := Bool) (xs := x66) rfl rfl Try.runUnderlying44 Try.sizeOf4 rfl (by decide) (Rd.row (j := 2) rfl r69g) g73.1 g73.2.1) ?_
    refine Qt.runG rfl rfl rfl hb65 rfl (by decide) (Ev.loadS (α := Bool) rfl (Rd.row (j := 2) rfl r69g) Try.isAgg4 (v := .bool x71) ((Get.elemN (s := 1) (x := x71) rfl g73.2.2 (Get.here _)).off (by omega))) ?_
    refine Qt.runG rfl rfl rfl hb65 rfl (by decide) (Ev.not rfl) ?_
    refine Qt.run rfl rfl (by decide) (Ev.pickT rfl hb65 rfl) ?_
    exact Qt.meet (!x71) ⟨rfl, rfl, rfl, rfl, rfl, rfl, rfl, rfl, rfl, rfl, rfl, rfl, rfl, trivial⟩ (some_inj H)
  rintro y64 hy
  subst hy
  refine Qt.as (e' := [(0, .int .i64 a0), (1, Sl.v s_a1), (5, Sl.v s6), (6, .int .i64 (i11 : Int)), (7, Sl.v s51), (8, .int .i64 x42), (10, .pointer (some ⟨b61, 0, none⟩)), (13, .int .i64 a0), (14, .int .i64 (i11 : Int)), (32, Sl.v s_a1), (33, .int .i64 (a1.length : Int)), (34, .int .i64 (i50 : Int)), (52, .bool y64)]) ⟨rfl, rfl, rfl, rfl, rfl, rfl, rfl, rfl, rfl, rfl, rfl, rfl, rfl, trivial⟩ ?_
  replace H := HKo63
  refine Qt.done ?_
  refine At.then ?_
  rcases (Bool.eq_false_or_eq_true y64).symm with hb74 | hb74
  · replace H := ite_f hb74 H
    refine Cd.condF rfl hb74 ?_
    refine Cd.skip ?_
    refine At.in_normal ?_
    refine At.then ?_
    refine Cd.region ?_
    refine Lst.run rfl rfl (by decide) (Ev.incr (by omega) rfl rfl) ?_
    refine Lst.run rfl rfl (by decide) (Ev.move rfl) ?_
    refine Lst.nil ?_
    refine At.less (L' := (.own s51 3 1 (encs l52)) :: (.rows (α := Bool) 4 rs54) :: (.own s6 44 1 (encs rs54)) :: (.own Sl.nil 44 1 (encs ([] : List (LR Bool)))) :: L) (List.Sublist.cons _ (List.Sublist.cons_cons _ (List.Sublist.cons_cons _ (List.Sublist.cons_cons _ (List.Sublist.cons_cons _ (List.Sublist.refl _)))))) ?_
    exact At.meet (i50 + 1, k50, s51, l52, l53, rs54) hF57 ⟨rfl, rfl, rfl, rfl, rfl, rfl, rfl, rfl, rfl, rfl, rfl, trivial⟩ rfl ⟨⟨hgo50 _ (some_inj H).symm, by omega, fm55⟩, Nat.lt_succ_self _⟩
  replace H := ite_t hb74 H
  refine Cd.condT rfl hb74 ?_
  refine Cd.seq ?_
  refine Cd.tail 7 (by kernel_rfl) (by kernel_rfl) ?_
  refine Qt.run rfl rfl (by decide) (Ev.move rfl) ?_
  refine Qt.run rfl rfl (by decide) (Ev.move rfl) ?_
  obtain ⟨x75, h76, H⟩ := bind_some H
  have g77 := lat_some h76
  obtain ⟨⟨r78v, r78h⟩, r78g, r78e, r78m⟩ := map_get fm55 g77.2.2
  obtain rfl : x75 = r78v := r78e.symm
  have hh79 := row_h r78g
  refine Qt.run rfl rfl (by decide) (Ev.indexS (α := LR Bool) (xs := rs54) rfl rfl Try.runUnderlying42 Try.sizeOf44 rfl (by decide) (Rd.own (i := 3) rfl rfl rfl) g77.1 (by have := map_len fm55; omega)) ?_
  refine Qt.run rfl rfl (by decide) (Ev.loadS (α := LR Bool) rfl (Rd.own (i := 3) rfl rfl rfl) Try.isAgg44 (v := Sl.v r78h) ((Get.elemN (s := 1) rfl r78g (Get.here _)).off (by omega))) ?_
  refine Qt.run rfl rfl (by decide) (Ev.fieldAddr (off' := 1) rfl Try.runUnderlying46 rfl Try.sizeOf3 rfl rfl) ?_
  refine Qt.run rfl rfl (by decide) (Ev.load (i := 0) rfl rfl Try.isAgg3 (v := .int .i64 x58.B) ((Pair.get_B (Get.here _)).off (by rfl))) ?_
  obtain ⟨x80, h81, H⟩ := bind_some H
  have g82 := lat_some h81
  refine Qt.run rfl rfl (by decide) (Ev.indexS (α := Bool) (xs := x75) rfl rfl Try.runUnderlying44 Try.sizeOf4 rfl (by decide) (Rd.row (j := 2) rfl r78g) g82.1 g82.2.1) ?_
  refine Qt.tail ?_
  obtain ⟨p83, h84, H⟩ := Let_some H
  have hm85 : (rs54.set (i11 : Int).toNat (LR.mk (x75.set x58.B.toNat true) r78h)).map LR.v = p83 := (map_set fm55 _ _).trans h84
  refine Lst.front (i := 2) rfl (L' := (.rows (α := Bool) 4 rs54) :: (.blk b61 (enc x58) 46) :: (.own s51 3 1 (encs l52)) :: (.own s6 44 1 (encs rs54)) :: (.own Sl.nil 44 1 (encs ([] : List (LR Bool)))) :: L) rfl ?_
  refine Lst.storeR (α := Bool) rfl rfl rfl rfl r78g Try.sizeOf4 (vs := [.bool true]) rfl rfl (by decide) rfl (xs' := (x75.set x58.B.toNat true)) ((Put.elemN (s := 1) (x := x80) rfl g82.2.2 (Put.here (vs := [.bool true]) rfl)).off (by omega)) ?_
  refine Lst.its (L' := (.rows (α := Bool) 4 (rs54.set (i11 : Int).toNat (LR.mk (x75.set x58.B.toNat true) r78h))) :: (.blk b61 (enc x58) 46) :: (.own s51 3 1 (encs l52)) :: (.own s6 44 1 (encs (rs54.set (i11 : Int).toNat (LR.mk (x75.set x58.B.toNat true) r78h)))) :: (.own Sl.nil 44 1 (encs ([] : List (LR Bool)))) :: L) (by rw [show encs (rs54.set (i11 : Int).toNat (LR.mk (x75.set x58.B.toNat true) r78h)) = encs rs54 from encs_rowv r78g]) ?_
  refine Lst.nil ?_
  refine At.then ?_
  refine Cd.region ?_
  refine Lst.run rfl rfl (by decide) (Ev.move rfl) ?_
  refine Lst.run rfl rfl (by decide) (Ev.fieldAddr (off' := 1) rfl Try.runUnderlying46 rfl Try.sizeOf3 rfl rfl) ?_
  refine Lst.run rfl rfl (by decide) (Ev.load (i := 1) rfl rfl Try.isAgg3 (v := .int .i64 x58.B) ((Pair.get_B (Get.here _)).off (by rfl))) ?_
  refine Lst.buildSlice (α := Int) (xs := ([x58.B] : List Int)) (pv := [(0, .int .i64 x58.B)]) rfl rfl (by decide) ⟨rfl, rfl, trivial⟩ (run_buildSlice (α := Int) (z0 := (0 : Int)) (xs := ([x58.B] : List Int)) Try.runUnderlying36 Try.sizeOf3 Try.zeroValue3 rfl rfl rfl (by decide) rfl (fill_cons (cs := encs (List.replicate 1 (0 : Int))) (cs' := encs ((List.replicate 1 (0 : Int)).set 0 x58.B)) (vs := [.int .i64 x58.B]) rfl rfl rfl ((Put.elemN (s := 1) (i := 0) (x := (0 : Int)) (y := x58.B) rfl rfl (Put.here (vs := [.int .i64 x58.B]) rfl)).off rfl) fill_nil)) rfl rfl (by decide) (fun s87 _ => ?_)
  obtain ⟨u89, h90, H⟩ := bind_some H
  refine Lst.append (i := 3) (α := Int) (xs := l52) (ys := ([x58.B] : List Int)) rfl rfl (by decide) rfl rfl Try.runUnderlying36 Try.typeInfo3 rfl rfl rfl rfl rfl rfl (Rd.own (i := 0) rfl rfl rfl) rfl (room_some h90) rfl (fun s91 => ?_)
  refine Lst.its (L' := (.own s87 3 1 (encs ([x58.B] : List Int))) :: (.rows (α := Bool) 4 (rs54.set (i11 : Int).toNat (LR.mk (x75.set x58.B.toNat true) r78h))) :: (.blk b61 (enc x58) 46) :: (.own s91 3 1 (encs (l52 ++ ([x58.B] : List Int)))) :: (.own s6 44 1 (encs (rs54.set (i11 : Int).toNat (LR.mk (x75.set x58.B.toNat true) r78h)))) :: (.own Sl.nil 44 1 (encs ([] : List (LR Bool)))) :: L) rfl ?_
  refine Lst.run rfl rfl (by decide) (Ev.assign rfl) ?_
  refine Lst.nil ?_
  refine At.in_normal ?_
  refine At.then ?_
  refine Cd.as (e' := [(0, .int .i64 a0), (1, Sl.v s_a1), (5, Sl.v s6), (6, .int .i64 (i11 : Int)), (8, .int .i64 x42), (13, .int .i64 a0), (14, .int .i64 (i11 : Int)), (32, Sl.v s_a1), (33, .int .i64 (a1.length : Int)), (34, .int .i64 (i50 : Int)), (7, Sl.v s91)]) (L' := (.own s87 3 1 (encs ([x58.B] : List Int))) :: (.rows (α := Bool) 4 (rs54.set (i11 : Int).toNat (LR.mk (x75.set x58.B.toNat true) r78h))) :: (.blk b61 (enc x58) 46) :: (.own s91 3 1 (encs (l52 ++ ([x58.B] : List Int)))) :: (.own s6 44 1 (encs (rs54.set (i11 : Int).toNat (LR.mk (x75.set x58.B.toNat true) r78h)))) :: (.own Sl.nil 44 1 (encs ([] : List (LR Bool)))) :: L) ⟨rfl, rfl, rfl, rfl, rfl, rfl, rfl, rfl, rfl, rfl, rfl, trivial⟩ rfl ?_
  refine Cd.region ?_
  refine Lst.run rfl rfl (by decide) (Ev.incr (by omega) rfl rfl) ?_
  refine Lst.run rfl rfl (by decide) (Ev.move rfl) ?_
  refine Lst.nil ?_
  refine At.front (i := 5) rfl rfl ?_
  refine At.front (i := 5) rfl rfl ?_
  refine At.front (i := 3) rfl rfl ?_
  refine At.front (i := 5) rfl rfl ?_
  refine At.less (L' := (.own s91 3 1 (encs (l52 ++ ([x58.B] : List Int)))) :: (.rows (α := Bool) 4 (rs54.set (i11 : Int).toNat (LR.mk (x75.set x58.B.toNat true) r78h))) :: (.own s6 44 1 (encs (rs54.set (i11 : Int).toNat (LR.mk (x75.set x58.B.toNat true) r78h)))) :: (.own Sl.nil 44 1 (encs ([] : List (LR Bool)))) :: L) (List.Sublist.cons_cons _ (List.Sublist.cons_cons _ (List.Sublist.cons_cons _ (List.Sublist.cons_cons _ (List.Sublist.cons _ (List.Sublist.cons _ (List.Sublist.refl _))))))) ?_
  exact At.meet (i50 + 1, k50, s91, l52 ++ ([x58.B] : List Int), p83, (rs54.set (i11 : Int).toNat (LR.mk (x75.set x58.B.toNat true) r78h))) hF57 ⟨rfl, rfl, rfl, rfl, rfl, rfl, rfl, rfl, rfl, rfl, rfl, trivial⟩ rfl ⟨⟨hgo50 _ (some_inj H).symm, by omega, hm85⟩, Nat.lt_succ_self _⟩
set_option maxRecDepth 20000 in
theorem partref_Causes_sim {fu : Nat} {a0 : List Event} {s_a0 : Sl} {r : (List (List Bool))} (H : partref_Causes fu a0 = some r) (w0 : World) (F : Frz) (M L : List Item) (hM : M.Sublist L) (hs_a0 : Rd w0 F M s_a0 a0) : Ok Try.prog w0 23 [Sl.v s_a0] F (L) (fun Fx L' v => ∃ (s1 : Sl) (rs2 : List (LR Bool)), v = Sl.v s1 ∧ L' = (.rows (α := Bool) 4 rs2) :: (.own s1 44 1 (encs rs2)) :: L ∧ rs2.map LR.v = r) := by
  unfold partref_Causes at H
  refine Ok.enter (m := 1) (n := 60) Try.func23 rfl rfl rfl (by decide) ?_
  refine Cd.env (e' := [(0, Sl.v s_a0)]) rfl ?_
  refine Cd.seq ?_
  refine Cd.region ?_
  have ha2 : All LR.rel w0 F [] ([] : List (LR Bool)) := All.nil
  have ha2m : List.map LR.v ([] : List (LR Bool)) = ([] : List (List Bool)) := rfl
  refine Lst.addNil 44 1 ?_
  refine Lst.run rfl rfl (by decide) (Ev.assign rfl) ?_
  refine Lst.nil ?_
  refine At.then ?_
  refine Cd.seq ?_
  refine Cd.region ?_
  refine Lst.addNil 46 2 ?_
  refine Lst.run rfl rfl (by decide) (Ev.assign rfl) ?_
  refine Lst.nil ?_
  refine At.then ?_
  refine Cd.seq ?_
  refine Cd.seq ?_
  refine Cd.region ?_
  refine Lst.run rfl rfl (by decide) (Ev.move rfl) ?_
  refine Lst.run rfl rfl (by decide) (Ev.lenS (α := Event) (xs := a0) (by decide) rfl rfl Try.runUnderlying24 (hs_a0.mono (FLe.refl _) (List.Sublist.cons _ (List.Sublist.cons _ hM)))) ?_
  refine Lst.run rfl rfl (by decide) (Ev.move rfl) ?_
  refine Lst.nil ?_
  refine At.then ?_
  refine Cd.block ?_
  refine Cd.bound (Rd.le (α := Event) (xs := a0) (by decide) (hs_a0.mono (FLe.refl _) (List.Sublist.cons _ (List.Sublist.cons _ hM)))) (fun hN57 => ?_)
  obtain ⟨ol4, H, HKl4⟩ := bind_some H
  refine Cd.loop (σ := Nat × Nat × Sl × (List Pair)) (fun (i4, k4, s5, l6) => [(0, Sl.v s_a0), (3, Sl.v s5), (8, Sl.v s_a0), (9, .int .i64 (a0.length : Int)), (10, .int .i64 (i4 : Int))]) (fun (i4, k4, s5, l6) => (.own s5 46 2 (encs l6)) :: (.own Sl.nil 44 1 (encs ([] : List (LR Bool)))) :: L) (fun _ => (fun (i4, k4, s5, l6) => rangeF (partref_Causes_B0 fu a0) k4 i4 l6 = some ol4 ∧ i4 + k4 = a0.length)) (fun (i4, k4, s5, l6) => k4) (0, a0.length, Sl.nil, ([] : List Pair)) ⟨rfl, rfl, rfl, rfl, rfl, trivial⟩ rfl ⟨H, by omega⟩ ?_
  rintro F7 ⟨i4, k4, s5, l6⟩ hF8 ⟨H, hik4⟩
  refine Cd.as (e' := [(0, Sl.v s_a0), (3, Sl.v s5), (8, Sl.v s_a0), (9, .int .i64 (a0.length : Int)), (10, .int .i64 (i4 : Int))]) (L' := (.own s5 46 2 (encs l6)) :: (.own Sl.nil 44 1 (encs ([] : List (LR Bool)))) :: L) ⟨rfl, rfl, rfl, rfl, rfl, trivial⟩ rfl ?_
  rcases k4 with _ | k4
  · have hc4 : decide ((i4 : Int) < (a0.length : Int)) = false := decide_eq_false (by omega)
    replace H := rangeF_end H
    refine Cd.seq ?_
    refine Cd.region ?_
    refine Lst.run rfl rfl (by decide) (Ev.lss rfl rfl) ?_
    refine Lst.nil ?_
    refine At.then ?_
    refine Cd.seq ?_
    refine Cd.condF rfl hc4 ?_
    refine Cd.exit ?_
    refine At.then_exit ?_
    refine At.then_exit ?_
    refine At.in_exit ?_
    subst H
    replace H := HKl4
    refine At.then ?_
    refine Cd.seq ?_
    refine Cd.region ?_
    refine Lst.run rfl rfl (by decide) (Ev.move rfl) ?_
    refine Lst.run rfl rfl (by decide) (Ev.lenS (α := Event) (xs := a0) (by decide) rfl rfl Try.runUnderlying24 (hs_a0.mono hF8 (List.Sublist.cons _ (List.Sublist.cons _ hM)))) ?_
    refine Lst.run rfl rfl (by decide) (Ev.move rfl) ?_
    obtain ⟨r48, h49, H⟩ := bind_some H
    refine Lst.call rfl rfl (by decide) (vs := [.int .i64 (a0.length : Int), Sl.v s5]) ⟨rfl, rfl, trivial⟩ Try.call52 (partref_Closure_sim h49 w0 _ _ _ (List.Sublist.refl _) (Rd.own (i := 0) rfl rfl rfl)) (fun F55 L' v hF56 hv => ?_)
    obtain ⟨s50, rs51, rfl, rfl, fm52⟩ := hv
    refine Lst.run rfl rfl (by decide) (Ev.assign rfl) ?_
    refine Lst.nil ?_
    refine At.then ?_
    obtain rfl := some_inj H
    refine Cd.ret ?_
    exact At.ret1 rfl (Res.tmp rfl) (FLe.trans hF8 hF56) (List.Sublist.cons_cons _ (List.Sublist.cons_cons _ (List.Sublist.cons _ (List.Sublist.cons _ (List.Sublist.refl _))))) ⟨s50, rs51, rfl, rfl, fm52⟩
  have hc4 : decide ((i4 : Int) < (a0.length : Int)) = true := decide_eq_true (by omega)
  obtain ⟨c4, H, hgo4⟩ := rangeF_go H
  unfold partref_Causes_B0 at H
  try dsimp only at H
  refine Cd.seq ?_
  refine Cd.region ?_
  refine Lst.run rfl rfl (by decide) (Ev.lss rfl rfl) ?_
  refine Lst.nil ?_
  refine At.then ?_
  refine Cd.seq ?_
  refine Cd.condT rfl hc4 ?_
  refine Cd.skip ?_
  refine At.then ?_
  refine Cd.seq ?_
  refine Cd.block ?_
  refine Cd.seq ?_
  refine Cd.region ?_
  refine Lst.run rfl rfl (by decide) (Ev.move rfl) ?_
  obtain ⟨x9, h10, H⟩ := bind_some H
  have g11 := lat_some h10
  refine Lst.run rfl rfl (by decide) (Ev.indexS (α := Event) (xs := a0) rfl rfl Try.runUnderlying24 Try.sizeOf75 rfl (by decide) (hs_a0.mono hF8 (List.Sublist.cons _ (List.Sublist.cons _ hM))) g11.1 g11.2.1) ?_
  refine Lst.run rfl rfl (by decide) (Ev.loadSA (α := Event) rfl (hs_a0.mono hF8 (List.Sublist.cons _ (List.Sublist.cons _ hM))) Try.isAgg75 Try.sizeOf75 (ch := enc x9) (Enc.len _) (by decide) ((Get.elemN (s := 3) (x := x9) rfl g11.2.2 (Get.here _)).off (by omega))) ?_
  refine Lst.alloc (cs := enc Event.zero) rfl rfl (by decide) Try.zeroValue75 rfl (fun b12 => ?_)
  refine Lst.run rfl rfl (by decide) (Ev.assign rfl) ?_
  refine Lst.store (i := 0) rfl rfl rfl rfl rfl Try.sizeOf75 (vs := enc x9) rfl (Enc.len _) (Enc.one _) (cs' := enc x9) (Put.here ((Enc.len _).trans (Enc.len _).symm)) (L' := (.blk b12 (enc x9) 75) :: (.own s5 46 2 (encs l6)) :: (.own Sl.nil 44 1 (encs ([] : List (LR Bool)))) :: L) rfl ?_
  refine Lst.nil ?_
  refine At.then ?_
  refine Cd.seq ?_
  refine Cd.region ?_
  refine Lst.run rfl rfl (by decide) (Ev.move rfl) ?_
  refine Lst.run rfl rfl (by decide) (Ev.add rfl rfl) ?_
  refine Lst.run rfl rfl (by decide) (Ev.assign rfl) ?_
  refine Lst.nil ?_
  refine At.then ?_
  refine Cd.block ?_
  obtain ⟨ol14, H, HKl14⟩ := andThen_some H
  refine Cd.loop (σ := Nat × Int × Sl × (List Pair)) (fun (k14, y15, s16, l17) => [(0, Sl.v s_a0), (3, Sl.v s16), (4, .int .i64 (i4 : Int)), (5, .pointer (some ⟨b12, 0, none⟩)), (6, .int .i64 y15), (8, Sl.v s_a0), (9, .int .i64 (a0.length : Int)), (10, .int .i64 (i4 : Int))]) (fun (k14, y15, s16, l17) => (.blk b12 (enc x9) 75) :: (.own s16 46 2 (encs l17)) :: (.own Sl.nil 44 1 (encs ([] : List (LR Bool)))) :: L) (fun _ => (fun (k14, y15, s16, l17) => whileM (partref_Causes_B2 a0 i4 x9) k14 (y15, l17) = some ol14)) (fun (k14, y15, s16, l17) => k14) (fu, w64 ((i4 : Int) + (1 : Int)), s5, l6) ⟨rfl, rfl, rfl, rfl, rfl, rfl, rfl, rfl, trivial⟩ rfl H ?_
  rintro F18 ⟨k14, y15, s16, l17⟩ hF19 H
  refine Cd.as (e' := [(0, Sl.v s_a0), (3, Sl.v s16), (4, .int .i64 (i4 : Int)), (5, .pointer (some ⟨b12, 0, none⟩)), (6, .int .i64 y15), (8, Sl.v s_a0), (9, .int .i64 (a0.length : Int)), (10, .int .i64 (i4 : Int))]) (L' := (.blk b12 (enc x9) 75) :: (.own s16 46 2 (encs l17)) :: (.own Sl.nil 44 1 (encs ([] : List (LR Bool)))) :: L) ⟨rfl, rfl, rfl, rfl, rfl, rfl, rfl, rfl, trivial⟩ rfl ?_
  rcases k14 with _ | k14
  · cases H
  obtain ⟨c14, H, hgo14, hbrk14, hret14⟩ := whileM_go H
  unfold partref_Causes_B2 at H
  try dsimp only at H
  refine Cd.seq ?_
  refine Cd.seq ?_
  refine Cd.region ?_
  refine Lst.run rfl rfl (by decide) (Ev.move rfl) ?_
  refine Lst.run rfl rfl (by decide) (Ev.move rfl) ?_
  refine Lst.run rfl rfl (by decide) (Ev.lenS (α := Event) (xs := a0) (by decide) rfl rfl Try.runUnderlying24 (hs_a0.mono (FLe.trans hF8 hF19) (List.Sublist.cons _ (List.Sublist.cons _ (List.Sublist.cons _ hM))))) ?_
  refine Lst.run rfl rfl (by decide) (Ev.lss rfl rfl) ?_
  refine Lst.nil ?_
  refine At.then ?_
  rcases (Bool.eq_false_or_eq_true (decide (y15 < (a0.length : Int)))).symm with hb20 | hb20
  · replace H := ite_f hb20 H
    refine Cd.condF rfl hb20 ?_
    refine Cd.exit ?_
    refine At.then_exit ?_
    refine At.then_exit ?_
    refine At.in_exit ?_
    have H := hbrk14 _ (some_inj H).symm
    subst H
    replace H := HKl14
    refine At.in_normal ?_
    refine At.then ?_
    refine Cd.region ?_
    refine Lst.run rfl rfl (by decide) (Ev.incr (by omega) rfl rfl) ?_
    refine Lst.run rfl rfl (by decide) (Ev.move rfl) ?_
    refine Lst.nil ?_
    refine At.less (L' := (.own s16 46 2 (encs l17)) :: (.own Sl.nil 44 1 (encs ([] : List (LR Bool)))) :: L) (List.Sublist.cons _ (List.Sublist.cons_cons _ (List.Sublist.cons_cons _ (List.Sublist.refl _)))) ?_
    exact At.meet (i4 + 1, k4, s16, l17) (FLe.trans hF8 hF19) ⟨rfl, rfl, rfl, rfl, rfl, trivial⟩ rfl ⟨⟨hgo4 _ (some_inj H).symm, by omega⟩, Nat.lt_succ_self _⟩
  replace H := ite_t hb20 H
  refine Cd.condT rfl hb20 ?_
  refine Cd.skip ?_
  refine At.then ?_
  refine Cd.seq ?_
  refine Cd.block ?_
  refine Cd.seq ?_
  refine Cd.region ?_
  refine Lst.run rfl rfl (by decide) (Ev.move rfl) ?_
  refine Lst.run rfl rfl (by decide) (Ev.move rfl) ?_
  obtain ⟨x21, h22, H⟩ := bind_some H
  have g23 := lat_some h22
  refine Lst.run rfl rfl (by decide) (Ev.indexS (α := Event) (xs := a0) rfl rfl Try.runUnderlying24 Try.sizeOf75 rfl (by decide) (hs_a0.mono (FLe.trans hF8 hF19) (List.Sublist.cons _ (List.Sublist.cons _ (List.Sublist.cons _ hM)))) g23.1 g23.2.1) ?_
  refine Lst.run rfl rfl (by decide) (Ev.loadSA (α := Event) rfl (hs_a0.mono (FLe.trans hF8 hF19) (List.Sublist.cons _ (List.Sublist.cons _ (List.Sublist.cons _ hM)))) Try.isAgg75 Try.sizeOf75 (ch := enc x21) (Enc.len _) (by decide) ((Get.elemN (s := 3) (x := x21) rfl g23.2.2 (Get.here _)).off (by omega))) ?_
  refine Lst.alloc (cs := enc Event.zero) rfl rfl (by decide) Try.zeroValue75 rfl (fun b24 => ?_)
  refine Lst.store (i := 0) rfl rfl rfl rfl rfl Try.sizeOf75 (vs := enc x21) rfl (Enc.len _) (Enc.one _) (cs' := enc x21) (Put.here ((Enc.len _).trans (Enc.len _).symm)) (L' := (.blk b24 (enc x21) 75) :: (.blk b12 (enc x9) 75) :: (.own s16 46 2 (encs l17)) :: (.own Sl.nil 44 1 (encs ([] : List (LR Bool)))) :: L) rfl ?_
  refine Lst.nil ?_
  refine At.then ?_
  refine Cd.seq ?_
  refine Cd.region ?_
  refine Lst.run rfl rfl (by decide) (Ev.fieldAddr (off' := 0) rfl Try.runUnderlying75 rfl Try.sizeOf3 rfl rfl) ?_
  refine Lst.run rfl rfl (by decide) (Ev.load (i := 1) rfl rfl Try.isAgg3 (v := .int .i64 x9.Proc) ((Event.get_Proc (Get.here _)).off (by rfl))) ?_
  refine Lst.run rfl rfl (by decide) (Ev.fieldAddr (off' := 0) rfl Try.runUnderlying75 rfl Try.sizeOf3 rfl rfl) ?_
  refine Lst.run rfl rfl (by decide) (Ev.load (i := 0) rfl rfl Try.isAgg3 (v := .int .i64 x21.Proc) ((Event.get_Proc (Get.here _)).off (by rfl))) ?_
  refine Lst.run rfl rfl (by decide) (Ev.eql rfl rfl) ?_
  refine Lst.run rfl rfl (by decide) (Ev.move rfl) ?_
  rcases Bool.eq_false_or_eq_true (x9.Proc == x21.Proc) with hb26 | hb26
  · replace H := ite_t hb26 H
    refine Lst.skip rfl rfl rfl hb26 rfl (by decide) ?_
    refine Lst.skip rfl rfl rfl hb26 rfl (by decide) ?_
    refine Lst.skip rfl rfl rfl hb26 rfl (by decide) ?_
    refine Lst.skip rfl rfl rfl hb26 rfl (by decide) ?_
    refine Lst.skipU rfl rfl rfl rfl (by decide) ?_
    refine Lst.skipU rfl rfl rfl rfl (by decide) ?_
    refine Lst.skipU rfl rfl rfl rfl (by decide) ?_
    refine Lst.skip rfl rfl rfl hb26 rfl (by decide) ?_
    refine Lst.skip rfl rfl rfl hb26 rfl (by decide) ?_
    refine Lst.skipU rfl rfl rfl rfl (by decide) ?_
    refine Lst.skipU rfl rfl rfl rfl (by decide) ?_
    refine Lst.skipU rfl rfl rfl rfl (by decide) ?_
    refine Lst.skipU rfl rfl rfl rfl (by decide) ?_
    refine Lst.skipU rfl rfl rfl rfl (by decide) ?_
    refine Lst.skip rfl rfl rfl hb26 rfl (by decide) ?_
    refine Lst.run rfl rfl (by decide) (Ev.pickT rfl hb26 rfl) ?_
    refine Lst.nil ?_
    refine At.then ?_
    refine Cd.condT rfl rfl ?_
    refine Cd.as (e' := [(0, Sl.v s_a0), (3, Sl.v s16), (4, .int .i64 (i4 : Int)), (5, .pointer (some ⟨b12, 0, none⟩)), (6, .int .i64 y15), (8, Sl.v s_a0), (9, .int .i64 (a0.length : Int)), (10, .int .i64 (i4 : Int))]) (L' := (.blk b24 (enc x21) 75) :: (.blk b12 (enc x9) 75) :: (.own s16 46 2 (encs l17)) :: (.own Sl.nil 44 1 (encs ([] : List (LR Bool)))) :: L) ⟨rfl, rfl, rfl, rfl, rfl, rfl, rfl, rfl, trivial⟩ rfl ?_
    refine Cd.region ?_
    refine Lst.run rfl rfl (by decide) (Ev.move rfl) ?_
    refine Lst.run rfl rfl (by decide) (Ev.move rfl) ?_
    refine Lst.run rfl rfl (by decide) (Ev.move rfl) ?_
    refine Lst.run rfl rfl (by decide) (Ev.build (v := .agg (enc ({ Pair.zero with A := (i4 : Int), B := y15 } : Pair)).toArray) (pv := [(0, .int .i64 (i4 : Int)), (1, .int .i64 y15)]) ⟨rfl, rfl, ⟨rfl, rfl, trivial⟩⟩ (fun w => by kernel_rfl)) ?_
    refine Lst.buildSlice (α := Pair) (xs := ([({ Pair.zero with A := (i4 : Int), B := y15 } : Pair)] : List Pair)) (pv := [(0, .agg (enc ({ Pair.zero with A := (i4 : Int), B := y15 } : Pair)).toArray)]) rfl rfl (by decide) ⟨rfl, rfl, trivial⟩ (run_buildSlice (α := Pair) (z0 := Pair.zero) (xs := ([({ Pair.zero with A := (i4 : Int), B := y15 } : Pair)] : List Pair)) Try.runUnderlying39 Try.sizeOf46 Try.zeroValue46 rfl rfl rfl (by decide) rfl (fill_cons (cs := encs (List.replicate 1 Pair.zero)) (cs' := encs ((List.replicate 1 Pair.zero).set 0 ({ Pair.zero with A := (i4 : Int), B := y15 } : Pair))) (vs := enc ({ Pair.zero with A := (i4 : Int), B := y15 } : Pair)) rfl rfl (Enc.len _) ((Put.elemN (s := 2) (i := 0) (x := Pair.zero) (y := ({ Pair.zero with A := (i4 : Int), B := y15 } : Pair)) rfl rfl (Put.here ((Enc.len _).trans (Enc.len _).symm))).off rfl) fill_nil)) rfl rfl (by decide) (fun s27 _ => ?_)
    obtain ⟨u29, h30, H⟩ := bind_some H
    refine Lst.append (i := 3) (α := Pair) (xs := l17) (ys := ([({ Pair.zero with A := (i4 : Int), B := y15 } : Pair)] : List Pair)) rfl rfl (by decide) rfl rfl Try.runUnderlying39 Try.typeInfo46 rfl rfl rfl rfl rfl rfl (Rd.own (i := 0) rfl rfl rfl) rfl (room_some h30) rfl (fun s31 => ?_)
    refine Lst.its (L' := (.own s27 46 2 (encs ([({ Pair.zero with A := (i4 : Int), B := y15 } : Pair)] : List Pair))) :: (.blk b24 (enc x21) 75) :: (.blk b12 (enc x9) 75) :: (.own s31 46 2 (encs (l17 ++ ([({ Pair.zero with A := (i4 : Int), B := y15 } : Pair)] : List Pair)))) :: (.own Sl.nil 44 1 (encs ([] : List (LR Bool)))) :: L) rfl ?_
    refine Lst.run rfl rfl (by decide) (Ev.assign rfl) ?_
    refine Lst.nil ?_
    refine At.in_normal ?_
    refine At.then ?_
    refine Cd.region ?_
    refine Lst.run rfl rfl (by decide) (Ev.move rfl) ?_
    refine Lst.run rfl rfl (by decide) (Ev.add rfl rfl) ?_
    refine Lst.run rfl rfl (by decide) (Ev.assign rfl) ?_
    refine Lst.nil ?_
    refine At.less (L' := (.blk b12 (enc x9) 75) :: (.own s31 46 2 (encs (l17 ++ ([({ Pair.zero with A := (i4 : Int), B := y15 } : Pair)] : List Pair)))) :: (.own Sl.nil 44 1 (encs ([] : List (LR Bool)))) :: L) (List.Sublist.cons _ (List.Sublist.cons _ (List.Sublist.cons_cons _ (List.Sublist.cons_cons _ (List.Sublist.cons_cons _ (List.Sublist.refl _)))))) ?_
    exact At.meet (k14, w64 (y15 + (1 : Int)), s31, l17 ++ ([({ Pair.zero with A := (i4 : Int), B := y15 } : Pair)] : List Pair)) hF19 ⟨rfl, rfl, rfl, rfl, rfl, rfl, rfl, rfl, trivial⟩ rfl ⟨hgo14 _ (some_inj H).symm, Nat.lt_succ_self _⟩
  replace H := ite_f hb26 H
  refine Lst.runG rfl rfl rfl hb26 rfl (by decide) (Ev.fieldAddr (off' := 1) rfl Try.runUnderlying75 rfl Try.sizeOf3 rfl rfl) ?_
  refine Lst.runG rfl rfl rfl hb26 rfl (by decide) (Ev.load (i := 1) rfl rfl Try.isAgg3 (v := .int .i64 x9.Kind) ((Event.get_Kind (Get.here _)).off (by rfl))) ?_
  refine Lst.runG rfl rfl rfl hb26 rfl (by decide) (Ev.eql rfl rfl) ?_
  refine Lst.runG rfl rfl rfl hb26 rfl (by decide) (Ev.move rfl) ?_
  obtain ⟨o32, H, HKo32⟩ := bind_some H
  refine Lst.join (σ := Bool) 4 (fun y33 => [(0, Sl.v s_a0), (3, Sl.v s16), (4, .int .i64 (i4 : Int)), (5, .pointer (some ⟨b12, 0, none⟩)), (6, .int .i64 y15), (7, .pointer (some ⟨b24, 0, none⟩)), (8, Sl.v s_a0), (9, .int .i64 (a0.length : Int)), (10, .int .i64 (i4 : Int)), (32, .bool (x9.Proc == x21.Proc)), (40, .bool y33)]) (fun y33 => (.blk b24 (enc x21) 75) :: (.blk b12 (enc x9) 75) :: (.own s16 46 2 (encs l17)) :: (.own Sl.nil 44 1 (encs ([] : List (LR Bool)))) :: L) (fun _ y33 => y33 = o32) ?_ ?_
  · rcases (Bool.eq_false_or_eq_true (x9.Kind == (2 : Int))).symm with hb34 | hb34
    · replace H := ite_f hb34 H
      refine Lst.skip rfl rfl rfl hb34 rfl (by decide) ?_
      refine Lst.skip rfl rfl rfl hb34 rfl (by decide) ?_
      refine Lst.skip rfl rfl rfl hb34 rfl (by decide) ?_
      refine Lst.runG rfl rfl rfl hb26 rfl (by decide) (Ev.pickF rfl hb34 rfl) ?_
      refine Lst.nil ?_
      exact At.meet false (FLe.refl _) ⟨rfl, rfl, rfl, rfl, rfl, rfl, rfl, rfl, rfl, rfl, rfl, trivial⟩ rfl (some_inj H)
    replace H := ite_t hb34 H
    refine Lst.runG rfl rfl rfl hb34 rfl (by decide) (Ev.fieldAddr (off' := 1) rfl Try.runUnderlying75 rfl Try.sizeOf3 rfl rfl) ?_
    refine Lst.runG rfl rfl rfl hb34 rfl (by decide) (Ev.load (i := 0) rfl rfl Try.isAgg3 (v := .int .i64 x21.Kind) ((Event.get_Kind (Get.here _)).off (by rfl))) ?_
    refine Lst.runG rfl rfl rfl hb34 rfl (by decide) (Ev.eql rfl rfl) ?_
    refine Lst.runG rfl rfl rfl hb26 rfl (by decide) (Ev.pickT rfl hb34 rfl) ?_
    refine Lst.nil ?_
    exact At.meet (x21.Kind == (3 : Int)) (FLe.refl _) ⟨rfl, rfl, rfl, rfl, rfl, rfl, rfl, rfl, rfl, rfl, rfl, trivial⟩ rfl (some_inj H)
  rintro F35 y33 hF36 hy
  subst hy
  refine Lst.as (e' := [(0, Sl.v s_a0), (3, Sl.v s16), (4, .int .i64 (i4 : Int)), (5, .pointer (some ⟨b12, 0, none⟩)), (6, .int .i64 y15), (7, .pointer (some ⟨b24, 0, none⟩)), (8, Sl.v s_a0), (9, .int .i64 (a0.length : Int)), (10, .int .i64 (i4 : Int)), (32, .bool (x9.Proc == x21.Proc)), (40, .bool y33)]) (L' := (.blk b24 (enc x21) 75) :: (.blk b12 (enc x9) 75) :: (.own s16 46 2 (encs l17)) :: (.own Sl.nil 44 1 (encs ([] : List (LR Bool)))) :: L) ⟨rfl, rfl, rfl, rfl, rfl, rfl, rfl, rfl, rfl, rfl, rfl, trivial⟩ rfl ?_
  replace H := HKo32
  refine Lst.runG rfl rfl rfl hb26 rfl (by decide) (Ev.move rfl) ?_
  obtain ⟨o37, H, HKo37⟩ := bind_some H
  refine Lst.join (σ := Bool) 6 (fun y38 => [(0, Sl.v s_a0), (3, Sl.v s16), (4, .int .i64 (i4 : Int)), (5, .pointer (some ⟨b12, 0, none⟩)), (6, .int .i64 y15), (8, Sl.v s_a0), (9, .int .i64 (a0.length : Int)), (10, .int .i64 (i4 : Int)), (32, .bool (x9.Proc == x21.Proc)), (47, .bool y38)]) (fun y38 => (.blk b24 (enc x21) 75) :: (.blk b12 (enc x9) 75) :: (.own s16 46 2 (encs l17)) :: (.own Sl.nil 44 1 (encs ([] : List (LR Bool)))) :: L) (fun _ y38 => y38 = o37) ?_ ?_
  · rcases (Bool.eq_false_or_eq_true y33).symm with hb39 | hb39
    · replace H := ite_f hb39 H
      refine Lst.skip rfl rfl rfl hb39 rfl (by decide) ?_
      refine Lst.skip rfl rfl rfl hb39 rfl (by decide) ?_
      refine Lst.skip rfl rfl rfl hb39 rfl (by decide) ?_
      refine Lst.skip rfl rfl rfl hb39 rfl (by decide) ?_
      refine Lst.skip rfl rfl rfl hb39 rfl (by decide) ?_
      refine Lst.runG rfl rfl rfl hb26 rfl (by decide) (Ev.pickF rfl hb39 rfl) ?_
      refine Lst.nil ?_
      exact At.meet false (FLe.refl _) ⟨rfl, rfl, rfl, rfl, rfl, rfl, rfl, rfl, rfl, rfl, trivial⟩ rfl (some_inj H)
    replace H := ite_t hb39 H
    refine Lst.runG rfl rfl rfl hb39 rfl (by decide) (Ev.fieldAddr (off' := 2) rfl Try.runUnderlying75 rfl Try.sizeOf3 rfl rfl) ?_
    refine Lst.runG rfl rfl rfl hb39 rfl (by decide) (Ev.load (i := 1) rfl rfl Try.isAgg3 (v := .int .i64 x9.Msg) ((Event.get_Msg (Get.here _)).off (by rfl))) ?_
    refine Lst.runG rfl rfl rfl hb39 rfl (by decide) (Ev.fieldAddr (off' := 2) rfl Try.runUnderlying75 rfl Try.sizeOf3 rfl rfl) ?_
    refine Lst.runG rfl rfl rfl hb39 rfl (by decide) (Ev.load (i := 0) rfl rfl Try.isAgg3 (v := .int .i64 x21.Msg) ((Event.get_Msg (Get.here _)).off (by rfl))) ?_
    refine Lst.runG rfl rfl rfl hb39 rfl (by decide) (Ev.eql rfl rfl) ?_
    refine Lst.runG rfl rfl rfl hb26 rfl (by decide) (Ev.pickT rfl hb39 rfl) ?_
    refine Lst.nil ?_
    exact At.meet (x9.Msg == x21.Msg) (FLe.refl _) ⟨rfl, rfl, rfl, rfl, rfl, rfl, rfl, rfl, rfl, rfl, trivial⟩ rfl (some_inj H)
  rintro F40 y38 hF41 hy
  subst hy
  refine Lst.as (e' := [(0, Sl.v s_a0), (3, Sl.v s16), (4, .int .i64 (i4 : Int)), (5, .pointer (some ⟨b12, 0, none⟩)), (6, .int .i64 y15), (8, Sl.v s_a0), (9, .int .i64 (a0.length : Int)), (10, .int .i64 (i4 : Int)), (32, .bool (x9.Proc == x21.Proc)), (47, .bool y38)]) (L' := (.blk b24 (enc x21) 75) :: (.blk b12 (enc x9) 75) :: (.own s16 46 2 (encs l17)) :: (.own Sl.nil 44 1 (encs ([] : List (LR Bool)))) :: L) ⟨rfl, rfl, rfl, rfl, rfl, rfl, rfl, rfl, rfl, rfl, trivial⟩ rfl ?_
  replace H := HKo37
  refine Lst.run rfl rfl (by decide) (Ev.pickF rfl hb26 rfl) ?_
  refine Lst.nil ?_
  refine At.then ?_
  rcases (Bool.eq_false_or_eq_true y38).symm with hb42 | hb42
  · replace H := ite_f hb42 H
    refine Cd.condF rfl hb42 ?_
    refine Cd.skip ?_
    refine At.in_normal ?_
    refine At.then ?_
    refine Cd.region ?_
    refine Lst.run rfl rfl (by decide) (Ev.move rfl) ?_
    refine Lst.run rfl rfl (by decide) (Ev.add rfl rfl) ?_
    refine Lst.run rfl rfl (by decide) (Ev.assign rfl) ?_
    refine Lst.nil ?_
    refine At.less (L' := (.blk b12 (enc x9) 75) :: (.own s16 46 2 (encs l17)) :: (.own Sl.nil 44 1 (encs ([] : List (LR Bool)))) :: L) (List.Sublist.cons _ (List.Sublist.cons_cons _ (List.Sublist.cons_cons _ (List.Sublist.cons_cons _ (List.Sublist.refl _))))) ?_
    exact At.meet (k14, w64 (y15 + (1 : Int)), s16, l17) (FLe.trans (FLe.trans hF19 hF36) hF41) ⟨rfl, rfl, rfl, rfl, rfl, rfl, rfl, rfl, trivial⟩ rfl ⟨hgo14 _ (some_inj H).symm, Nat.lt_succ_self _⟩
  replace H := ite_t hb42 H
  refine Cd.condT rfl hb42 ?_
  refine Cd.region ?_
  refine Lst.run rfl rfl (by decide) (Ev.move rfl) ?_
  refine Lst.run rfl rfl (by decide) (Ev.move rfl) ?_
  refine Lst.run rfl rfl (by decide) (Ev.move rfl) ?_
  refine Lst.run rfl rfl (by decide) (Ev.build (v := .agg (enc ({ Pair.zero with A := (i4 : Int), B := y15 } : Pair)).toArray) (pv := [(0, .int .i64 (i4 : Int)), (1, .int .i64 y15)]) ⟨rfl, rfl, ⟨rfl, rfl, trivial⟩⟩ (fun w => by kernel_rfl)) ?_
  refine Lst.buildSlice (α := Pair) (xs := ([({ Pair.zero with A := (i4 : Int), B := y15 } : Pair)] : List Pair)) (pv := [(0, .agg (enc ({ Pair.zero with A := (i4 : Int), B := y15 } : Pair)).toArray)]) rfl rfl (by decide) ⟨rfl, rfl, trivial⟩ (run_buildSlice (α := Pair) (z0 := Pair.zero) (xs := ([({ Pair.zero with A := (i4 : Int), B := y15 } : Pair)] : List Pair)) Try.runUnderlying39 Try.sizeOf46 Try.zeroValue46 rfl rfl rfl (by decide) rfl (fill_cons (cs := encs (List.replicate 1 Pair.zero)) (cs' := encs ((List.replicate 1 Pair.zero).set 0 ({ Pair.zero with A := (i4 : Int), B := y15 } : Pair))) (vs := enc ({ Pair.zero with A := (i4 : Int), B := y15 } : Pair)) rfl rfl (Enc.len _) ((Put.elemN (s := 2) (i := 0) (x := Pair.zero) (y := ({ Pair.zero with A := (i4 : Int), B := y15 } : Pair)) rfl rfl (Put.here ((Enc.len _).trans (Enc.len _).symm))).off rfl) fill_nil)) rfl rfl (by decide) (fun s43 _ => ?_)
  obtain ⟨u45, h46, H⟩ := bind_some H
  refine Lst.append (i := 3) (α := Pair) (xs := l17) (ys := ([({ Pair.zero with A := (i4 : Int), B := y15 } : Pair)] : List Pair)) rfl rfl (by decide) rfl rfl Try.runUnderlying39 Try.typeInfo46 rfl rfl rfl rfl rfl rfl (Rd.own (i := 0) rfl rfl rfl) rfl (room_some h46) rfl (fun s47 => ?_)
  refine Lst.its (L' := (.own s43 46 2 (encs ([({ Pair.zero with A := (i4 : Int), B := y15 } : Pair)] : List Pair))) :: (.blk b24 (enc x21) 75) :: (.blk b12 (enc x9) 75) :: (.own s47 46 2 (encs (l17 ++ ([({ Pair.zero with A := (i4 : Int), B := y15 } : Pair)] : List Pair)))) :: (.own Sl.nil 44 1 (encs ([] : List (LR Bool)))) :: L) rfl ?_
  refine Lst.run rfl rfl (by decide) (Ev.assign rfl) ?_
  refine Lst.nil ?_
  refine At.in_normal ?_
  refine At.then ?_
  refine Cd.region ?_
  refine Lst.run rfl rfl (by decide) (Ev.move rfl) ?_
  refine Lst.run rfl rfl (by decide) (Ev.add rfl rfl) ?_
  refine Lst.run rfl rfl (by decide) (Ev.assign rfl) ?_
  refine Lst.nil ?_
  refine At.less (L' := (.blk b12 (enc x9) 75) :: (.own s47 46 2 (encs (l17 ++ ([({ Pair.zero with A := (i4 : Int), B := y15 } : Pair)] : List Pair)))) :: (.own Sl.nil 44 1 (encs ([] : List (LR Bool)))) :: L) (List.Sublist.cons _ (List.Sublist.cons _ (List.Sublist.cons_cons _ (List.Sublist.cons_cons _ (List.Sublist.cons_cons _ (List.Sublist.refl _)))))) ?_
  exact At.meet (k14, w64 (y15 + (1 : Int)), s47, l17 ++ ([({ Pair.zero with A := (i4 : Int), B := y15 } : Pair)] : List Pair)) (FLe.trans (FLe.trans hF19 hF36) hF41) ⟨rfl, rfl, rfl, rfl, rfl, rfl, rfl, rfl, trivial⟩ rfl ⟨hgo14 _ (some_inj H).symm, Nat.lt_succ_self _⟩
set_option maxRecDepth 20000 in
theorem partref_Stamps_sim {fu : Nat} {a0 : List Event} {s_a0 : Sl} {r : (List Int)} (H : partref_Stamps fu a0 = some r) (w0 : World) (F : Frz) (M L : List Item) (hM : M.Sublist L) (hs_a0 : Rd w0 F M s_a0 a0) : Ok Try.prog w0 25 [Sl.v s_a0] F (L) (fun _ L' v => ∃ (s1 : Sl), v = Sl.v s1 ∧ L' = (.own s1 3 1 (encs r)) :: L) := by
  unfold partref_Stamps at H
  refine Ok.enter (m := 1) (n := 47) Try.func25 rfl rfl rfl (by decide) ?_
  refine Cd.env (e' := [(0, Sl.v s_a0)]) rfl ?_
  refine Cd.seq ?_
  refine Cd.region ?_
  refine Lst.addNil 3 1 ?_
  refine Lst.run rfl rfl (by decide) (Ev.assign rfl) ?_
  refine Lst.nil ?_
  refine At.then ?_
  refine Cd.seq ?_
  refine Cd.region ?_
  refine Lst.run rfl rfl (by decide) (Ev.move rfl) ?_
  obtain ⟨r2, h3, H⟩ := bind_some H
  refine Lst.call rfl rfl (by decide) (vs := [Sl.v s_a0]) ⟨rfl, trivial⟩ Try.call23 (partref_Causes_sim h3 w0 _ M _ (List.Sublist.cons _ hM) (hs_a0.mono (FLe.refl _) (List.Sublist.refl _))) (fun F9 L' v hF10 hv => ?_)
  obtain ⟨s4, rs5, rfl, rfl, fm6⟩ := hv
  refine Lst.run rfl rfl (by decide) (Ev.assign rfl) ?_
  refine Lst.nil ?_
  refine At.then ?_
  refine Cd.seq ?_
  refine Cd.region ?_
  refine Lst.run rfl rfl (by decide) (Ev.move rfl) ?_
  refine Lst.run rfl rfl (by decide) (Ev.lenS (α := Event) (xs := a0) (by decide) rfl rfl Try.runUnderlying24 (hs_a0.mono hF10 (List.Sublist.cons _ (List.Sublist.cons _ (List.Sublist.cons _ hM))))) ?_
  obtain ⟨n11, h12, H⟩ := bind_some H
  have g13 := mkLen_some h12
  refine Lst.make (α := Int) (z0 := (0 : Int)) (k := n11) rfl rfl (by decide) (congrArg some (congrArg (Value.int .i64) g13.1)) (congrArg some (congrArg (Value.int .i64) g13.1)) Try.runUnderlying36 Try.typeInfo3 rfl rfl rfl rfl rfl g13.2 rfl (fun s14 => ?_)
  refine Lst.run rfl rfl (by decide) (Ev.assign rfl) ?_
  refine Lst.nil ?_
  refine At.then ?_
  refine Cd.seq ?_
  refine Cd.seq ?_
  refine Cd.region ?_
  refine Lst.run rfl rfl (by decide) (Ev.move rfl) ?_
  refine Lst.run rfl rfl (by decide) (Ev.lenS (α := Event) (xs := a0) (by decide) rfl rfl Try.runUnderlying24 (hs_a0.mono hF10 (List.Sublist.cons _ (List.Sublist.cons _ (List.Sublist.cons _ (List.Sublist.cons _ hM)))))) ?_
  refine Lst.run rfl rfl (by decide) (Ev.move rfl) ?_
  refine Lst.nil ?_
  refine At.then ?_
  refine Cd.block ?_
  refine Cd.bound (Rd.le (α := Event) (xs := a0) (by decide) (hs_a0.mono hF10 (List.Sublist.cons _ (List.Sublist.cons _ (List.Sublist.cons _ (List.Sublist.cons _ hM)))))) (fun hN51 => ?_)
  obtain ⟨ol16, H, HKl16⟩ := bind_some H
  refine Cd.loop (σ := Nat × Nat × (List Int)) (fun (i16, k16, l17) => [(3, Sl.v s4), (4, Sl.v s14), (13, .int .i64 (a0.length : Int)), (14, .int .i64 (i16 : Int))]) (fun (i16, k16, l17) => (.own s14 3 1 (encs l17)) :: (.rows (α := Bool) 4 rs5) :: (.own s4 44 1 (encs rs5)) :: (.own Sl.nil 3 1 (encs ([] : List Int))) :: L) (fun _ => (fun (i16, k16, l17) => rangeF (partref_Stamps_B0 r2) k16 i16 l17 = some ol16 ∧ i16 + k16 = a0.length)) (fun (i16, k16, l17) => k16) (0, a0.length, (List.replicate n11 (0 : Int))) ⟨rfl, rfl, rfl, rfl, trivial⟩ rfl ⟨H, by omega⟩ ?_
  rintro F18 ⟨i16, k16, l17⟩ hF19 ⟨H, hik16⟩
  refine Cd.as (e' := [(3, Sl.v s4), (4, Sl.v s14), (13, .int .i64 (a0.length : Int)), (14, .int .i64 (i16 : Int))]) (L' := (.own s14 3 1 (encs l17)) :: (.rows (α := Bool) 4 rs5) :: (.own s4 44 1 (encs rs5)) :: (.own Sl.nil 3 1 (encs ([] : List Int))) :: L) ⟨rfl, rfl, rfl, rfl, trivial⟩ rfl ?_
  rcases k16 with _ | k16
  · have hc16 : decide ((i16 : Int) < (a0.length : Int)) = false := decide_eq_false (by omega)
    replace H := rangeF_end H
    refine Cd.seq ?_
    refine Cd.region ?_
    refine Lst.run rfl rfl (by decide) (Ev.lss rfl rfl) ?_
    refine Lst.nil ?_
    refine At.then ?_
    refine Cd.seq ?_
    refine Cd.condF rfl hc16 ?_
    refine Cd.exit ?_
    refine At.then_exit ?_
    refine At.then_exit ?_
    refine At.in_exit ?_
    subst H
    replace H := HKl16
    refine At.then ?_
    refine Cd.seq ?_
    refine Cd.region ?_
    refine Lst.run rfl rfl (by decide) (Ev.move rfl) ?_
    refine Lst.run rfl rfl (by decide) (Ev.assign rfl) ?_
    refine Lst.nil ?_
    refine At.then ?_
    obtain rfl := some_inj H
    refine Cd.ret ?_
    exact At.ret1 rfl (Res.tmp rfl) (FLe.trans hF10 hF19) (List.Sublist.cons_cons _ (List.Sublist.cons _ (List.Sublist.cons _ (List.Sublist.cons _ (List.Sublist.refl _))))) ⟨s14, rfl, rfl⟩
  have hc16 : decide ((i16 : Int) < (a0.length : Int)) = true := decide_eq_true (by omega)
  obtain ⟨c16, H, hgo16⟩ := rangeF_go H
  unfold partref_Stamps_B0 at H
  try dsimp only at H
  refine Cd.seq ?_
  refine Cd.region ?_
  refine Lst.run rfl rfl (by decide) (Ev.lss rfl rfl) ?_
  refine Lst.nil ?_
  refine At.then ?_
  refine Cd.seq ?_
  refine Cd.condT rfl hc16 ?_
  refine Cd.skip ?_
  refine At.then ?_
  refine Cd.seq ?_
  refine Cd.block ?_
  refine Cd.seq ?_
  refine Cd.region ?_
  refine Lst.run rfl rfl (by decide) (Ev.move rfl) ?_
  refine Lst.run rfl rfl (by decide) (Ev.assign rfl) ?_
  refine Lst.nil ?_
  refine At.then ?_
  refine Cd.seq ?_
  refine Cd.region ?_
  refine Lst.run rfl rfl (by decide) (Ev.move rfl) ?_
  refine Lst.run rfl rfl (by decide) (Ev.move rfl) ?_
  obtain ⟨x20, h21, H⟩ := bind_some H
  have g22 := lat_some h21
  refine Lst.run rfl rfl (by decide) (Ev.indexS (α := Int) (xs := l17) rfl rfl Try.runUnderlying36 Try.sizeOf3 rfl (by decide) (Rd.own (i := 0) rfl rfl rfl) g22.1 g22.2.1) ?_
  obtain ⟨p23, h24, H⟩ := Let_some H
  refine Lst.storeS (i := 0) rfl rfl rfl rfl rfl Try.sizeOf3 (vs := [.int .i64 (1 : Int)]) rfl rfl (by decide) rfl (xs' := encs p23) (by rw [← h24]; exact (Put.elemN (s := 1) (x := x20) rfl g22.2.2 (Put.here (vs := [.int .i64 (1 : Int)]) rfl)).off (by omega)) (L' := (.own s14 3 1 (encs p23)) :: (.rows (α := Bool) 4 rs5) :: (.own s4 44 1 (encs rs5)) :: (.own Sl.nil 3 1 (encs ([] : List Int))) :: L) rfl ?_
  refine Lst.nil ?_
  refine At.then ?_
  refine Cd.seq ?_
  refine Cd.region ?_
  refine Lst.run rfl rfl (by decide) (Ev.move rfl) ?_
  refine Lst.run rfl rfl (by decide) (Ev.move rfl) ?_
  refine Lst.nil ?_
  refine At.then ?_
  refine Cd.block ?_
  obtain ⟨nn29, hN50, H⟩ := bind_some H
  replace hN50 := upTo_some hN50
  obtain ⟨ol25, H, HKl25⟩ := bind_some H
  refine Cd.loop (σ := Nat × Nat × (List Int)) (fun (i25, k25, l26) => [(3, Sl.v s4), (4, Sl.v s14), (5, .int .i64 (i16 : Int)), (13, .int .i64 (a0.length : Int)), (14, .int .i64 (i16 : Int)), (20, .int .i64 (i16 : Int)), (21, .int .i64 (i25 : Int))]) (fun (i25, k25, l26) => (.own s14 3 1 (encs l26)) :: (.rows (α := Bool) 4 rs5) :: (.own s4 44 1 (encs rs5)) :: (.own Sl.nil 3 1 (encs ([] : List Int))) :: L) (fun _ => (fun (i25, k25, l26) => rangeF (partref_Stamps_B2 r2 i16) k25 i25 l26 = some ol25 ∧ i25 + k25 = nn29)) (fun (i25, k25, l26) => k25) (0, nn29, p23) ⟨rfl, rfl, rfl, rfl, rfl, rfl, rfl, trivial⟩ rfl ⟨H, by omega⟩ ?_
  rintro F27 ⟨i25, k25, l26⟩ hF28 ⟨H, hik25⟩
  refine Cd.as (e' := [(3, Sl.v s4), (4, Sl.v s14), (5, .int .i64 (i16 : Int)), (13, .int .i64 (a0.length : Int)), (14, .int .i64 (i16 : Int)), (20, .int .i64 (i16 : Int)), (21, .int .i64 (i25 : Int))]) (L' := (.own s14 3 1 (encs l26)) :: (.rows (α := Bool) 4 rs5) :: (.own s4 44 1 (encs rs5)) :: (.own Sl.nil 3 1 (encs ([] : List Int))) :: L) ⟨rfl, rfl, rfl, rfl, rfl, rfl, rfl, trivial⟩ rfl ?_
  rcases k25 with _ | k25
  · have hc25 : decide ((i25 : Int) < (i16 : Int)) = false := decide_eq_false (by omega)
    replace H := rangeF_end H
    refine Cd.seq ?_
    refine Cd.region ?_
    refine Lst.run rfl rfl (by decide) (Ev.lss rfl rfl) ?_
    refine Lst.nil ?_
    refine At.then ?_
    refine Cd.seq ?_
    refine Cd.condF rfl hc25 ?_
    refine Cd.exit ?_
    refine At.then_exit ?_
    refine At.then_exit ?_
    refine At.in_exit ?_
    subst H
    replace H := HKl25
    refine At.in_normal ?_
    refine At.then ?_
    refine Cd.region ?_
    refine Lst.run rfl rfl (by decide) (Ev.incr (by omega) rfl rfl) ?_
    refine Lst.run rfl rfl (by decide) (Ev.move rfl) ?_
    refine Lst.nil ?_
    exact At.meet (i16 + 1, k16, l26) (FLe.trans hF19 hF28) ⟨rfl, rfl, rfl, rfl, trivial⟩ rfl ⟨⟨hgo16 _ (some_inj H).symm, by omega⟩, Nat.lt_succ_self _⟩
  have hc25 : decide ((i25 : Int) < (i16 : Int)) = true := decide_eq_true (by omega)
  obtain ⟨c25, H, hgo25⟩ := rangeF_go H
  unfold partref_Stamps_B2 at H
  try dsimp only at H
  refine Cd.seq ?_
  refine Cd.region ?_
  refine Lst.run rfl rfl (by decide) (Ev.lss rfl rfl) ?_
  refine Lst.nil ?_
  refine At.then ?_
  refine Cd.seq ?_
  refine Cd.condT rfl hc25 ?_
  refine Cd.skip ?_
  refine At.then ?_
  refine Cd.seq ?_
  refine Cd.block ?_
  refine Cd.seq ?_
  refine Cd.region ?_
  refine Lst.run rfl rfl (by decide) (Ev.move rfl) ?_
  refine Lst.run rfl rfl (by decide) (Ev.assign rfl) ?_
  refine Lst.nil ?_
  refine At.then ?_
  refine Cd.seq ?_
  refine Cd.region ?_
  refine Lst.run rfl rfl (by decide) (Ev.move rfl) ?_
  refine Lst.run rfl rfl (by decide) (Ev.move rfl) ?_
  obtain ⟨x30, h31, H⟩ := bind_some H
  have g32 := lat_some h31
  obtain ⟨⟨r33v, r33h⟩, r33g, r33e, r33m⟩ := map_get fm6 g32.2.2
  obtain rfl : x30 = r33v := r33e.symm
  have hh34 := row_h r33g
  refine Lst.run rfl rfl (by decide) (Ev.indexS (α := LR Bool) (xs := rs5) rfl rfl Try.runUnderlying42 Try.sizeOf44 rfl (by decide) (Rd.own (i := 2) rfl rfl rfl) g32.1 (by have := map_len fm6; omega)) ?_
  refine Lst.run rfl rfl (by decide) (Ev.loadS (α := LR Bool) rfl (Rd.own (i := 2) rfl rfl rfl) Try.isAgg44 (v := Sl.v r33h) ((Get.elemN (s := 1) rfl r33g (Get.here _)).off (by omega))) ?_
  refine Lst.run rfl rfl (by decide) (Ev.move rfl) ?_
  obtain ⟨x35, h36, H⟩ := bind_some H
  have g37 := lat_some h36
  refine Lst.run rfl rfl (by decide) (Ev.indexS (α := Bool) (xs := x30) rfl rfl Try.runUnderlying44 Try.sizeOf4 rfl (by decide) (Rd.row (j := 1) rfl r33g) g37.1 g37.2.1) ?_
  refine Lst.run rfl rfl (by decide) (Ev.loadS (α := Bool) rfl (Rd.row (j := 1) rfl r33g) Try.isAgg4 (v := .bool x35) ((Get.elemN (s := 1) (x := x35) rfl g37.2.2 (Get.here _)).off (by omega))) ?_
  refine Lst.nil ?_
  refine At.then ?_
  rcases (Bool.eq_false_or_eq_true x35).symm with hb38 | hb38
  · replace H := ite_f hb38 H
    refine Cd.condF rfl hb38 ?_
    refine Cd.skip ?_
    refine At.in_normal ?_
    refine At.then ?_
    refine Cd.region ?_
    refine Lst.run rfl rfl (by decide) (Ev.incr (by omega) rfl rfl) ?_
    refine Lst.run rfl rfl (by decide) (Ev.move rfl) ?_
    refine Lst.nil ?_
    exact At.meet (i25 + 1, k25, l26) hF28 ⟨rfl, rfl, rfl, rfl, rfl, rfl, rfl, trivial⟩ rfl ⟨⟨hgo25 _ (some_inj H).symm, by omega⟩, Nat.lt_succ_self _⟩
  replace H := ite_t hb38 H
  refine Cd.condT rfl hb38 ?_
  refine Cd.tail 13 (by kernel_rfl) (by kernel_rfl) ?_
  refine Qt.run rfl rfl (by decide) (Ev.move rfl) ?_
  refine Qt.run rfl rfl (by decide) (Ev.move rfl) ?_
  refine Qt.run rfl rfl (by decide) (Ev.move rfl) ?_
  refine Qt.run rfl rfl (by decide) (Ev.move rfl) ?_
  obtain ⟨x39, h40, H⟩ := bind_some H
  have g41 := lat_some h40
  refine Qt.run rfl rfl (by decide) (Ev.indexS (α := Int) (xs := l26) rfl rfl Try.runUnderlying36 Try.sizeOf3 rfl (by decide) (Rd.own (i := 0) rfl rfl rfl) g41.1 g41.2.1) ?_
  refine Qt.run rfl rfl (by decide) (Ev.loadS (α := Int) rfl (Rd.own (i := 0) rfl rfl rfl) Try.isAgg3 (v := .int .i64 x39) ((Get.elemN (s := 1) (x := x39) rfl g41.2.2 (Get.here _)).off (by omega))) ?_
  refine Qt.run rfl rfl (by decide) (Ev.move rfl) ?_
  refine Qt.run rfl rfl (by decide) (Ev.move rfl) ?_
  obtain ⟨x42, h43, H⟩ := bind_some H
  have g44 := lat_some h43
  refine Qt.run rfl rfl (by decide) (Ev.indexS (α := Int) (xs := l26) rfl rfl Try.runUnderlying36 Try.sizeOf3 rfl (by decide) (Rd.own (i := 0) rfl rfl rfl) g44.1 g44.2.1) ?_
  refine Qt.run rfl rfl (by decide) (Ev.loadS (α := Int) rfl (Rd.own (i := 0) rfl rfl rfl) Try.isAgg3 (v := .int .i64 x42) ((Get.elemN (s := 1) (x := x42) rfl g44.2.2 (Get.here _)).off (by omega))) ?_
  refine Qt.run rfl rfl (by decide) (Ev.add rfl rfl) ?_
  refine Qt.run rfl rfl (by decide) (Ev.max2 rfl rfl) ?_
  obtain ⟨x45, h46, H⟩ := bind_some H
  have g47 := lat_some h46
  refine Qt.run rfl rfl (by decide) (Ev.indexS (α := Int) (xs := l26) rfl rfl Try.runUnderlying36 Try.sizeOf3 rfl (by decide) (Rd.own (i := 0) rfl rfl rfl) g47.1 g47.2.1) ?_
  refine Qt.tail ?_
  obtain ⟨p48, h49, H⟩ := Let_some H
  refine Lst.storeS (i := 0) rfl rfl rfl rfl rfl Try.sizeOf3 (vs := [.int .i64 (max x39 (w64 (x42 + (1 : Int))))]) rfl rfl (by decide) rfl (xs' := encs p48) (by rw [← h49]; exact (Put.elemN (s := 1) (x := x45) rfl g47.2.2 (Put.here (vs := [.int .i64 (max x39 (w64 (x42 + (1 : Int))))]) rfl)).off (by omega)) (L' := (.own s14 3 1 (encs p48)) :: (.rows (α := Bool) 4 rs5) :: (.own s4 44 1 (encs rs5)) :: (.own Sl.nil 3 1 (encs ([] : List Int))) :: L) rfl ?_
  refine Lst.nil ?_
  refine At.in_normal ?_
  refine At.then ?_
  refine Cd.as (e' := [(3, Sl.v s4), (4, Sl.v s14), (5, .int .i64 (i16 : Int)), (13, .int .i64 (a0.length : Int)), (14, .int .i64 (i16 : Int)), (20, .int .i64 (i16 : Int)), (21, .int .i64 (i25 : Int))]) (L' := (.own s14 3 1 (encs p48)) :: (.rows (α := Bool) 4 rs5) :: (.own s4 44 1 (encs rs5)) :: (.own Sl.nil 3 1 (encs ([] : List Int))) :: L) ⟨rfl, rfl, rfl, rfl, rfl, rfl, rfl, trivial⟩ rfl ?_
  refine Cd.region ?_
  refine Lst.run rfl rfl (by decide) (Ev.incr (by omega) rfl rfl) ?_
  refine Lst.run rfl rfl (by decide) (Ev.move rfl) ?_
  refine Lst.nil ?_
  exact At.meet (i25 + 1, k25, p48) hF28 ⟨rfl, rfl, rfl, rfl, rfl, rfl, rfl, trivial⟩ rfl ⟨⟨hgo25 _ (some_inj H).symm, by omega⟩, Nat.lt_succ_self _⟩
end Go.Proofs.Ytclmlddmgccfjaa
