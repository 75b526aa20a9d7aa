/-
  The functions compute their specs; printed by a program.
-/
import Derived.Test.YtnkfphbggemlbaaSnP2
namespace Go.Proofs.Ytnkfphbggemlbaa
open Go.RowKit Enc
set_option linter.unusedVariables false
set_option linter.unusedSimpArgs false
set_option maxHeartbeats 2000000 in
set_option maxRecDepth 20000 in
theorem partref_Picture_sim {fu : Nat} {a0 : List Int} {a1 : List Move} {s_a0 : Sl} {s_a1 : Sl} {r : Picture} (H : partref_Picture fu a0 a1 = some r) (w0 : World) (F : Frz) (M L : List Item) (hM : M.Sublist L) (hs_a0 : Rd w0 F M s_a0 a0) (hs_a1 : Rd w0 F M s_a1 a1) : Ok Try.prog w0 8 [Sl.v s_a0, Sl.v s_a1] F (L) (fun Fx L' v => ∃ (s1 : Sl) (s3 : Sl) (rs4 : List (LR Int)) (s8 : Sl), v = .agg (enc (PictureR.mk r s1 s3 s8)).toArray ∧ L' = (.own s1 3 1 (encs r.Have)) :: (.own s3 22 1 (encs rs4)) :: (.own s8 3 1 (encs r.Now)) :: L ∧ rs4.map LR.v = r.Lanes ∧ All LR.rel w0 Fx M rs4) := by
 unfold partref_Picture at H
 refine Ok.enter (m := 2) (n := 197) Try.func8 rfl rfl rfl (by decide) ?_
 refine Cd.env (e' := [(0, Sl.v s_a0), (1, Sl.v s_a1)]) rfl ?_
 refine sr0 ?_
 refine Lst.addNil 3 1 ?_
 have ha3 : All LR.rel w0 F [] ([] : List (LR Int)) := All.nil
 have ha3m : List.map LR.v ([] : List (LR Int)) = ([] : List (List Int)) := rfl
 refine Lst.addNil 22 1 ?_
 refine Lst.addNil 3 1 ?_
 refine Lst.alloc (cs := enc (PictureR.mk ({ Picture.zero with Have := ([] : List Int), Lanes := ([] : List (List Int)), Now := ([] : List Int) } : Picture) Sl.nil Sl.nil Sl.nil)) rfl rfl (by decide) Try.zeroValue28 rfl (fun b5 => ?_)
 refine nsr ?_
 refine mv0 rfl ?_
 refine Lst.r (Ev.lenS (α := Int) (xs := a0) (by decide) rfl rfl Try.runUnderlying22 (hs_a0.mono fl (sc4 hM))) ?_
 refine Lst.alloc (cs := enc (0 : Int)) rfl rfl (by decide) Try.zeroValue3 rfl (fun b7 => ?_)
 refine Lst.store (i := 0) rfl rfl rfl rfl rfl Try.sizeOf3 (vs := [iv (a0.length : Int)]) rfl rfl rfl (cs' := enc (a0.length : Int)) (Put.here (vs := [iv (a0.length : Int)]) rfl) (L' := (.blk b7 (enc (a0.length : Int)) 3) :: (.blk b5 (enc (PictureR.mk ({ Picture.zero with Have := ([] : List Int), Lanes := ([] : List (List Int)), Now := ([] : List Int) } : Picture) Sl.nil Sl.nil Sl.nil)) 28) :: (.own Sl.nil 3 1 (encs ([] : List Int))) :: (.own Sl.nil 22 1 (encs ([] : List (LR Int)))) :: (.own Sl.nil 3 1 (encs ([] : List Int))) :: L) rfl ?_
 refine nsr ?_
 refine mv0 rfl ?_
 obtain ⟨r9, h10, H⟩ := bind_some H
 refine Lst.call rfl rfl (by decide) (vs := [Sl.v s_a0]) ⟨rfl, trivial⟩ Try.call9 (slices_Clone_int_int_sim h10 w0 _ M _ (sc4 (sc1 hM)) (hs_a0.mono fl (.refl _))) (fun F13 L' v hF14 hv => ?_)
 obtain ⟨s11, rfl, rfl⟩ := hv
 refine Lst.addNil 3 1 ?_
 refine Lst.alloc (cs := enc Sl.nil) rfl rfl (by decide) Try.zeroValue22 rfl (fun b16 => ?_)
 refine Lst.store (i := 0) rfl rfl rfl rfl rfl Try.sizeOf22 (vs := [Sl.v s11]) rfl rfl rfl (cs' := enc s11) (Put.here (vs := [Sl.v s11]) rfl) (L' := (.blk b16 (enc s11) 22) :: (.own Sl.nil 3 1 (encs ([] : List Int))) :: (.own s11 3 1 (encs r9)) :: (.blk b7 (enc (a0.length : Int)) 3) :: (.blk b5 (enc (PictureR.mk ({ Picture.zero with Have := ([] : List Int), Lanes := ([] : List (List Int)), Now := ([] : List Int) } : Picture) Sl.nil Sl.nil Sl.nil)) 28) :: (.own Sl.nil 3 1 (encs ([] : List Int))) :: (.own Sl.nil 22 1 (encs ([] : List (LR Int)))) :: (.own Sl.nil 3 1 (encs ([] : List Int))) :: L) rfl ?_
 refine nsr ?_
 refine Lst.buildSlice (α := Int) (xs := ([(-1 : Int)] : List Int)) (pv := [(0, iv (-1 : Int))]) rfl rfl (by decide) ⟨rfl, rfl, trivial⟩ (run_buildSlice (α := Int) (z0 := (0 : Int)) (xs := ([(-1 : Int)] : List Int)) Try.runUnderlying22 Try.sizeOf3 Try.zeroValue3 rfl rfl rfl (by decide) rfl (fill_cons (cs := encs (List.replicate 1 (0 : Int))) (cs' := encs ((List.replicate 1 (0 : Int)).set 0 (-1 : Int))) (vs := [iv (-1 : Int)]) rfl rfl rfl ((Put.elemN (s := 1) (i := 0) (x := (0 : Int)) (y := (-1 : Int)) rfl rfl (Put.here (vs := [iv (-1 : Int)]) rfl)).off rfl) fill_nil)) rfl rfl (by decide) (fun s18 _ => ?_)
 refine Lst.r (Ev.load (i := 4) rfl rfl Try.isAgg3 (v := iv (a0.length : Int)) gh0) ?_
 obtain ⟨r20, h21, H⟩ := bind_some H
 refine Lst.call rfl rfl (by decide) (vs := [Sl.v s18, iv (a0.length : Int)]) ⟨rfl, rfl, trivial⟩ Try.call17 (slices_Repeat_int_int_sim h21 w0 _ _ _ (.refl _) (rdo 0 rfl rfl rfl)) (fun F24 L' v hF25 hv => ?_)
 obtain ⟨s22, rfl, rfl⟩ := hv
 refine Lst.addNil 3 1 ?_
 refine Lst.alloc (cs := enc Sl.nil) rfl rfl (by decide) Try.zeroValue22 rfl (fun b27 => ?_)
 refine Lst.store (i := 0) rfl rfl rfl rfl rfl Try.sizeOf22 (vs := [Sl.v s22]) rfl rfl rfl (cs' := enc s22) (Put.here (vs := [Sl.v s22]) rfl) (L' := (.blk b27 (enc s22) 22) :: (.own Sl.nil 3 1 (encs ([] : List Int))) :: (.own s22 3 1 (encs r20)) :: (.own s18 3 1 (encs ([(-1 : Int)] : List Int))) :: (.blk b16 (enc s11) 22) :: (.own Sl.nil 3 1 (encs ([] : List Int))) :: (.own s11 3 1 (encs r9)) :: (.blk b7 (enc (a0.length : Int)) 3) :: (.blk b5 (enc (PictureR.mk ({ Picture.zero with Have := ([] : List Int), Lanes := ([] : List (List Int)), Now := ([] : List Int) } : Picture) Sl.nil Sl.nil Sl.nil)) 28) :: (.own Sl.nil 3 1 (encs ([] : List Int))) :: (.own Sl.nil 22 1 (encs ([] : List (LR Int)))) :: (.own Sl.nil 3 1 (encs ([] : List Int))) :: L) rfl ?_
 refine nsr ?_
 refine Lst.makeMap (fun x : Vector Int 2 => (.agg (enc x).toArray : Value)) (fun x : Int => (iv x : Value)) rfl rfl (by decide) (fun b29 => ?_)
 refine Lst.r (Ev.assign rfl) ?_
 refine nsr ?_
 refine Lst.makeMap (fun x : Vector Int 2 => (.agg (enc x).toArray : Value)) (fun x : Int => (iv x : Value)) rfl rfl (by decide) (fun b31 => ?_)
 refine Lst.r (Ev.assign rfl) ?_
 refine nsr ?_
 refine Lst.addNil 54 4 ?_
 refine Lst.alloc (cs := enc Sl.nil) rfl rfl (by decide) Try.zeroValue52 rfl (fun b34 => ?_)
 refine nsr ?_
 refine Lst.r (Ev.makeFunc (us := []) (vs := [pv b27 0, pv b16 0, pv b7 0, pv b34 0]) trivial ⟨rfl, rfl, rfl, rfl, trivial⟩) ?_
 refine Lst.r (Ev.assign rfl) ?_
 refine nt0 ?_
 refine Cd.seq ?_
 refine sr0 ?_
 refine mv0 rfl ?_
 refine Lst.r (Ev.lenS (α := Move) (xs := a1) (by decide) rfl rfl Try.runUnderlying23 (hs_a1.mono (FLe.trans hF14 hF25) (sc8 (sc8 hM)))) ?_
 refine mv0 rfl ?_
 refine nt0 ?_
 refine Cd.block ?_
 refine Cd.front (i := 1) rfl (L' := (.own Sl.nil 54 4 (encs ([] : List Thing))) :: (.blk b34 (enc Sl.nil) 52) :: (mitem b31 (fun x : Vector Int 2 => (.agg (enc x).toArray : Value)) (fun x : Int => (iv x : Value)) ([] : List ((Vector Int 2) × Int))) :: (mitem b29 (fun x : Vector Int 2 => (.agg (enc x).toArray : Value)) (fun x : Int => (iv x : Value)) ([] : List ((Vector Int 2) × Int))) :: (.blk b27 (enc s22) 22) :: (.own Sl.nil 3 1 (encs ([] : List Int))) :: (.own s22 3 1 (encs r20)) :: (.own s18 3 1 (encs ([(-1 : Int)] : List Int))) :: (.blk b16 (enc s11) 22) :: (.own Sl.nil 3 1 (encs ([] : List Int))) :: (.own s11 3 1 (encs r9)) :: (.blk b7 (enc (a0.length : Int)) 3) :: (.blk b5 (enc (PictureR.mk ({ Picture.zero with Have := ([] : List Int), Lanes := ([] : List (List Int)), Now := ([] : List Int) } : Picture) Sl.nil Sl.nil Sl.nil)) 28) :: (.own Sl.nil 3 1 (encs ([] : List Int))) :: (.own Sl.nil 22 1 (encs ([] : List (LR Int)))) :: (.own Sl.nil 3 1 (encs ([] : List Int))) :: L) rfl ?_
 refine Cd.bound (Rd.le (α := Move) (xs := a1) (by decide) (hs_a1.mono (FLe.trans hF14 hF25) (sc8 (sc8 hM)))) (fun hN326 => ?_)
 obtain ⟨ol36, H, HKl36⟩ := bind_some H
 refine Cd.loop (σ := Nat × Nat × Sl × (List Thing) × (List ((Vector Int 2) × Int)) × (List ((Vector Int 2) × Int)) × (List Int) × (List Int)) (fun (i36, k36, s37, l38, l40, l41, l42, l43) => [(4, pv b5 0), (5, pv b7 0), (6, pv b16 0), (7, pv b27 0), (8, .map (some b29)), (9, .map (some b31)), (10, pv b34 0), (11, .func (.func 18) #[] #[pv b27 0, pv b16 0, pv b7 0, pv b34 0]), (33, Sl.v s_a1), (34, iv (a1.length : Int)), (35, iv (i36 : Int))]) (fun (i36, k36, s37, l38, l40, l41, l42, l43) => (.own s37 54 4 (encs l38)) :: (.blk b34 (enc s37) 52) :: (mitem b31 (fun x : Vector Int 2 => (.agg (enc x).toArray : Value)) (fun x : Int => (iv x : Value)) l40) :: (mitem b29 (fun x : Vector Int 2 => (.agg (enc x).toArray : Value)) (fun x : Int => (iv x : Value)) l41) :: (.blk b27 (enc s22) 22) :: (.own Sl.nil 3 1 (encs ([] : List Int))) :: (.own s22 3 1 (encs l42)) :: (.own s18 3 1 (encs ([(-1 : Int)] : List Int))) :: (.blk b16 (enc s11) 22) :: (.own Sl.nil 3 1 (encs ([] : List Int))) :: (.own s11 3 1 (encs l43)) :: (.blk b7 (enc (a0.length : Int)) 3) :: (.blk b5 (enc (PictureR.mk ({ Picture.zero with Have := ([] : List Int), Lanes := ([] : List (List Int)), Now := ([] : List Int) } : Picture) Sl.nil Sl.nil Sl.nil)) 28) :: (.own Sl.nil 3 1 (encs ([] : List Int))) :: (.own Sl.nil 22 1 (encs ([] : List (LR Int)))) :: (.own Sl.nil 3 1 (encs ([] : List Int))) :: L) (fun _ => (fun (i36, k36, s37, l38, l40, l41, l42, l43) => rangeF (partref_Picture_B0 a0 a1) k36 i36 (l38, l40, l41, l42, l43) = some ol36 ∧ i36 + k36 = a1.length)) (fun (i36, k36, s37, l38, l40, l41, l42, l43) => k36) (0, a1.length, Sl.nil, ([] : List Thing), ([] : List ((Vector Int 2) × Int)), ([] : List ((Vector Int 2) × Int)), r20, r9) ⟨rfl, rfl, rfl, rfl, rfl, rfl, rfl, rfl, rfl, rfl, rfl, trivial⟩ rfl ⟨H, by omega⟩ ?_
 rintro F44 ⟨i36, k36, s37, l38, l40, l41, l42, l43⟩ hF45 ⟨H, hik36⟩
 refine Cd.as (e' := [(4, pv b5 0), (5, pv b7 0), (6, pv b16 0), (7, pv b27 0), (8, .map (some b29)), (9, .map (some b31)), (10, pv b34 0), (11, .func (.func 18) #[] #[pv b27 0, pv b16 0, pv b7 0, pv b34 0]), (33, Sl.v s_a1), (34, iv (a1.length : Int)), (35, iv (i36 : Int))]) (L' := (.own s37 54 4 (encs l38)) :: (.blk b34 (enc s37) 52) :: (mitem b31 (fun x : Vector Int 2 => (.agg (enc x).toArray : Value)) (fun x : Int => (iv x : Value)) l40) :: (mitem b29 (fun x : Vector Int 2 => (.agg (enc x).toArray : Value)) (fun x : Int => (iv x : Value)) l41) :: (.blk b27 (enc s22) 22) :: (.own Sl.nil 3 1 (encs ([] : List Int))) :: (.own s22 3 1 (encs l42)) :: (.own s18 3 1 (encs ([(-1 : Int)] : List Int))) :: (.blk b16 (enc s11) 22) :: (.own Sl.nil 3 1 (encs ([] : List Int))) :: (.own s11 3 1 (encs l43)) :: (.blk b7 (enc (a0.length : Int)) 3) :: (.blk b5 (enc (PictureR.mk ({ Picture.zero with Have := ([] : List Int), Lanes := ([] : List (List Int)), Now := ([] : List Int) } : Picture) Sl.nil Sl.nil Sl.nil)) 28) :: (.own Sl.nil 3 1 (encs ([] : List Int))) :: (.own Sl.nil 22 1 (encs ([] : List (LR Int)))) :: (.own Sl.nil 3 1 (encs ([] : List Int))) :: L) ⟨rfl, rfl, rfl, rfl, rfl, rfl, rfl, rfl, rfl, rfl, rfl, trivial⟩ rfl ?_
 rcases k36 with _ | k36
 ·have hc36 : decide ((i36 : Int) < (a1.length : Int)) = false := decide_eq_false (by omega)
  replace H := rangeF_end H
  refine sr0 ?_
  refine Lst.r (Ev.lss rfl rfl) ?_
  refine nt0 ?_
  refine Cd.seq ?_
  refine Cd.condF rfl hc36 ?_
  refine Cd.exit ?_
  refine At.then_exit ?_
  refine At.then_exit ?_
  refine At.in_exit ?_
  subst H
  replace H := HKl36
  try dsimp only [Sum.elim_inl] at H
  refine At.then ?_
  refine Cd.seq ?_
  rcases (Bool.eq_false_or_eq_true ((l41.length : Int) == (w64 ((a0.length : Int) * (w64 ((a0.length : Int) - (1 : Int))))))).symm with hb131 | hb131
  ·replace H := ite_f hb131 H
   obtain ⟨o149, h150, H⟩ := Let_some H
   refine Cd.headMeet (σ := Nat × Sl × (List Int) × Sl × (List (List Int)) × (List (LR Int)) × Sl × (List Int)) 15 (fun (b139, s140, l141, s142, l143, rs144, s147, l148) => [(4, pv b5 0), (5, pv b7 0), (7, pv b27 0), (9, .map (some b31)), (10, pv b34 0), (17, pv b139 0), (148, .agg (enc (PictureR.mk ({ Picture.zero with Whole := false, Now := l43 } : Picture) Sl.nil Sl.nil s11)).toArray)]) (fun (b139, s140, l141, s142, l143, rs144, s147, l148) => (.blk b139 (enc (PictureR.mk ({ Picture.zero with Have := l148, Lanes := l143, Now := l141 } : Picture) s147 s142 s140)) 28) :: (.own s140 3 1 (encs l141)) :: (.own s142 22 1 (encs rs144)) :: (.own s147 3 1 (encs l148)) :: (.own s37 54 4 (encs l38)) :: (.blk b34 (enc s37) 52) :: (mitem b31 (fun x : Vector Int 2 => (.agg (enc x).toArray : Value)) (fun x : Int => (iv x : Value)) l40) :: (mitem b29 (fun x : Vector Int 2 => (.agg (enc x).toArray : Value)) (fun x : Int => (iv x : Value)) l41) :: (.blk b27 (enc s22) 22) :: (.own Sl.nil 3 1 (encs ([] : List Int))) :: (.own s22 3 1 (encs l42)) :: (.own s18 3 1 (encs ([(-1 : Int)] : List Int))) :: (.blk b16 (enc s11) 22) :: (.own Sl.nil 3 1 (encs ([] : List Int))) :: (.own s11 3 1 (encs l43)) :: (.blk b7 (enc (a0.length : Int)) 3) :: (.blk b5 (enc (PictureR.mk ({ Picture.zero with Have := ([] : List Int), Lanes := ([] : List (List Int)), Now := ([] : List Int) } : Picture) Sl.nil Sl.nil Sl.nil)) 28) :: (.own Sl.nil 3 1 (encs ([] : List Int))) :: (.own Sl.nil 22 1 (encs ([] : List (LR Int)))) :: (.own Sl.nil 3 1 (encs ([] : List Int))) :: L) (fun Fx (b139, s140, l141, s142, l143, rs144, s147, l148) => (l141, l143, l148) = o149 ∧ rs144.map LR.v = l143 ∧ All LR.rel w0 Fx M rs144) (by kernel_rfl) (by kernel_rfl) (behind_sink (by kernel_rfl) (by kernel_rfl) (by kernel_rfl)) (by kernel_rfl) (fun hsel hlt => ?_) ?_
   ·refine HdJ.keep (fun w => St w0 F44 ((.own s37 54 4 (encs l38)) :: (.blk b34 (enc s37) 52) :: (mitem b31 (fun x : Vector Int 2 => (.agg (enc x).toArray : Value)) (fun x : Int => (iv x : Value)) l40) :: (mitem b29 (fun x : Vector Int 2 => (.agg (enc x).toArray : Value)) (fun x : Int => (iv x : Value)) l41) :: (.blk b27 (enc s22) 22) :: (.own Sl.nil 3 1 (encs ([] : List Int))) :: (.own s22 3 1 (encs l42)) :: (.own s18 3 1 (encs ([(-1 : Int)] : List Int))) :: (.blk b16 (enc s11) 22) :: (.own Sl.nil 3 1 (encs ([] : List Int))) :: (.own s11 3 1 (encs l43)) :: (.blk b7 (enc (a0.length : Int)) 3) :: (.blk b5 (enc (PictureR.mk ({ Picture.zero with Have := ([] : List Int), Lanes := ([] : List (List Int)), Now := ([] : List Int) } : Picture) Sl.nil Sl.nil Sl.nil)) 28) :: (.own Sl.nil 3 1 (encs ([] : List Int))) :: (.own Sl.nil 22 1 (encs ([] : List (LR Int)))) :: (.own Sl.nil 3 1 (encs ([] : List Int))) :: L) w) (fun w h => trivial) ?_
    refine HdJ.ts hsel hlt 0 (sk1 (sk1 (sk1 (sk1 (sk1 (sk1 (sk1 (sk1 (sk1 (sk1 (sk1 (sk1 (sk1 (sk1 (sk1 (sk1 (.refl _))))))))))))))))) rfl (Ev.move rfl) ?_
    refine HdJ.ts hsel hlt 1 (sk1 (sk1 (sk1 (sk1 (sk1 (sk1 (sk1 (sk1 (sk1 (sk1 (sk1 (sk1 (sk1 (sk1 (sk1 (sk1 (.refl _))))))))))))))))) rfl (Ev.lenMap (i := 3) (kf := (fun x : Vector Int 2 => (.agg (enc x).toArray : Value))) (vf := (fun x : Int => (iv x : Value))) (m := l41) rfl rfl rfl Try.runUnderlying51) ?_
    refine HdJ.ts hsel hlt 2 (sk1 (sk1 (sk1 (sk1 (sk1 (sk1 (sk1 (sk1 (sk1 (sk1 (sk1 (sk1 (sk1 (sk1 (sk1 (sk1 (.refl _))))))))))))))))) rfl (Ev.load (i := 11) rfl rfl Try.isAgg3 (v := iv (a0.length : Int)) gh0) ?_
    refine HdJ.ts hsel hlt 3 (sk1 (sk1 (sk1 (sk1 (sk1 (sk1 (sk1 (sk1 (sk1 (sk1 (sk1 (sk1 (sk1 (sk1 (sk1 (sk1 (.refl _))))))))))))))))) rfl (Ev.load (i := 11) rfl rfl Try.isAgg3 (v := iv (a0.length : Int)) gh0) ?_
    refine HdJ.ts hsel hlt 4 (sk1 (sk1 (sk1 (sk1 (sk1 (sk1 (sk1 (sk1 (sk1 (sk1 (sk1 (sk1 (sk1 (sk1 (sk1 (sk1 (.refl _))))))))))))))))) rfl (Ev.sub rfl rfl) ?_
    refine HdJ.ts hsel hlt 5 (sk1 (sk1 (sk1 (sk1 (sk1 (sk1 (sk1 (sk1 (sk1 (sk1 (sk1 (sk1 (sk1 (sk1 (sk1 (sk1 (.refl _))))))))))))))))) rfl (Ev.mul rfl rfl) ?_
    refine HdJ.ts hsel hlt 6 (sk1 (sk1 (sk1 (sk1 (sk1 (sk1 (sk1 (sk1 (sk1 (sk1 (sk1 (sk1 (sk1 (sk1 (sk1 (sk1 (.refl _))))))))))))))))) rfl (Ev.eql rfl rfl) ?_
    refine HdJ.ts hsel hlt 7 (sk1 (sk1 (sk1 (sk1 (sk1 (sk1 (sk1 (sk1 (sk1 (sk1 (sk1 (sk1 (sk1 (sk1 (sk1 (sk1 (.refl _))))))))))))))))) rfl (Ev.move rfl) ?_
    refine HdJ.takeS (i := 8) rfl rfl (by decide) hsel hlt (by decide) (by kernel_rfl) (by kernel_rfl) (fun w h => h.sublist (sk1 (sk1 (sk1 (sk1 (sk1 (sk1 (sk1 (sk1 (sk1 (sk1 (sk1 (sk1 (sk1 (sk1 (sk1 (sk1 (.refl _)))))))))))))))))) rfl rfl rfl hb131 ?_
    refine HdJ.takeS (i := 9) rfl rfl (by decide) hsel hlt (by decide) (by kernel_rfl) (by kernel_rfl) (fun w h => h.sublist (sk1 (sk1 (sk1 (sk1 (sk1 (sk1 (sk1 (sk1 (sk1 (sk1 (sk1 (sk1 (sk1 (sk1 (sk1 (sk1 (.refl _)))))))))))))))))) rfl rfl rfl hb131 ?_
    refine HdJ.takeS (i := 10) rfl rfl (by decide) hsel hlt (by decide) (by kernel_rfl) (by kernel_rfl) (fun w h => h.sublist (sk1 (sk1 (sk1 (sk1 (sk1 (sk1 (sk1 (sk1 (sk1 (sk1 (sk1 (sk1 (sk1 (sk1 (sk1 (sk1 (.refl _)))))))))))))))))) rfl rfl rfl hb131 ?_
    refine HdJ.ts hsel hlt 11 (sk1 (sk1 (sk1 (sk1 (sk1 (sk1 (sk1 (sk1 (sk1 (sk1 (sk1 (sk1 (sk1 (sk1 (sk1 (sk1 (.refl _))))))))))))))))) rfl (Ev.pickF rfl hb131 rfl) ?_
    refine HdJ.ts hsel hlt 12 (sk1 (sk1 (sk1 (sk1 (sk1 (sk1 (sk1 (sk1 (sk1 (sk1 (sk1 (sk1 (sk1 (sk1 (sk1 (sk1 (.refl _))))))))))))))))) rfl (Ev.load (i := 8) rfl rfl Try.isAgg22 (v := Sl.v s11) gh0) ?_
    refine HdJ.ts hsel hlt 13 (sk1 (sk1 (sk1 (sk1 (sk1 (sk1 (sk1 (sk1 (sk1 (sk1 (sk1 (sk1 (sk1 (sk1 (sk1 (sk1 (.refl _))))))))))))))))) rfl (Ev.build (v := .agg (enc (PictureR.mk ({ Picture.zero with Whole := false, Now := l43 } : Picture) Sl.nil Sl.nil s11)).toArray) (pv := [(2, .bool false), (3, Sl.v s11)]) ⟨rfl, rfl, ⟨rfl, rfl, trivial⟩⟩ (run_buildStruct (places := #[(0, 1), (1, 1), (2, 1), (3, 1), (4, 1)]) Try.zeroValue28 (zs := enc (PictureR.mk Picture.zero Sl.nil Sl.nil Sl.nil)) rfl Try.runUnderlying28 (fun w => by kernel_rfl) (fill_cons (cs := enc (PictureR.mk Picture.zero Sl.nil Sl.nil Sl.nil)) (cs' := enc (PictureR.mk ({ Picture.zero with Whole := false } : Picture) Sl.nil Sl.nil Sl.nil)) (vs := [.bool false]) rfl rfl rfl ((PictureR.put_Whole (p := (PictureR.mk Picture.zero Sl.nil Sl.nil Sl.nil)) (y := false) (Put.here (vs := [.bool false]) rfl)).off rfl) (fill_cons (cs := enc (PictureR.mk ({ Picture.zero with Whole := false } : Picture) Sl.nil Sl.nil Sl.nil)) (cs' := enc (PictureR.mk ({ Picture.zero with Whole := false, Now := l43 } : Picture) Sl.nil Sl.nil s11)) (vs := [Sl.v s11]) rfl rfl rfl ((PictureR.put_Now (p := (PictureR.mk ({ Picture.zero with Whole := false } : Picture) Sl.nil Sl.nil Sl.nil)) (y := s11) (Put.here (vs := [Sl.v s11]) rfl)).off rfl) fill_nil)))) ?_
    refine HdJ.o1 14 (fun inv => ?_)
    refine Lst.addNil 3 1 ?_
    have ha151 : All LR.rel w0 F44 [] ([] : List (LR Int)) := All.nil
    have ha151m : List.map LR.v ([] : List (LR Int)) = ([] : List (List Int)) := rfl
    refine Lst.addNil 22 1 ?_
    refine Lst.addNil 3 1 ?_
    refine Lst.alloc (cs := enc (PictureR.mk ({ Picture.zero with Have := ([] : List Int), Lanes := ([] : List (List Int)), Now := ([] : List Int) } : Picture) Sl.nil Sl.nil Sl.nil)) rfl rfl (by decide) Try.zeroValue28 rfl (fun b152 => ?_)
    refine hds inv (sc1 (sc1 (sc1 (sc1 (sk1 (sk1 (sk1 (sk1 (sk1 (sk1 (sk1 (sk1 (sk1 (sk1 (sk1 (sk1 (sk1 (sk1 (sk1 (sk1 (.refl _))))))))))))))))))))) ?_
    refine HdJ.done (by kernel_rfl) ?_
    exact At.meetN (b152, Sl.nil, ([] : List Int), Sl.nil, ([] : List (List Int)), ([] : List (LR Int)), Sl.nil, ([] : List Int)) fl ⟨rfl, rfl, rfl, rfl, rfl, rfl, rfl, trivial⟩ rfl ⟨h150, ha151m, (All.monoLR ha151 fl (List.nil_sublist _))⟩
   rintro F153 ⟨b139, s140, l141, s142, l143, rs144, s147, l148⟩ hF154 ⟨hy, fm145, fa146⟩
   subst hy
   try dsimp only at H
   refine Lst.as (e' := [(4, pv b5 0), (5, pv b7 0), (7, pv b27 0), (9, .map (some b31)), (10, pv b34 0), (17, pv b139 0), (148, .agg (enc (PictureR.mk ({ Picture.zero with Whole := false, Now := l43 } : Picture) Sl.nil Sl.nil s11)).toArray)]) (L' := (.blk b139 (enc (PictureR.mk ({ Picture.zero with Have := l148, Lanes := l143, Now := l141 } : Picture) s147 s142 s140)) 28) :: (.own s140 3 1 (encs l141)) :: (.own s142 22 1 (encs rs144)) :: (.own s147 3 1 (encs l148)) :: (.own s37 54 4 (encs l38)) :: (.blk b34 (enc s37) 52) :: (mitem b31 (fun x : Vector Int 2 => (.agg (enc x).toArray : Value)) (fun x : Int => (iv x : Value)) l40) :: (mitem b29 (fun x : Vector Int 2 => (.agg (enc x).toArray : Value)) (fun x : Int => (iv x : Value)) l41) :: (.blk b27 (enc s22) 22) :: (.own Sl.nil 3 1 (encs ([] : List Int))) :: (.own s22 3 1 (encs l42)) :: (.own s18 3 1 (encs ([(-1 : Int)] : List Int))) :: (.blk b16 (enc s11) 22) :: (.own Sl.nil 3 1 (encs ([] : List Int))) :: (.own s11 3 1 (encs l43)) :: (.blk b7 (enc (a0.length : Int)) 3) :: (.blk b5 (enc (PictureR.mk ({ Picture.zero with Have := ([] : List Int), Lanes := ([] : List (List Int)), Now := ([] : List Int) } : Picture) Sl.nil Sl.nil Sl.nil)) 28) :: (.own Sl.nil 3 1 (encs ([] : List Int))) :: (.own Sl.nil 22 1 (encs ([] : List (LR Int)))) :: (.own Sl.nil 3 1 (encs ([] : List Int))) :: L) ⟨rfl, rfl, rfl, rfl, rfl, rfl, rfl, trivial⟩ rfl ?_
   refine Lst.store (i := 0) rfl rfl rfl rfl rfl Try.sizeOf28 (vs := enc (PictureR.mk ({ Picture.zero with Whole := false, Now := l43 } : Picture) Sl.nil Sl.nil s11)) rfl (Enc.len _) (Enc.one _) (cs' := enc (PictureR.mk ({ Picture.zero with Whole := false, Now := l43 } : Picture) Sl.nil Sl.nil s11)) (Put.here ((Enc.len _).trans (Enc.len _).symm)) (L' := (.blk b139 (enc (PictureR.mk ({ Picture.zero with Whole := false, Now := l43 } : Picture) Sl.nil Sl.nil s11)) 28) :: (.own s140 3 1 (encs l141)) :: (.own s142 22 1 (encs rs144)) :: (.own s147 3 1 (encs l148)) :: (.own s37 54 4 (encs l38)) :: (.blk b34 (enc s37) 52) :: (mitem b31 (fun x : Vector Int 2 => (.agg (enc x).toArray : Value)) (fun x : Int => (iv x : Value)) l40) :: (mitem b29 (fun x : Vector Int 2 => (.agg (enc x).toArray : Value)) (fun x : Int => (iv x : Value)) l41) :: (.blk b27 (enc s22) 22) :: (.own Sl.nil 3 1 (encs ([] : List Int))) :: (.own s22 3 1 (encs l42)) :: (.own s18 3 1 (encs ([(-1 : Int)] : List Int))) :: (.blk b16 (enc s11) 22) :: (.own Sl.nil 3 1 (encs ([] : List Int))) :: (.own s11 3 1 (encs l43)) :: (.blk b7 (enc (a0.length : Int)) 3) :: (.blk b5 (enc (PictureR.mk ({ Picture.zero with Have := ([] : List Int), Lanes := ([] : List (List Int)), Now := ([] : List Int) } : Picture) Sl.nil Sl.nil Sl.nil)) 28) :: (.own Sl.nil 3 1 (encs ([] : List Int))) :: (.own Sl.nil 22 1 (encs ([] : List (LR Int)))) :: (.own Sl.nil 3 1 (encs ([] : List Int))) :: L) rfl ?_
   refine nt0 ?_
   refine Cd.seq ?_
   refine sr0 ?_
   refine Lst.r (Ev.load (i := 15) rfl rfl Try.isAgg3 (v := iv (a0.length : Int)) gh0) ?_
   refine mv0 rfl ?_
   refine nt0 ?_
   refine Cd.block ?_
   refine Cd.addNil 3 1 ?_
   have ha158 : All LR.rel w0 F153 [] ([] : List (LR Int)) := All.nil
   have ha158m : List.map LR.v ([] : List (LR Int)) = ([] : List (List Int)) := rfl
   refine Cd.addNil 22 1 ?_
   refine Cd.front (i := 1) rfl (L' := (.own Sl.nil 3 1 (encs ([] : List Int))) :: (.own Sl.nil 22 1 (encs ([] : List (LR Int)))) :: (.blk b139 (enc (PictureR.mk ({ Picture.zero with Have := ([] : List Int), Lanes := ([] : List (List Int)), Whole := false, Now := l43 } : Picture) Sl.nil Sl.nil s11)) 28) :: (.own s140 3 1 (encs l141)) :: (.own s142 22 1 (encs rs144)) :: (.own s147 3 1 (encs l148)) :: (.own s37 54 4 (encs l38)) :: (.blk b34 (enc s37) 52) :: (mitem b31 (fun x : Vector Int 2 => (.agg (enc x).toArray : Value)) (fun x : Int => (iv x : Value)) l40) :: (mitem b29 (fun x : Vector Int 2 => (.agg (enc x).toArray : Value)) (fun x : Int => (iv x : Value)) l41) :: (.blk b27 (enc s22) 22) :: (.own Sl.nil 3 1 (encs ([] : List Int))) :: (.own s22 3 1 (encs l42)) :: (.own s18 3 1 (encs ([(-1 : Int)] : List Int))) :: (.blk b16 (enc s11) 22) :: (.own Sl.nil 3 1 (encs ([] : List Int))) :: (.own s11 3 1 (encs l43)) :: (.blk b7 (enc (a0.length : Int)) 3) :: (.blk b5 (enc (PictureR.mk ({ Picture.zero with Have := ([] : List Int), Lanes := ([] : List (List Int)), Now := ([] : List Int) } : Picture) Sl.nil Sl.nil Sl.nil)) 28) :: (.own Sl.nil 3 1 (encs ([] : List Int))) :: (.own Sl.nil 22 1 (encs ([] : List (LR Int)))) :: (.own Sl.nil 3 1 (encs ([] : List Int))) :: L) rfl ?_
   refine Cd.bound (Rd.le (α := Int) (xs := a0) (by decide) (hs_a0.mono (FLe.trans (FLe.trans (FLe.trans hF14 hF25) hF45) hF154) (sc8 (sc8 (sc4 (sc2 hM)))))) (fun hN223 => ?_)
   obtain ⟨ol155, H, HKl155⟩ := bind_some H
   refine Cd.loop (σ := Nat × Nat × Picture × Sl × Sl × (List (LR Int))) (fun (i155, k155, y159, s160, s162, rs163) => [(4, pv b5 0), (5, pv b7 0), (7, pv b27 0), (9, .map (some b31)), (10, pv b34 0), (17, pv b139 0), (149, iv (a0.length : Int)), (150, iv (i155 : Int))]) (fun (i155, k155, y159, s160, s162, rs163) => (.own s160 3 1 (encs y159.Have)) :: (.own s162 22 1 (encs rs163)) :: (.blk b139 (enc (PictureR.mk ({ y159 with Now := l43 } : Picture) s160 s162 s11)) 28) :: (.own s140 3 1 (encs l141)) :: (.own s142 22 1 (encs rs144)) :: (.own s147 3 1 (encs l148)) :: (.own s37 54 4 (encs l38)) :: (.blk b34 (enc s37) 52) :: (mitem b31 (fun x : Vector Int 2 => (.agg (enc x).toArray : Value)) (fun x : Int => (iv x : Value)) l40) :: (mitem b29 (fun x : Vector Int 2 => (.agg (enc x).toArray : Value)) (fun x : Int => (iv x : Value)) l41) :: (.blk b27 (enc s22) 22) :: (.own Sl.nil 3 1 (encs ([] : List Int))) :: (.own s22 3 1 (encs l42)) :: (.own s18 3 1 (encs ([(-1 : Int)] : List Int))) :: (.blk b16 (enc s11) 22) :: (.own Sl.nil 3 1 (encs ([] : List Int))) :: (.own s11 3 1 (encs l43)) :: (.blk b7 (enc (a0.length : Int)) 3) :: (.blk b5 (enc (PictureR.mk ({ Picture.zero with Have := ([] : List Int), Lanes := ([] : List (List Int)), Now := ([] : List Int) } : Picture) Sl.nil Sl.nil Sl.nil)) 28) :: (.own Sl.nil 3 1 (encs ([] : List Int))) :: (.own Sl.nil 22 1 (encs ([] : List (LR Int)))) :: (.own Sl.nil 3 1 (encs ([] : List Int))) :: L) (fun Fx => (fun (i155, k155, y159, s160, s162, rs163) => rangeF (partref_Picture_B3 a0 l40 l42 l43) k155 i155 y159 = some ol155 ∧ i155 + k155 = a0.length ∧ rs163.map LR.v = y159.Lanes ∧ All LR.rel w0 Fx M rs163)) (fun (i155, k155, y159, s160, s162, rs163) => k155) (0, a0.length, ({ Picture.zero with Have := ([] : List Int), Lanes := ([] : List (List Int)), Whole := false, Now := l43 } : Picture), Sl.nil, Sl.nil, ([] : List (LR Int))) ⟨rfl, rfl, rfl, rfl, rfl, rfl, rfl, rfl, trivial⟩ rfl ⟨H, by omega, ha158m, (All.monoLR ha158 fl (List.nil_sublist _))⟩ ?_
   rintro F167 ⟨i155, k155, y159, s160, s162, rs163⟩ hF168 ⟨H, hik155, fm164, fa166⟩
   refine Cd.as (e' := [(4, pv b5 0), (5, pv b7 0), (7, pv b27 0), (9, .map (some b31)), (10, pv b34 0), (17, pv b139 0), (149, iv (a0.length : Int)), (150, iv (i155 : Int))]) (L' := (.own s160 3 1 (encs y159.Have)) :: (.own s162 22 1 (encs rs163)) :: (.blk b139 (enc (PictureR.mk ({ y159 with Now := l43 } : Picture) s160 s162 s11)) 28) :: (.own s140 3 1 (encs l141)) :: (.own s142 22 1 (encs rs144)) :: (.own s147 3 1 (encs l148)) :: (.own s37 54 4 (encs l38)) :: (.blk b34 (enc s37) 52) :: (mitem b31 (fun x : Vector Int 2 => (.agg (enc x).toArray : Value)) (fun x : Int => (iv x : Value)) l40) :: (mitem b29 (fun x : Vector Int 2 => (.agg (enc x).toArray : Value)) (fun x : Int => (iv x : Value)) l41) :: (.blk b27 (enc s22) 22) :: (.own Sl.nil 3 1 (encs ([] : List Int))) :: (.own s22 3 1 (encs l42)) :: (.own s18 3 1 (encs ([(-1 : Int)] : List Int))) :: (.blk b16 (enc s11) 22) :: (.own Sl.nil 3 1 (encs ([] : List Int))) :: (.own s11 3 1 (encs l43)) :: (.blk b7 (enc (a0.length : Int)) 3) :: (.blk b5 (enc (PictureR.mk ({ Picture.zero with Have := ([] : List Int), Lanes := ([] : List (List Int)), Now := ([] : List Int) } : Picture) Sl.nil Sl.nil Sl.nil)) 28) :: (.own Sl.nil 3 1 (encs ([] : List Int))) :: (.own Sl.nil 22 1 (encs ([] : List (LR Int)))) :: (.own Sl.nil 3 1 (encs ([] : List Int))) :: L) ⟨rfl, rfl, rfl, rfl, rfl, rfl, rfl, rfl, trivial⟩ rfl ?_
   rcases k155 with _ | k155
   ·have hc155 : decide ((i155 : Int) < (a0.length : Int)) = false := decide_eq_false (by omega)
    replace H := rangeF_end H
    refine sr0 ?_
    refine Lst.r (Ev.lss rfl rfl) ?_
    refine nt0 ?_
    refine Cd.seq ?_
    refine Cd.condF rfl hc155 ?_
    refine Cd.exit ?_
    refine At.then_exit ?_
    refine At.then_exit ?_
    refine At.in_exit ?_
    subst H
    replace H := HKl155
    refine At.then ?_
    refine Cd.seq ?_
    refine sr0 ?_
    refine Lst.r (Ev.load (i := 7) rfl rfl Try.isAgg52 (v := Sl.v s37) gh0) ?_
    refine Lst.r (Ev.lenS (α := Thing) (xs := l38) (by decide) rfl rfl Try.runUnderlying52 (rdo 6 rfl rfl rfl)) ?_
    refine mv0 rfl ?_
    refine nt0 ?_
    refine Cd.block ?_
    refine Cd.bound (Rd.le (α := Thing) (xs := l38) (by decide) (rdo 6 rfl rfl rfl)) (fun hN222 => ?_)
    obtain ⟨ol211, H, HKl211⟩ := bind_some H
    refine Cd.loop (σ := Nat × Nat × Picture) (fun (i211, k211, y212) => [(4, pv b5 0), (17, pv b139 0), (183, Sl.v s37), (184, iv (l38.length : Int)), (185, iv (i211 : Int))]) (fun (i211, k211, y212) => (.own s160 3 1 (encs y159.Have)) :: (.own s162 22 1 (encs rs163)) :: (.blk b139 (enc (PictureR.mk ({ y212 with Have := y159.Have, Lanes := y159.Lanes, Now := l43 } : Picture) s160 s162 s11)) 28) :: (.own s140 3 1 (encs l141)) :: (.own s142 22 1 (encs rs144)) :: (.own s147 3 1 (encs l148)) :: (.own s37 54 4 (encs l38)) :: (.blk b34 (enc s37) 52) :: (mitem b31 (fun x : Vector Int 2 => (.agg (enc x).toArray : Value)) (fun x : Int => (iv x : Value)) l40) :: (mitem b29 (fun x : Vector Int 2 => (.agg (enc x).toArray : Value)) (fun x : Int => (iv x : Value)) l41) :: (.blk b27 (enc s22) 22) :: (.own Sl.nil 3 1 (encs ([] : List Int))) :: (.own s22 3 1 (encs l42)) :: (.own s18 3 1 (encs ([(-1 : Int)] : List Int))) :: (.blk b16 (enc s11) 22) :: (.own Sl.nil 3 1 (encs ([] : List Int))) :: (.own s11 3 1 (encs l43)) :: (.blk b7 (enc (a0.length : Int)) 3) :: (.blk b5 (enc (PictureR.mk ({ Picture.zero with Have := ([] : List Int), Lanes := ([] : List (List Int)), Now := ([] : List Int) } : Picture) Sl.nil Sl.nil Sl.nil)) 28) :: (.own Sl.nil 3 1 (encs ([] : List Int))) :: (.own Sl.nil 22 1 (encs ([] : List (LR Int)))) :: (.own Sl.nil 3 1 (encs ([] : List Int))) :: L) (fun _ => (fun (i211, k211, y212) => rangeF (partref_Picture_B7 l38 l43 y159) k211 i211 y212 = some ol211 ∧ i211 + k211 = l38.length)) (fun (i211, k211, y212) => k211) (0, l38.length, ({ y159 with Now := l43 } : Picture)) ⟨rfl, rfl, rfl, rfl, rfl, trivial⟩ rfl ⟨H, by omega⟩ ?_
    rintro F213 ⟨i211, k211, y212⟩ hF214 ⟨H, hik211⟩
    refine Cd.as (e' := [(4, pv b5 0), (17, pv b139 0), (183, Sl.v s37), (184, iv (l38.length : Int)), (185, iv (i211 : Int))]) (L' := (.own s160 3 1 (encs y159.Have)) :: (.own s162 22 1 (encs rs163)) :: (.blk b139 (enc (PictureR.mk ({ y212 with Have := y159.Have, Lanes := y159.Lanes, Now := l43 } : Picture) s160 s162 s11)) 28) :: (.own s140 3 1 (encs l141)) :: (.own s142 22 1 (encs rs144)) :: (.own s147 3 1 (encs l148)) :: (.own s37 54 4 (encs l38)) :: (.blk b34 (enc s37) 52) :: (mitem b31 (fun x : Vector Int 2 => (.agg (enc x).toArray : Value)) (fun x : Int => (iv x : Value)) l40) :: (mitem b29 (fun x : Vector Int 2 => (.agg (enc x).toArray : Value)) (fun x : Int => (iv x : Value)) l41) :: (.blk b27 (enc s22) 22) :: (.own Sl.nil 3 1 (encs ([] : List Int))) :: (.own s22 3 1 (encs l42)) :: (.own s18 3 1 (encs ([(-1 : Int)] : List Int))) :: (.blk b16 (enc s11) 22) :: (.own Sl.nil 3 1 (encs ([] : List Int))) :: (.own s11 3 1 (encs l43)) :: (.blk b7 (enc (a0.length : Int)) 3) :: (.blk b5 (enc (PictureR.mk ({ Picture.zero with Have := ([] : List Int), Lanes := ([] : List (List Int)), Now := ([] : List Int) } : Picture) Sl.nil Sl.nil Sl.nil)) 28) :: (.own Sl.nil 3 1 (encs ([] : List Int))) :: (.own Sl.nil 22 1 (encs ([] : List (LR Int)))) :: (.own Sl.nil 3 1 (encs ([] : List Int))) :: L) ⟨rfl, rfl, rfl, rfl, rfl, trivial⟩ rfl ?_
    rcases k211 with _ | k211
    ·have hc211 : decide ((i211 : Int) < (l38.length : Int)) = false := decide_eq_false (by omega)
     replace H := rangeF_end H
     refine sr0 ?_
     refine Lst.r (Ev.lss rfl rfl) ?_
     refine nt0 ?_
     refine Cd.seq ?_
     refine Cd.condF rfl hc211 ?_
     refine Cd.exit ?_
     refine At.then_exit ?_
     refine At.then_exit ?_
     refine At.in_exit ?_
     subst H
     replace H := HKl211
     refine At.then ?_
     refine sr0 ?_
     refine Lst.r (Ev.loadA (i := 2) rfl rfl Try.isAgg28 Try.sizeOf28 (ch := enc (PictureR.mk ({ y212 with Have := y159.Have, Lanes := y159.Lanes, Now := l43 } : Picture) s160 s162 s11)) (Enc.len _) gh0) ?_
     refine Lst.store (i := 18) rfl rfl rfl rfl rfl Try.sizeOf28 (vs := enc (PictureR.mk ({ y212 with Have := y159.Have, Lanes := y159.Lanes, Now := l43 } : Picture) s160 s162 s11)) rfl (Enc.len _) (Enc.one _) (cs' := enc (PictureR.mk ({ y212 with Have := y159.Have, Lanes := y159.Lanes, Now := l43 } : Picture) s160 s162 s11)) (Put.here ((Enc.len _).trans (Enc.len _).symm)) (L' := (.own s160 3 1 (encs y159.Have)) :: (.own s162 22 1 (encs rs163)) :: (.blk b139 (enc (PictureR.mk ({ y212 with Have := y159.Have, Lanes := y159.Lanes, Now := l43 } : Picture) s160 s162 s11)) 28) :: (.own s140 3 1 (encs l141)) :: (.own s142 22 1 (encs rs144)) :: (.own s147 3 1 (encs l148)) :: (.own s37 54 4 (encs l38)) :: (.blk b34 (enc s37) 52) :: (mitem b31 (fun x : Vector Int 2 => (.agg (enc x).toArray : Value)) (fun x : Int => (iv x : Value)) l40) :: (mitem b29 (fun x : Vector Int 2 => (.agg (enc x).toArray : Value)) (fun x : Int => (iv x : Value)) l41) :: (.blk b27 (enc s22) 22) :: (.own Sl.nil 3 1 (encs ([] : List Int))) :: (.own s22 3 1 (encs l42)) :: (.own s18 3 1 (encs ([(-1 : Int)] : List Int))) :: (.blk b16 (enc s11) 22) :: (.own Sl.nil 3 1 (encs ([] : List Int))) :: (.own s11 3 1 (encs l43)) :: (.blk b7 (enc (a0.length : Int)) 3) :: (.blk b5 (enc (PictureR.mk ({ y212 with Have := y159.Have, Lanes := y159.Lanes, Now := l43 } : Picture) s160 s162 s11)) 28) :: (.own Sl.nil 3 1 (encs ([] : List Int))) :: (.own Sl.nil 22 1 (encs ([] : List (LR Int)))) :: (.own Sl.nil 3 1 (encs ([] : List Int))) :: L) rfl ?_
     refine nt0 ?_
     obtain rfl := some_inj H
     refine Cd.ret ?_
     exact At.ret1 rfl (Res.cellA (i := 18) rfl rfl Try.isAgg28 Try.sizeOf28 (Enc.len _)) (FLe.trans (FLe.trans (FLe.trans (FLe.trans (FLe.trans hF14 hF25) hF45) hF154) hF168) hF214) (sk1 (sk1 (sc1 (sc1 (sc1 (sc1 (sc1 (sc1 (sc1 (sc1 (sc1 (sc1 (sc1 (sc1 (sc1 (sc1 (sk1 (sc1 (sc1 (sc1 (sc1 (sc1 (.refl _))))))))))))))))))))))) ⟨s160, s162, rs163, s11, rfl, rfl, fm164, (All.monoLR fa166 hF214 (.refl _))⟩
    have hc211 : decide ((i211 : Int) < (l38.length : Int)) = true := decide_eq_true (by omega)
    obtain ⟨c211, H, hgo211⟩ := rangeF_go H
    unfold partref_Picture_B7 at H
    try dsimp only at H
    refine sr0 ?_
    refine Lst.r (Ev.lss rfl rfl) ?_
    refine nt0 ?_
    refine Cd.seq ?_
    refine Cd.condT rfl hc211 ?_
    refine Cd.skip ?_
    refine At.then ?_
    refine Cd.seq ?_
    refine Cd.block ?_
    refine sr0 ?_
    obtain ⟨x215, h216, H⟩ := bind_some H
    have g217 := lat_some h216
    refine Lst.r (Ev.indexS (α := Thing) (xs := l38) rfl rfl Try.runUnderlying52 Try.sizeOf54 rfl (by decide) (rdo 6 rfl rfl rfl) g217.1 g217.2.1) ?_
    refine Lst.r (Ev.loadSA (α := Thing) rfl (rdo 6 rfl rfl rfl) Try.isAgg54 Try.sizeOf54 (ch := enc x215) (Enc.len _) (by decide) ((Get.elemN (s := 4) (x := x215) rfl g217.2.2 gh0).off (by omega))) ?_
    refine Lst.alloc (cs := enc Thing.zero) rfl rfl (by decide) Try.zeroValue54 rfl (fun b218 => ?_)
    refine Lst.store (i := 0) rfl rfl rfl rfl rfl Try.sizeOf54 (vs := enc x215) rfl (Enc.len _) (Enc.one _) (cs' := enc x215) (Put.here ((Enc.len _).trans (Enc.len _).symm)) (L' := (.blk b218 (enc x215) 54) :: (.own s160 3 1 (encs y159.Have)) :: (.own s162 22 1 (encs rs163)) :: (.blk b139 (enc (PictureR.mk ({ y212 with Have := y159.Have, Lanes := y159.Lanes, Now := l43 } : Picture) s160 s162 s11)) 28) :: (.own s140 3 1 (encs l141)) :: (.own s142 22 1 (encs rs144)) :: (.own s147 3 1 (encs l148)) :: (.own s37 54 4 (encs l38)) :: (.blk b34 (enc s37) 52) :: (mitem b31 (fun x : Vector Int 2 => (.agg (enc x).toArray : Value)) (fun x : Int => (iv x : Value)) l40) :: (mitem b29 (fun x : Vector Int 2 => (.agg (enc x).toArray : Value)) (fun x : Int => (iv x : Value)) l41) :: (.blk b27 (enc s22) 22) :: (.own Sl.nil 3 1 (encs ([] : List Int))) :: (.own s22 3 1 (encs l42)) :: (.own s18 3 1 (encs ([(-1 : Int)] : List Int))) :: (.blk b16 (enc s11) 22) :: (.own Sl.nil 3 1 (encs ([] : List Int))) :: (.own s11 3 1 (encs l43)) :: (.blk b7 (enc (a0.length : Int)) 3) :: (.blk b5 (enc (PictureR.mk ({ Picture.zero with Have := ([] : List Int), Lanes := ([] : List (List Int)), Now := ([] : List Int) } : Picture) Sl.nil Sl.nil Sl.nil)) 28) :: (.own Sl.nil 3 1 (encs ([] : List Int))) :: (.own Sl.nil 22 1 (encs ([] : List (LR Int)))) :: (.own Sl.nil 3 1 (encs ([] : List Int))) :: L) rfl ?_
    refine nt0 ?_
    refine Cd.region ?_
    refine Lst.r (Ev.fieldAddr (off' := 4) rfl Try.runUnderlying28 rfl Try.sizeOf3 rfl rfl) ?_
    refine Lst.r (Ev.load (i := 3) rfl rfl Try.isAgg3 (v := iv y212.Under) ((PictureR.get_Under gh0).off (by rfl))) ?_
    refine Lst.r (Ev.fieldAddr (off' := 2) rfl Try.runUnderlying54 rfl Try.sizeOf3 rfl rfl) ?_
    refine Lst.r (Ev.load (i := 0) rfl rfl Try.isAgg3 (v := iv x215.n) ((Thing.get_n gh0).off (by rfl))) ?_
    refine Lst.r (Ev.add rfl rfl) ?_
    refine Lst.r (Ev.fieldAddr (off' := 4) rfl Try.runUnderlying28 rfl Try.sizeOf3 rfl rfl) ?_
    obtain ⟨p220, h221, H⟩ := Let_some H
    refine Lst.store (i := 3) rfl rfl rfl rfl rfl Try.sizeOf3 (vs := [iv (w64 (y212.Under + x215.n))]) rfl rfl rfl (cs' := enc (PictureR.mk ({ y212 with Have := y159.Have, Lanes := y159.Lanes, Now := l43, Under := p220 } : Picture) s160 s162 s11)) (by rw [← h221]; exact (PictureR.put_Under (Put.here (vs := [iv (w64 (y212.Under + x215.n))]) rfl)).off (by rfl)) (L' := (.blk b218 (enc x215) 54) :: (.own s160 3 1 (encs y159.Have)) :: (.own s162 22 1 (encs rs163)) :: (.blk b139 (enc (PictureR.mk ({ y212 with Have := y159.Have, Lanes := y159.Lanes, Now := l43, Under := p220 } : Picture) s160 s162 s11)) 28) :: (.own s140 3 1 (encs l141)) :: (.own s142 22 1 (encs rs144)) :: (.own s147 3 1 (encs l148)) :: (.own s37 54 4 (encs l38)) :: (.blk b34 (enc s37) 52) :: (mitem b31 (fun x : Vector Int 2 => (.agg (enc x).toArray : Value)) (fun x : Int => (iv x : Value)) l40) :: (mitem b29 (fun x : Vector Int 2 => (.agg (enc x).toArray : Value)) (fun x : Int => (iv x : Value)) l41) :: (.blk b27 (enc s22) 22) :: (.own Sl.nil 3 1 (encs ([] : List Int))) :: (.own s22 3 1 (encs l42)) :: (.own s18 3 1 (encs ([(-1 : Int)] : List Int))) :: (.blk b16 (enc s11) 22) :: (.own Sl.nil 3 1 (encs ([] : List Int))) :: (.own s11 3 1 (encs l43)) :: (.blk b7 (enc (a0.length : Int)) 3) :: (.blk b5 (enc (PictureR.mk ({ Picture.zero with Have := ([] : List Int), Lanes := ([] : List (List Int)), Now := ([] : List Int) } : Picture) Sl.nil Sl.nil Sl.nil)) 28) :: (.own Sl.nil 3 1 (encs ([] : List Int))) :: (.own Sl.nil 22 1 (encs ([] : List (LR Int)))) :: (.own Sl.nil 3 1 (encs ([] : List Int))) :: L) rfl ?_
    refine Lst.nil ?_
    refine At.in_normal ?_
    refine At.then ?_
    refine Cd.region ?_
    refine Lst.r (Ev.incr (by omega) rfl rfl) ?_
    refine mv0 rfl ?_
    refine Lst.nil ?_
    refine At.less (L' := (.own s160 3 1 (encs y159.Have)) :: (.own s162 22 1 (encs rs163)) :: (.blk b139 (enc (PictureR.mk ({ y212 with Have := y159.Have, Lanes := y159.Lanes, Now := l43, Under := p220 } : Picture) s160 s162 s11)) 28) :: (.own s140 3 1 (encs l141)) :: (.own s142 22 1 (encs rs144)) :: (.own s147 3 1 (encs l148)) :: (.own s37 54 4 (encs l38)) :: (.blk b34 (enc s37) 52) :: (mitem b31 (fun x : Vector Int 2 => (.agg (enc x).toArray : Value)) (fun x : Int => (iv x : Value)) l40) :: (mitem b29 (fun x : Vector Int 2 => (.agg (enc x).toArray : Value)) (fun x : Int => (iv x : Value)) l41) :: (.blk b27 (enc s22) 22) :: (.own Sl.nil 3 1 (encs ([] : List Int))) :: (.own s22 3 1 (encs l42)) :: (.own s18 3 1 (encs ([(-1 : Int)] : List Int))) :: (.blk b16 (enc s11) 22) :: (.own Sl.nil 3 1 (encs ([] : List Int))) :: (.own s11 3 1 (encs l43)) :: (.blk b7 (enc (a0.length : Int)) 3) :: (.blk b5 (enc (PictureR.mk ({ Picture.zero with Have := ([] : List Int), Lanes := ([] : List (List Int)), Now := ([] : List Int) } : Picture) Sl.nil Sl.nil Sl.nil)) 28) :: (.own Sl.nil 3 1 (encs ([] : List Int))) :: (.own Sl.nil 22 1 (encs ([] : List (LR Int)))) :: (.own Sl.nil 3 1 (encs ([] : List Int))) :: L) (sc1 (sk1 (sk1 (sk1 (sk1 (sk1 (sk1 (sk1 (sk1 (sk1 (sk1 (sk1 (sk1 (sk1 (sk1 (sk1 (sk1 (sk1 (sk1 (sk1 (sk1 (sk1 (sk1 (.refl _)))))))))))))))))))))))) ?_
    exact At.meet (i211 + 1, k211, ({ y212 with Have := y159.Have, Lanes := y159.Lanes, Now := l43, Under := p220 } : Picture)) hF214 ⟨rfl, rfl, rfl, rfl, rfl, trivial⟩ rfl ⟨⟨hgo211 _ (some_inj H).symm, by omega⟩, Nat.lt_succ_self _⟩
   have hc155 : decide ((i155 : Int) < (a0.length : Int)) = true := decide_eq_true (by omega)
   obtain ⟨c155, H, hgo155⟩ := rangeF_go H
   unfold partref_Picture_B3 at H
   try dsimp only at H
   refine sr0 ?_
   refine Lst.r (Ev.lss rfl rfl) ?_
   refine nt0 ?_
   refine Cd.seq ?_
   refine Cd.condT rfl hc155 ?_
   refine Cd.skip ?_
   refine At.then ?_
   refine Cd.seq ?_
   refine Cd.block ?_
   refine sr0 ?_
   refine mv0 rfl ?_
   refine Lst.r (Ev.assign rfl) ?_
   refine nt0 ?_
   refine Cd.seq ?_
   obtain ⟨x169, h170, H⟩ := bind_some H
   obtain ⟨o177, h178, H⟩ := Let_some H
   refine Cd.headMeet (σ := Sl × (List Int)) 8 (fun (s175, l176) => [(4, pv b5 0), (5, pv b7 0), (7, pv b27 0), (9, .map (some b31)), (10, pv b34 0), (17, pv b139 0), (18, iv (i155 : Int)), (149, iv (a0.length : Int)), (150, iv (i155 : Int)), (154, Sl.v s160), (160, Sl.v s175)]) (fun (s175, l176) => (.own s175 3 1 (encs l176)) :: (.own s160 3 1 (encs y159.Have)) :: (.own s162 22 1 (encs rs163)) :: (.blk b139 (enc (PictureR.mk ({ y159 with Now := l43 } : Picture) s160 s162 s11)) 28) :: (.own s140 3 1 (encs l141)) :: (.own s142 22 1 (encs rs144)) :: (.own s147 3 1 (encs l148)) :: (.own s37 54 4 (encs l38)) :: (.blk b34 (enc s37) 52) :: (mitem b31 (fun x : Vector Int 2 => (.agg (enc x).toArray : Value)) (fun x : Int => (iv x : Value)) l40) :: (mitem b29 (fun x : Vector Int 2 => (.agg (enc x).toArray : Value)) (fun x : Int => (iv x : Value)) l41) :: (.blk b27 (enc s22) 22) :: (.own Sl.nil 3 1 (encs ([] : List Int))) :: (.own s22 3 1 (encs l42)) :: (.own s18 3 1 (encs ([(-1 : Int)] : List Int))) :: (.blk b16 (enc s11) 22) :: (.own Sl.nil 3 1 (encs ([] : List Int))) :: (.own s11 3 1 (encs l43)) :: (.blk b7 (enc (a0.length : Int)) 3) :: (.blk b5 (enc (PictureR.mk ({ Picture.zero with Have := ([] : List Int), Lanes := ([] : List (List Int)), Now := ([] : List Int) } : Picture) Sl.nil Sl.nil Sl.nil)) 28) :: (.own Sl.nil 3 1 (encs ([] : List Int))) :: (.own Sl.nil 22 1 (encs ([] : List (LR Int)))) :: (.own Sl.nil 3 1 (encs ([] : List Int))) :: L) (fun _ (s175, l176) => l176 = o177) (by kernel_rfl) (by kernel_rfl) (behind_sink (by kernel_rfl) (by kernel_rfl) (by kernel_rfl)) (by kernel_rfl) (fun hsel hlt => ?_) ?_
   ·refine HdJ.keep (fun w => St w0 F167 ((.own s160 3 1 (encs y159.Have)) :: (.own s162 22 1 (encs rs163)) :: (.blk b139 (enc (PictureR.mk ({ y159 with Now := l43 } : Picture) s160 s162 s11)) 28) :: (.own s140 3 1 (encs l141)) :: (.own s142 22 1 (encs rs144)) :: (.own s147 3 1 (encs l148)) :: (.own s37 54 4 (encs l38)) :: (.blk b34 (enc s37) 52) :: (mitem b31 (fun x : Vector Int 2 => (.agg (enc x).toArray : Value)) (fun x : Int => (iv x : Value)) l40) :: (mitem b29 (fun x : Vector Int 2 => (.agg (enc x).toArray : Value)) (fun x : Int => (iv x : Value)) l41) :: (.blk b27 (enc s22) 22) :: (.own Sl.nil 3 1 (encs ([] : List Int))) :: (.own s22 3 1 (encs l42)) :: (.own s18 3 1 (encs ([(-1 : Int)] : List Int))) :: (.blk b16 (enc s11) 22) :: (.own Sl.nil 3 1 (encs ([] : List Int))) :: (.own s11 3 1 (encs l43)) :: (.blk b7 (enc (a0.length : Int)) 3) :: (.blk b5 (enc (PictureR.mk ({ Picture.zero with Have := ([] : List Int), Lanes := ([] : List (List Int)), Now := ([] : List Int) } : Picture) Sl.nil Sl.nil Sl.nil)) 28) :: (.own Sl.nil 3 1 (encs ([] : List Int))) :: (.own Sl.nil 22 1 (encs ([] : List (LR Int)))) :: (.own Sl.nil 3 1 (encs ([] : List Int))) :: L) w) (fun w h => trivial) ?_
    refine HdJ.ts hsel hlt 0 (sk1 (sk1 (sk1 (sk1 (sk1 (sk1 (sk1 (sk1 (sk1 (sk1 (sk1 (sk1 (sk1 (sk1 (sk1 (sk1 (sk1 (sk1 (sk1 (sk1 (sk1 (sk1 (.refl _))))))))))))))))))))))) rfl (Ev.fieldAddr (off' := 0) rfl Try.runUnderlying28 rfl Try.sizeOf22 rfl rfl) ?_
    refine HdJ.ts hsel hlt 1 (sk1 (sk1 (sk1 (sk1 (sk1 (sk1 (sk1 (sk1 (sk1 (sk1 (sk1 (sk1 (sk1 (sk1 (sk1 (sk1 (sk1 (sk1 (sk1 (sk1 (sk1 (sk1 (.refl _))))))))))))))))))))))) rfl (Ev.load (i := 2) rfl rfl Try.isAgg22 (v := Sl.v s160) ((PictureR.get_Have gh0).off (by rfl))) ?_
    refine HdJ.ts hsel hlt 2 (sk1 (sk1 (sk1 (sk1 (sk1 (sk1 (sk1 (sk1 (sk1 (sk1 (sk1 (sk1 (sk1 (sk1 (sk1 (sk1 (sk1 (sk1 (sk1 (sk1 (sk1 (sk1 (.refl _))))))))))))))))))))))) rfl (Ev.load (i := 10) rfl rfl Try.isAgg22 (v := Sl.v s22) gh0) ?_
    refine HdJ.ts hsel hlt 3 (sk1 (sk1 (sk1 (sk1 (sk1 (sk1 (sk1 (sk1 (sk1 (sk1 (sk1 (sk1 (sk1 (sk1 (sk1 (sk1 (sk1 (sk1 (sk1 (sk1 (sk1 (sk1 (.refl _))))))))))))))))))))))) rfl (Ev.move rfl) ?_
    have g179 := lat_some h170
    refine HdJ.ts hsel hlt 4 (sk1 (sk1 (sk1 (sk1 (sk1 (sk1 (sk1 (sk1 (sk1 (sk1 (sk1 (sk1 (sk1 (sk1 (sk1 (sk1 (sk1 (sk1 (sk1 (sk1 (sk1 (sk1 (.refl _))))))))))))))))))))))) rfl (Ev.indexS (α := Int) (xs := l42) rfl rfl Try.runUnderlying22 Try.sizeOf3 rfl (by decide) (rdo 12 rfl rfl rfl) g179.1 g179.2.1) ?_
    refine HdJ.ts hsel hlt 5 (sk1 (sk1 (sk1 (sk1 (sk1 (sk1 (sk1 (sk1 (sk1 (sk1 (sk1 (sk1 (sk1 (sk1 (sk1 (sk1 (sk1 (sk1 (sk1 (sk1 (sk1 (sk1 (.refl _))))))))))))))))))))))) rfl (Ev.loadS (α := Int) rfl (rdo 12 rfl rfl rfl) Try.isAgg3 (v := iv x169) ((Get.elemN (s := 1) (x := x169) rfl g179.2.2 gh0).off (by omega))) ?_
    refine HdJ.ts hsel hlt 6 (sk1 (sk1 (sk1 (sk1 (sk1 (sk1 (sk1 (sk1 (sk1 (sk1 (sk1 (sk1 (sk1 (sk1 (sk1 (sk1 (sk1 (sk1 (sk1 (sk1 (sk1 (sk1 (.refl _))))))))))))))))))))))) rfl (Ev.max2 rfl rfl) ?_
    refine HdJ.o1 7 (fun inv => ?_)
    refine Lst.buildSlice (α := Int) (xs := ([max x169 (0 : Int)] : List Int)) (pv := [(0, iv (max x169 (0 : Int)))]) rfl rfl (by decide) ⟨rfl, rfl, trivial⟩ (run_buildSlice (α := Int) (z0 := (0 : Int)) (xs := ([max x169 (0 : Int)] : List Int)) Try.runUnderlying22 Try.sizeOf3 Try.zeroValue3 rfl rfl rfl (by decide) rfl (fill_cons (cs := encs (List.replicate 1 (0 : Int))) (cs' := encs ((List.replicate 1 (0 : Int)).set 0 (max x169 (0 : Int)))) (vs := [iv (max x169 (0 : Int))]) rfl rfl rfl ((Put.elemN (s := 1) (i := 0) (x := (0 : Int)) (y := (max x169 (0 : Int))) rfl rfl (Put.here (vs := [iv (max x169 (0 : Int))]) rfl)).off rfl) fill_nil)) rfl rfl (by decide) (fun s180 _ => ?_)
    refine hds inv (sc1 (sk1 (sk1 (sk1 (sk1 (sk1 (sk1 (sk1 (sk1 (sk1 (sk1 (sk1 (sk1 (sk1 (sk1 (sk1 (sk1 (sk1 (sk1 (sk1 (sk1 (sk1 (sk1 (.refl _)))))))))))))))))))))))) ?_
    refine HdJ.done (by kernel_rfl) ?_
    exact At.meetN (s180, ([max x169 (0 : Int)] : List Int)) fl ⟨rfl, rfl, rfl, rfl, rfl, rfl, rfl, rfl, rfl, rfl, rfl, trivial⟩ rfl h178
   rintro F181 ⟨s175, l176⟩ hF182 hy
   subst hy
   refine Lst.as (e' := [(4, pv b5 0), (5, pv b7 0), (7, pv b27 0), (9, .map (some b31)), (10, pv b34 0), (17, pv b139 0), (18, iv (i155 : Int)), (149, iv (a0.length : Int)), (150, iv (i155 : Int)), (154, Sl.v s160), (160, Sl.v s175)]) (L' := (.own s175 3 1 (encs l176)) :: (.own s160 3 1 (encs y159.Have)) :: (.own s162 22 1 (encs rs163)) :: (.blk b139 (enc (PictureR.mk ({ y159 with Now := l43 } : Picture) s160 s162 s11)) 28) :: (.own s140 3 1 (encs l141)) :: (.own s142 22 1 (encs rs144)) :: (.own s147 3 1 (encs l148)) :: (.own s37 54 4 (encs l38)) :: (.blk b34 (enc s37) 52) :: (mitem b31 (fun x : Vector Int 2 => (.agg (enc x).toArray : Value)) (fun x : Int => (iv x : Value)) l40) :: (mitem b29 (fun x : Vector Int 2 => (.agg (enc x).toArray : Value)) (fun x : Int => (iv x : Value)) l41) :: (.blk b27 (enc s22) 22) :: (.own Sl.nil 3 1 (encs ([] : List Int))) :: (.own s22 3 1 (encs l42)) :: (.own s18 3 1 (encs ([(-1 : Int)] : List Int))) :: (.blk b16 (enc s11) 22) :: (.own Sl.nil 3 1 (encs ([] : List Int))) :: (.own s11 3 1 (encs l43)) :: (.blk b7 (enc (a0.length : Int)) 3) :: (.blk b5 (enc (PictureR.mk ({ Picture.zero with Have := ([] : List Int), Lanes := ([] : List (List Int)), Now := ([] : List Int) } : Picture) Sl.nil Sl.nil Sl.nil)) 28) :: (.own Sl.nil 3 1 (encs ([] : List Int))) :: (.own Sl.nil 22 1 (encs ([] : List (LR Int)))) :: (.own Sl.nil 3 1 (encs ([] : List Int))) :: L) ⟨rfl, rfl, rfl, rfl, rfl, rfl, rfl, rfl, rfl, rfl, rfl, trivial⟩ rfl ?_
   obtain ⟨u183, h184, H⟩ := bind_some H
   refine Lst.append (i := 1) (α := Int) (xs := y159.Have) (ys := l176) rfl rfl (by decide) rfl rfl Try.runUnderlying22 Try.typeInfo3 rfl rfl rfl rfl rfl rfl (rdo 0 rfl rfl rfl) rfl (room_some h184) rfl (fun s185 => ?_)
   refine Lst.its (L' := (.own s175 3 1 (encs l176)) :: (.own s185 3 1 (encs (y159.Have ++ l176))) :: (.own s162 22 1 (encs rs163)) :: (.blk b139 (enc (PictureR.mk ({ y159 with Now := l43 } : Picture) s160 s162 s11)) 28) :: (.own s140 3 1 (encs l141)) :: (.own s142 22 1 (encs rs144)) :: (.own s147 3 1 (encs l148)) :: (.own s37 54 4 (encs l38)) :: (.blk b34 (enc s37) 52) :: (mitem b31 (fun x : Vector Int 2 => (.agg (enc x).toArray : Value)) (fun x : Int => (iv x : Value)) l40) :: (mitem b29 (fun x : Vector Int 2 => (.agg (enc x).toArray : Value)) (fun x : Int => (iv x : Value)) l41) :: (.blk b27 (enc s22) 22) :: (.own Sl.nil 3 1 (encs ([] : List Int))) :: (.own s22 3 1 (encs l42)) :: (.own s18 3 1 (encs ([(-1 : Int)] : List Int))) :: (.blk b16 (enc s11) 22) :: (.own Sl.nil 3 1 (encs ([] : List Int))) :: (.own s11 3 1 (encs l43)) :: (.blk b7 (enc (a0.length : Int)) 3) :: (.blk b5 (enc (PictureR.mk ({ Picture.zero with Have := ([] : List Int), Lanes := ([] : List (List Int)), Now := ([] : List Int) } : Picture) Sl.nil Sl.nil Sl.nil)) 28) :: (.own Sl.nil 3 1 (encs ([] : List Int))) :: (.own Sl.nil 22 1 (encs ([] : List (LR Int)))) :: (.own Sl.nil 3 1 (encs ([] : List Int))) :: L) rfl ?_
   refine Lst.r (Ev.fieldAddr (off' := 0) rfl Try.runUnderlying28 rfl Try.sizeOf22 rfl rfl) ?_
   refine Lst.store (i := 3) rfl rfl rfl rfl rfl Try.sizeOf22 (vs := [Sl.v s185]) rfl rfl rfl (cs' := enc (PictureR.mk ({ y159 with Have := y159.Have ++ l176, Now := l43 } : Picture) s185 s162 s11)) ((PictureR.put_Have (Put.here (vs := [Sl.v s185]) rfl)).off (by rfl)) (L' := (.own s175 3 1 (encs l176)) :: (.own s185 3 1 (encs (y159.Have ++ l176))) :: (.own s162 22 1 (encs rs163)) :: (.blk b139 (enc (PictureR.mk ({ y159 with Have := y159.Have ++ l176, Now := l43 } : Picture) s185 s162 s11)) 28) :: (.own s140 3 1 (encs l141)) :: (.own s142 22 1 (encs rs144)) :: (.own s147 3 1 (encs l148)) :: (.own s37 54 4 (encs l38)) :: (.blk b34 (enc s37) 52) :: (mitem b31 (fun x : Vector Int 2 => (.agg (enc x).toArray : Value)) (fun x : Int => (iv x : Value)) l40) :: (mitem b29 (fun x : Vector Int 2 => (.agg (enc x).toArray : Value)) (fun x : Int => (iv x : Value)) l41) :: (.blk b27 (enc s22) 22) :: (.own Sl.nil 3 1 (encs ([] : List Int))) :: (.own s22 3 1 (encs l42)) :: (.own s18 3 1 (encs ([(-1 : Int)] : List Int))) :: (.blk b16 (enc s11) 22) :: (.own Sl.nil 3 1 (encs ([] : List Int))) :: (.own s11 3 1 (encs l43)) :: (.blk b7 (enc (a0.length : Int)) 3) :: (.blk b5 (enc (PictureR.mk ({ Picture.zero with Have := ([] : List Int), Lanes := ([] : List (List Int)), Now := ([] : List Int) } : Picture) Sl.nil Sl.nil Sl.nil)) 28) :: (.own Sl.nil 3 1 (encs ([] : List Int))) :: (.own Sl.nil 22 1 (encs ([] : List (LR Int)))) :: (.own Sl.nil 3 1 (encs ([] : List Int))) :: L) rfl ?_
   refine nsr ?_
   refine Lst.addNil 3 1 ?_
   refine Lst.r (Ev.assign rfl) ?_
   refine nt0 ?_
   refine Cd.seq ?_
   refine sr0 ?_
   refine Lst.r (Ev.load (i := 19) rfl rfl Try.isAgg3 (v := iv (a0.length : Int)) gh0) ?_
   refine mv0 rfl ?_
   refine nt0 ?_
   refine Cd.block ?_
   refine Cd.bound (Rd.le (α := Int) (xs := a0) (by decide) (hs_a0.mono (FLe.trans (FLe.trans (FLe.trans (FLe.trans (FLe.trans hF14 hF25) hF45) hF154) hF168) hF182) (sc8 (sc8 (sc8 hM))))) (fun hN210 => ?_)
   obtain ⟨ol187, H, HKl187⟩ := bind_some H
   refine Cd.loop (σ := Nat × Nat × Sl × (List Int)) (fun (i187, k187, s188, l189) => [(4, pv b5 0), (5, pv b7 0), (7, pv b27 0), (9, .map (some b31)), (10, pv b34 0), (17, pv b139 0), (18, iv (i155 : Int)), (19, Sl.v s188), (149, iv (a0.length : Int)), (150, iv (i155 : Int)), (163, iv (a0.length : Int)), (164, iv (i187 : Int))]) (fun (i187, k187, s188, l189) => (.own s188 3 1 (encs l189)) :: (.own s175 3 1 (encs l176)) :: (.own s185 3 1 (encs (y159.Have ++ l176))) :: (.own s162 22 1 (encs rs163)) :: (.blk b139 (enc (PictureR.mk ({ y159 with Have := y159.Have ++ l176, Now := l43 } : Picture) s185 s162 s11)) 28) :: (.own s140 3 1 (encs l141)) :: (.own s142 22 1 (encs rs144)) :: (.own s147 3 1 (encs l148)) :: (.own s37 54 4 (encs l38)) :: (.blk b34 (enc s37) 52) :: (mitem b31 (fun x : Vector Int 2 => (.agg (enc x).toArray : Value)) (fun x : Int => (iv x : Value)) l40) :: (mitem b29 (fun x : Vector Int 2 => (.agg (enc x).toArray : Value)) (fun x : Int => (iv x : Value)) l41) :: (.blk b27 (enc s22) 22) :: (.own Sl.nil 3 1 (encs ([] : List Int))) :: (.own s22 3 1 (encs l42)) :: (.own s18 3 1 (encs ([(-1 : Int)] : List Int))) :: (.blk b16 (enc s11) 22) :: (.own Sl.nil 3 1 (encs ([] : List Int))) :: (.own s11 3 1 (encs l43)) :: (.blk b7 (enc (a0.length : Int)) 3) :: (.blk b5 (enc (PictureR.mk ({ Picture.zero with Have := ([] : List Int), Lanes := ([] : List (List Int)), Now := ([] : List Int) } : Picture) Sl.nil Sl.nil Sl.nil)) 28) :: (.own Sl.nil 3 1 (encs ([] : List Int))) :: (.own Sl.nil 22 1 (encs ([] : List (LR Int)))) :: (.own Sl.nil 3 1 (encs ([] : List Int))) :: L) (fun _ => (fun (i187, k187, s188, l189) => rangeF (partref_Picture_B5 l40 i155) k187 i187 l189 = some ol187 ∧ i187 + k187 = a0.length)) (fun (i187, k187, s188, l189) => k187) (0, a0.length, Sl.nil, ([] : List Int)) ⟨rfl, rfl, rfl, rfl, rfl, rfl, rfl, rfl, rfl, rfl, rfl, rfl, trivial⟩ rfl ⟨H, by omega⟩ ?_
   rintro F190 ⟨i187, k187, s188, l189⟩ hF191 ⟨H, hik187⟩
   refine Cd.as (e' := [(4, pv b5 0), (5, pv b7 0), (7, pv b27 0), (9, .map (some b31)), (10, pv b34 0), (17, pv b139 0), (18, iv (i155 : Int)), (19, Sl.v s188), (149, iv (a0.length : Int)), (150, iv (i155 : Int)), (163, iv (a0.length : Int)), (164, iv (i187 : Int))]) (L' := (.own s188 3 1 (encs l189)) :: (.own s175 3 1 (encs l176)) :: (.own s185 3 1 (encs (y159.Have ++ l176))) :: (.own s162 22 1 (encs rs163)) :: (.blk b139 (enc (PictureR.mk ({ y159 with Have := y159.Have ++ l176, Now := l43 } : Picture) s185 s162 s11)) 28) :: (.own s140 3 1 (encs l141)) :: (.own s142 22 1 (encs rs144)) :: (.own s147 3 1 (encs l148)) :: (.own s37 54 4 (encs l38)) :: (.blk b34 (enc s37) 52) :: (mitem b31 (fun x : Vector Int 2 => (.agg (enc x).toArray : Value)) (fun x : Int => (iv x : Value)) l40) :: (mitem b29 (fun x : Vector Int 2 => (.agg (enc x).toArray : Value)) (fun x : Int => (iv x : Value)) l41) :: (.blk b27 (enc s22) 22) :: (.own Sl.nil 3 1 (encs ([] : List Int))) :: (.own s22 3 1 (encs l42)) :: (.own s18 3 1 (encs ([(-1 : Int)] : List Int))) :: (.blk b16 (enc s11) 22) :: (.own Sl.nil 3 1 (encs ([] : List Int))) :: (.own s11 3 1 (encs l43)) :: (.blk b7 (enc (a0.length : Int)) 3) :: (.blk b5 (enc (PictureR.mk ({ Picture.zero with Have := ([] : List Int), Lanes := ([] : List (List Int)), Now := ([] : List Int) } : Picture) Sl.nil Sl.nil Sl.nil)) 28) :: (.own Sl.nil 3 1 (encs ([] : List Int))) :: (.own Sl.nil 22 1 (encs ([] : List (LR Int)))) :: (.own Sl.nil 3 1 (encs ([] : List Int))) :: L) ⟨rfl, rfl, rfl, rfl, rfl, rfl, rfl, rfl, rfl, rfl, rfl, rfl, trivial⟩ rfl ?_
   rcases k187 with _ | k187
   ·have hc187 : decide ((i187 : Int) < (a0.length : Int)) = false := decide_eq_false (by omega)
    replace H := rangeF_end H
    refine sr0 ?_
    refine Lst.r (Ev.lss rfl rfl) ?_
    refine nt0 ?_
    refine Cd.seq ?_
    refine Cd.condF rfl hc187 ?_
    refine Cd.exit ?_
    refine At.then_exit ?_
    refine At.then_exit ?_
    refine At.in_exit ?_
    subst H
    replace H := HKl187
    refine At.then ?_
    refine Cd.region ?_
    refine Lst.r (Ev.fieldAddr (off' := 1) rfl Try.runUnderlying28 rfl Try.sizeOf26 rfl rfl) ?_
    refine Lst.r (Ev.load (i := 4) rfl rfl Try.isAgg26 (v := Sl.v s162) ((PictureR.get_Lanes gh0).off (by rfl))) ?_
    refine mv0 rfl ?_
    refine Lst.freeze (i := 0) rfl (fun F197 hF198 hz199 => ?_)
    have hq200 : Rd w0 F197 [] s188 l189 := Rd.frozen hz199 rfl rfl
    refine Lst.its (L' := (.own s175 3 1 (encs l176)) :: (.own s185 3 1 (encs (y159.Have ++ l176))) :: (.own s162 22 1 (encs rs163)) :: (.blk b139 (enc (PictureR.mk ({ y159 with Have := y159.Have ++ l176, Now := l43 } : Picture) s185 s162 s11)) 28) :: (.own s140 3 1 (encs l141)) :: (.own s142 22 1 (encs rs144)) :: (.own s147 3 1 (encs l148)) :: (.own s37 54 4 (encs l38)) :: (.blk b34 (enc s37) 52) :: (mitem b31 (fun x : Vector Int 2 => (.agg (enc x).toArray : Value)) (fun x : Int => (iv x : Value)) l40) :: (mitem b29 (fun x : Vector Int 2 => (.agg (enc x).toArray : Value)) (fun x : Int => (iv x : Value)) l41) :: (.blk b27 (enc s22) 22) :: (.own Sl.nil 3 1 (encs ([] : List Int))) :: (.own s22 3 1 (encs l42)) :: (.own s18 3 1 (encs ([(-1 : Int)] : List Int))) :: (.blk b16 (enc s11) 22) :: (.own Sl.nil 3 1 (encs ([] : List Int))) :: (.own s11 3 1 (encs l43)) :: (.blk b7 (enc (a0.length : Int)) 3) :: (.blk b5 (enc (PictureR.mk ({ Picture.zero with Have := ([] : List Int), Lanes := ([] : List (List Int)), Now := ([] : List Int) } : Picture) Sl.nil Sl.nil Sl.nil)) 28) :: (.own Sl.nil 3 1 (encs ([] : List Int))) :: (.own Sl.nil 22 1 (encs ([] : List (LR Int)))) :: (.own Sl.nil 3 1 (encs ([] : List Int))) :: L) rfl ?_
    have hm203 : ([(LR.mk l189 s188)] : List (LR Int)).map LR.v = ([l189] : List (List Int)) := rfl
    have ha204 : All LR.rel w0 F197 [] ([(LR.mk l189 s188)] : List (LR Int)) := All.of1 (hq200.mono fl (List.nil_sublist _))
    refine Lst.buildSlice (α := LR Int) (xs := ([(LR.mk l189 s188)] : List (LR Int))) (pv := [(0, Sl.v s188)]) rfl rfl (by decide) ⟨rfl, rfl, trivial⟩ (run_buildSlice (α := LR Int) (z0 := ((LR.mk [] Sl.nil) : LR Int)) (xs := ([(LR.mk l189 s188)] : List (LR Int))) Try.runUnderlying26 Try.sizeOf22 Try.zeroValue22 rfl rfl rfl (by decide) rfl (fill_cons (cs := encs (List.replicate 1 ((LR.mk [] Sl.nil) : LR Int))) (cs' := encs ((List.replicate 1 ((LR.mk [] Sl.nil) : LR Int)).set 0 (LR.mk l189 s188))) (vs := [Sl.v s188]) rfl rfl rfl ((Put.elemN (s := 1) (i := 0) (x := ((LR.mk [] Sl.nil) : LR Int)) (y := (LR.mk l189 s188)) rfl rfl (Put.here (vs := [Sl.v s188]) rfl)).off rfl) fill_nil)) rfl rfl (by decide) (fun s201 _ => ?_)
    obtain ⟨u205, h206, H⟩ := bind_some H
    have hm208 : (rs163 ++ ([(LR.mk l189 s188)] : List (LR Int))).map LR.v = y159.Lanes ++ ([l189] : List (List Int)) := map_app fm164 hm203
    have ha209 : All LR.rel w0 F197 M (rs163 ++ ([(LR.mk l189 s188)] : List (LR Int))) := All.app (All.monoLR fa166 (FLe.trans (FLe.trans hF182 hF191) hF198) (.refl _)) (All.monoLR ha204 fl (List.nil_sublist _))
    refine Lst.append (i := 3) (α := LR Int) (xs := rs163) (ys := ([(LR.mk l189 s188)] : List (LR Int))) rfl rfl (by decide) rfl rfl Try.runUnderlying26 Try.typeInfo22 rfl rfl rfl rfl rfl rfl (rdo 0 rfl rfl rfl) rfl (by have := room_some h206; have := map_len fm164; have := map_len hm203; omega) rfl (fun s207 => ?_)
    refine Lst.its (L' := (.own s201 22 1 (encs ([(LR.mk l189 s188)] : List (LR Int)))) :: (.own s175 3 1 (encs l176)) :: (.own s185 3 1 (encs (y159.Have ++ l176))) :: (.own s207 22 1 (encs (rs163 ++ ([(LR.mk l189 s188)] : List (LR Int))))) :: (.blk b139 (enc (PictureR.mk ({ y159 with Have := y159.Have ++ l176, Now := l43 } : Picture) s185 s162 s11)) 28) :: (.own s140 3 1 (encs l141)) :: (.own s142 22 1 (encs rs144)) :: (.own s147 3 1 (encs l148)) :: (.own s37 54 4 (encs l38)) :: (.blk b34 (enc s37) 52) :: (mitem b31 (fun x : Vector Int 2 => (.agg (enc x).toArray : Value)) (fun x : Int => (iv x : Value)) l40) :: (mitem b29 (fun x : Vector Int 2 => (.agg (enc x).toArray : Value)) (fun x : Int => (iv x : Value)) l41) :: (.blk b27 (enc s22) 22) :: (.own Sl.nil 3 1 (encs ([] : List Int))) :: (.own s22 3 1 (encs l42)) :: (.own s18 3 1 (encs ([(-1 : Int)] : List Int))) :: (.blk b16 (enc s11) 22) :: (.own Sl.nil 3 1 (encs ([] : List Int))) :: (.own s11 3 1 (encs l43)) :: (.blk b7 (enc (a0.length : Int)) 3) :: (.blk b5 (enc (PictureR.mk ({ Picture.zero with Have := ([] : List Int), Lanes := ([] : List (List Int)), Now := ([] : List Int) } : Picture) Sl.nil Sl.nil Sl.nil)) 28) :: (.own Sl.nil 3 1 (encs ([] : List Int))) :: (.own Sl.nil 22 1 (encs ([] : List (LR Int)))) :: (.own Sl.nil 3 1 (encs ([] : List Int))) :: L) rfl ?_
    refine Lst.r (Ev.fieldAddr (off' := 1) rfl Try.runUnderlying28 rfl Try.sizeOf26 rfl rfl) ?_
    refine Lst.store (i := 4) rfl rfl rfl rfl rfl Try.sizeOf26 (vs := [Sl.v s207]) rfl rfl rfl (cs' := enc (PictureR.mk ({ y159 with Have := y159.Have ++ l176, Lanes := y159.Lanes ++ ([l189] : List (List Int)), Now := l43 } : Picture) s185 s207 s11)) ((PictureR.put_Lanes (Put.here (vs := [Sl.v s207]) rfl)).off (by rfl)) (L' := (.own s201 22 1 (encs ([(LR.mk l189 s188)] : List (LR Int)))) :: (.own s175 3 1 (encs l176)) :: (.own s185 3 1 (encs (y159.Have ++ l176))) :: (.own s207 22 1 (encs (rs163 ++ ([(LR.mk l189 s188)] : List (LR Int))))) :: (.blk b139 (enc (PictureR.mk ({ y159 with Have := y159.Have ++ l176, Lanes := y159.Lanes ++ ([l189] : List (List Int)), Now := l43 } : Picture) s185 s207 s11)) 28) :: (.own s140 3 1 (encs l141)) :: (.own s142 22 1 (encs rs144)) :: (.own s147 3 1 (encs l148)) :: (.own s37 54 4 (encs l38)) :: (.blk b34 (enc s37) 52) :: (mitem b31 (fun x : Vector Int 2 => (.agg (enc x).toArray : Value)) (fun x : Int => (iv x : Value)) l40) :: (mitem b29 (fun x : Vector Int 2 => (.agg (enc x).toArray : Value)) (fun x : Int => (iv x : Value)) l41) :: (.blk b27 (enc s22) 22) :: (.own Sl.nil 3 1 (encs ([] : List Int))) :: (.own s22 3 1 (encs l42)) :: (.own s18 3 1 (encs ([(-1 : Int)] : List Int))) :: (.blk b16 (enc s11) 22) :: (.own Sl.nil 3 1 (encs ([] : List Int))) :: (.own s11 3 1 (encs l43)) :: (.blk b7 (enc (a0.length : Int)) 3) :: (.blk b5 (enc (PictureR.mk ({ Picture.zero with Have := ([] : List Int), Lanes := ([] : List (List Int)), Now := ([] : List Int) } : Picture) Sl.nil Sl.nil Sl.nil)) 28) :: (.own Sl.nil 3 1 (encs ([] : List Int))) :: (.own Sl.nil 22 1 (encs ([] : List (LR Int)))) :: (.own Sl.nil 3 1 (encs ([] : List Int))) :: L) rfl ?_
    refine Lst.nil ?_
    refine At.in_normal ?_
    refine At.then ?_
    refine Cd.region ?_
    refine Lst.r (Ev.incr (by omega) rfl rfl) ?_
    refine mv0 rfl ?_
    refine Lst.nil ?_
    refine At.less (L' := (.own s185 3 1 (encs (y159.Have ++ l176))) :: (.own s207 22 1 (encs (rs163 ++ ([(LR.mk l189 s188)] : List (LR Int))))) :: (.blk b139 (enc (PictureR.mk ({ y159 with Have := y159.Have ++ l176, Lanes := y159.Lanes ++ ([l189] : List (List Int)), Now := l43 } : Picture) s185 s207 s11)) 28) :: (.own s140 3 1 (encs l141)) :: (.own s142 22 1 (encs rs144)) :: (.own s147 3 1 (encs l148)) :: (.own s37 54 4 (encs l38)) :: (.blk b34 (enc s37) 52) :: (mitem b31 (fun x : Vector Int 2 => (.agg (enc x).toArray : Value)) (fun x : Int => (iv x : Value)) l40) :: (mitem b29 (fun x : Vector Int 2 => (.agg (enc x).toArray : Value)) (fun x : Int => (iv x : Value)) l41) :: (.blk b27 (enc s22) 22) :: (.own Sl.nil 3 1 (encs ([] : List Int))) :: (.own s22 3 1 (encs l42)) :: (.own s18 3 1 (encs ([(-1 : Int)] : List Int))) :: (.blk b16 (enc s11) 22) :: (.own Sl.nil 3 1 (encs ([] : List Int))) :: (.own s11 3 1 (encs l43)) :: (.blk b7 (enc (a0.length : Int)) 3) :: (.blk b5 (enc (PictureR.mk ({ Picture.zero with Have := ([] : List Int), Lanes := ([] : List (List Int)), Now := ([] : List Int) } : Picture) Sl.nil Sl.nil Sl.nil)) 28) :: (.own Sl.nil 3 1 (encs ([] : List Int))) :: (.own Sl.nil 22 1 (encs ([] : List (LR Int)))) :: (.own Sl.nil 3 1 (encs ([] : List Int))) :: L) (sc1 (sc1 (sk1 (sk1 (sk1 (sk1 (sk1 (sk1 (sk1 (sk1 (sk1 (sk1 (sk1 (sk1 (sk1 (sk1 (sk1 (sk1 (sk1 (sk1 (sk1 (sk1 (sk1 (sk1 (.refl _))))))))))))))))))))))))) ?_
    exact At.meet (i155 + 1, k155, ({ y159 with Have := y159.Have ++ l176, Lanes := y159.Lanes ++ ([l189] : List (List Int)), Now := l43 } : Picture), s185, s207, (rs163 ++ ([(LR.mk l189 s188)] : List (LR Int)))) (FLe.trans (FLe.trans (FLe.trans hF168 hF182) hF191) hF198) ⟨rfl, rfl, rfl, rfl, rfl, rfl, rfl, rfl, trivial⟩ rfl ⟨⟨hgo155 _ (some_inj H).symm, by omega, hm208, (All.monoLR ha209 fl (.refl _))⟩, Nat.lt_succ_self _⟩
   have hc187 : decide ((i187 : Int) < (a0.length : Int)) = true := decide_eq_true (by omega)
   obtain ⟨c187, H, hgo187⟩ := rangeF_go H
   unfold partref_Picture_B5 at H
   try dsimp only at H
   refine sr0 ?_
   refine Lst.r (Ev.lss rfl rfl) ?_
   refine nt0 ?_
   refine Cd.seq ?_
   refine Cd.condT rfl hc187 ?_
   refine Cd.skip ?_
   refine At.then ?_
   refine Cd.seq ?_
   refine Cd.block ?_
   refine sr0 ?_
   refine mv0 rfl ?_
   refine Lst.r (Ev.assign rfl) ?_
   refine nt0 ?_
   refine Cd.region ?_
   refine mv0 rfl ?_
   refine mv0 rfl ?_
   refine mv0 rfl ?_
   refine mv0 rfl ?_
   refine Lst.r (Ev.build (v := .agg (enc (#v[(i155 : Int), (i187 : Int)] : Vector Int 2)).toArray) (pv := [(0, iv (i155 : Int)), (1, iv (i187 : Int))]) ⟨rfl, rfl, ⟨rfl, rfl, trivial⟩⟩ (fun w => by kernel_rfl)) ?_
   refine Lst.r (Ev.lookup (i := 10) (kf := (fun x : Vector Int 2 => (.agg (enc x).toArray : Value))) (vf := (fun x : Int => (iv x : Value))) (m := l40) (k := (#v[(i155 : Int), (i187 : Int)] : Vector Int 2)) (z0 := (0 : Int)) rfl rfl rfl (KeyOk.ints Try.runUnderlying59 Try.runUnderlying3 Try.sizeOf3 Try.isAgg3 (fun x y w => eq59 x y w)) Try.runUnderlying51 Try.zeroValue3) ?_
   refine Lst.buildSlice (α := Int) (xs := ([(mget l40 (#v[(i155 : Int), (i187 : Int)] : Vector Int 2)).getD (0 : Int)] : List Int)) (pv := [(0, iv ((mget l40 (#v[(i155 : Int), (i187 : Int)] : Vector Int 2)).getD (0 : Int)))]) rfl rfl (by decide) ⟨rfl, rfl, trivial⟩ (run_buildSlice (α := Int) (z0 := (0 : Int)) (xs := ([(mget l40 (#v[(i155 : Int), (i187 : Int)] : Vector Int 2)).getD (0 : Int)] : List Int)) Try.runUnderlying22 Try.sizeOf3 Try.zeroValue3 rfl rfl rfl (by decide) rfl (fill_cons (cs := encs (List.replicate 1 (0 : Int))) (cs' := encs ((List.replicate 1 (0 : Int)).set 0 ((mget l40 (#v[(i155 : Int), (i187 : Int)] : Vector Int 2)).getD (0 : Int)))) (vs := [iv ((mget l40 (#v[(i155 : Int), (i187 : Int)] : Vector Int 2)).getD (0 : Int))]) rfl rfl rfl ((Put.elemN (s := 1) (i := 0) (x := (0 : Int)) (y := ((mget l40 (#v[(i155 : Int), (i187 : Int)] : Vector Int 2)).getD (0 : Int))) rfl rfl (Put.here (vs := [iv ((mget l40 (#v[(i155 : Int), (i187 : Int)] : Vector Int 2)).getD (0 : Int))]) rfl)).off rfl) fill_nil)) rfl rfl (by decide) (fun s192 _ => ?_)
   obtain ⟨u194, h195, H⟩ := bind_some H
   refine Lst.append (i := 1) (α := Int) (xs := l189) (ys := ([(mget l40 (#v[(i155 : Int), (i187 : Int)] : Vector Int 2)).getD (0 : Int)] : List Int)) rfl rfl (by decide) rfl rfl Try.runUnderlying22 Try.typeInfo3 rfl rfl rfl rfl rfl rfl (rdo 0 rfl rfl rfl) rfl (room_some h195) rfl (fun s196 => ?_)
   refine Lst.its (L' := (.own s192 3 1 (encs ([(mget l40 (#v[(i155 : Int), (i187 : Int)] : Vector Int 2)).getD (0 : Int)] : List Int))) :: (.own s196 3 1 (encs (l189 ++ ([(mget l40 (#v[(i155 : Int), (i187 : Int)] : Vector Int 2)).getD (0 : Int)] : List Int)))) :: (.own s175 3 1 (encs l176)) :: (.own s185 3 1 (encs (y159.Have ++ l176))) :: (.own s162 22 1 (encs rs163)) :: (.blk b139 (enc (PictureR.mk ({ y159 with Have := y159.Have ++ l176, Now := l43 } : Picture) s185 s162 s11)) 28) :: (.own s140 3 1 (encs l141)) :: (.own s142 22 1 (encs rs144)) :: (.own s147 3 1 (encs l148)) :: (.own s37 54 4 (encs l38)) :: (.blk b34 (enc s37) 52) :: (mitem b31 (fun x : Vector Int 2 => (.agg (enc x).toArray : Value)) (fun x : Int => (iv x : Value)) l40) :: (mitem b29 (fun x : Vector Int 2 => (.agg (enc x).toArray : Value)) (fun x : Int => (iv x : Value)) l41) :: (.blk b27 (enc s22) 22) :: (.own Sl.nil 3 1 (encs ([] : List Int))) :: (.own s22 3 1 (encs l42)) :: (.own s18 3 1 (encs ([(-1 : Int)] : List Int))) :: (.blk b16 (enc s11) 22) :: (.own Sl.nil 3 1 (encs ([] : List Int))) :: (.own s11 3 1 (encs l43)) :: (.blk b7 (enc (a0.length : Int)) 3) :: (.blk b5 (enc (PictureR.mk ({ Picture.zero with Have := ([] : List Int), Lanes := ([] : List (List Int)), Now := ([] : List Int) } : Picture) Sl.nil Sl.nil Sl.nil)) 28) :: (.own Sl.nil 3 1 (encs ([] : List Int))) :: (.own Sl.nil 22 1 (encs ([] : List (LR Int)))) :: (.own Sl.nil 3 1 (encs ([] : List Int))) :: L) rfl ?_
   refine Lst.r (Ev.assign rfl) ?_
   refine Lst.nil ?_
   refine At.in_normal ?_
   refine At.then ?_
   refine Cd.region ?_
   refine Lst.r (Ev.incr (by omega) rfl rfl) ?_
   refine mv0 rfl ?_
   refine Lst.nil ?_
   refine At.less (L' := (.own s196 3 1 (encs (l189 ++ ([(mget l40 (#v[(i155 : Int), (i187 : Int)] : Vector Int 2)).getD (0 : Int)] : List Int)))) :: (.own s175 3 1 (encs l176)) :: (.own s185 3 1 (encs (y159.Have ++ l176))) :: (.own s162 22 1 (encs rs163)) :: (.blk b139 (enc (PictureR.mk ({ y159 with Have := y159.Have ++ l176, Now := l43 } : Picture) s185 s162 s11)) 28) :: (.own s140 3 1 (encs l141)) :: (.own s142 22 1 (encs rs144)) :: (.own s147 3 1 (encs l148)) :: (.own s37 54 4 (encs l38)) :: (.blk b34 (enc s37) 52) :: (mitem b31 (fun x : Vector Int 2 => (.agg (enc x).toArray : Value)) (fun x : Int => (iv x : Value)) l40) :: (mitem b29 (fun x : Vector Int 2 => (.agg (enc x).toArray : Value)) (fun x : Int => (iv x : Value)) l41) :: (.blk b27 (enc s22) 22) :: (.own Sl.nil 3 1 (encs ([] : List Int))) :: (.own s22 3 1 (encs l42)) :: (.own s18 3 1 (encs ([(-1 : Int)] : List Int))) :: (.blk b16 (enc s11) 22) :: (.own Sl.nil 3 1 (encs ([] : List Int))) :: (.own s11 3 1 (encs l43)) :: (.blk b7 (enc (a0.length : Int)) 3) :: (.blk b5 (enc (PictureR.mk ({ Picture.zero with Have := ([] : List Int), Lanes := ([] : List (List Int)), Now := ([] : List Int) } : Picture) Sl.nil Sl.nil Sl.nil)) 28) :: (.own Sl.nil 3 1 (encs ([] : List Int))) :: (.own Sl.nil 22 1 (encs ([] : List (LR Int)))) :: (.own Sl.nil 3 1 (encs ([] : List Int))) :: L) (sc1 (sk1 (sk1 (sk1 (sk1 (sk1 (sk1 (sk1 (sk1 (sk1 (sk1 (sk1 (sk1 (sk1 (sk1 (sk1 (sk1 (sk1 (sk1 (sk1 (sk1 (sk1 (sk1 (sk1 (sk1 (.refl _)))))))))))))))))))))))))) ?_
   exact At.meet (i187 + 1, k187, s196, l189 ++ ([(mget l40 (#v[(i155 : Int), (i187 : Int)] : Vector Int 2)).getD (0 : Int)] : List Int)) hF191 ⟨rfl, rfl, rfl, rfl, rfl, rfl, rfl, rfl, rfl, rfl, rfl, rfl, trivial⟩ rfl ⟨⟨hgo187 _ (some_inj H).symm, by omega⟩, Nat.lt_succ_self _⟩
  replace H := ite_t hb131 H
  obtain ⟨r224, h225, H⟩ := bind_some H
  obtain ⟨o245, h246, H⟩ := Let_some H
  refine Cd.headMeet (σ := Nat × Sl × (List Int) × Sl × (List (List Int)) × (List (LR Int)) × Sl × (List Int)) 15 (fun (b235, s236, l237, s238, l239, rs240, s243, l244) => [(4, pv b5 0), (5, pv b7 0), (7, pv b27 0), (9, .map (some b31)), (10, pv b34 0), (17, pv b235 0), (148, .agg (enc (PictureR.mk ({ Picture.zero with Whole := !r224, Now := l43 } : Picture) Sl.nil Sl.nil s11)).toArray)]) (fun (b235, s236, l237, s238, l239, rs240, s243, l244) => (.blk b235 (enc (PictureR.mk ({ Picture.zero with Have := l244, Lanes := l239, Now := l237 } : Picture) s243 s238 s236)) 28) :: (.own s236 3 1 (encs l237)) :: (.own s238 22 1 (encs rs240)) :: (.own s243 3 1 (encs l244)) :: (.own s37 54 4 (encs l38)) :: (.blk b34 (enc s37) 52) :: (mitem b31 (fun x : Vector Int 2 => (.agg (enc x).toArray : Value)) (fun x : Int => (iv x : Value)) l40) :: (mitem b29 (fun x : Vector Int 2 => (.agg (enc x).toArray : Value)) (fun x : Int => (iv x : Value)) l41) :: (.blk b27 (enc s22) 22) :: (.own Sl.nil 3 1 (encs ([] : List Int))) :: (.own s22 3 1 (encs l42)) :: (.own s18 3 1 (encs ([(-1 : Int)] : List Int))) :: (.blk b16 (enc s11) 22) :: (.own Sl.nil 3 1 (encs ([] : List Int))) :: (.own s11 3 1 (encs l43)) :: (.blk b7 (enc (a0.length : Int)) 3) :: (.blk b5 (enc (PictureR.mk ({ Picture.zero with Have := ([] : List Int), Lanes := ([] : List (List Int)), Now := ([] : List Int) } : Picture) Sl.nil Sl.nil Sl.nil)) 28) :: (.own Sl.nil 3 1 (encs ([] : List Int))) :: (.own Sl.nil 22 1 (encs ([] : List (LR Int)))) :: (.own Sl.nil 3 1 (encs ([] : List Int))) :: L) (fun Fx (b235, s236, l237, s238, l239, rs240, s243, l244) => (l237, l239, l244) = o245 ∧ rs240.map LR.v = l239 ∧ All LR.rel w0 Fx M rs240) (by kernel_rfl) (by kernel_rfl) (behind_sink (by kernel_rfl) (by kernel_rfl) (by kernel_rfl)) (by kernel_rfl) (fun hsel hlt => ?_) ?_
  ·refine HdJ.keep (fun w => St w0 F44 ((.own s37 54 4 (encs l38)) :: (.blk b34 (enc s37) 52) :: (mitem b31 (fun x : Vector Int 2 => (.agg (enc x).toArray : Value)) (fun x : Int => (iv x : Value)) l40) :: (mitem b29 (fun x : Vector Int 2 => (.agg (enc x).toArray : Value)) (fun x : Int => (iv x : Value)) l41) :: (.blk b27 (enc s22) 22) :: (.own Sl.nil 3 1 (encs ([] : List Int))) :: (.own s22 3 1 (encs l42)) :: (.own s18 3 1 (encs ([(-1 : Int)] : List Int))) :: (.blk b16 (enc s11) 22) :: (.own Sl.nil 3 1 (encs ([] : List Int))) :: (.own s11 3 1 (encs l43)) :: (.blk b7 (enc (a0.length : Int)) 3) :: (.blk b5 (enc (PictureR.mk ({ Picture.zero with Have := ([] : List Int), Lanes := ([] : List (List Int)), Now := ([] : List Int) } : Picture) Sl.nil Sl.nil Sl.nil)) 28) :: (.own Sl.nil 3 1 (encs ([] : List Int))) :: (.own Sl.nil 22 1 (encs ([] : List (LR Int)))) :: (.own Sl.nil 3 1 (encs ([] : List Int))) :: L) w) (fun w h => trivial) ?_
   refine HdJ.ts hsel hlt 0 (sk1 (sk1 (sk1 (sk1 (sk1 (sk1 (sk1 (sk1 (sk1 (sk1 (sk1 (sk1 (sk1 (sk1 (sk1 (sk1 (.refl _))))))))))))))))) rfl (Ev.move rfl) ?_
   refine HdJ.ts hsel hlt 1 (sk1 (sk1 (sk1 (sk1 (sk1 (sk1 (sk1 (sk1 (sk1 (sk1 (sk1 (sk1 (sk1 (sk1 (sk1 (sk1 (.refl _))))))))))))))))) rfl (Ev.lenMap (i := 3) (kf := (fun x : Vector Int 2 => (.agg (enc x).toArray : Value))) (vf := (fun x : Int => (iv x : Value))) (m := l41) rfl rfl rfl Try.runUnderlying51) ?_
   refine HdJ.ts hsel hlt 2 (sk1 (sk1 (sk1 (sk1 (sk1 (sk1 (sk1 (sk1 (sk1 (sk1 (sk1 (sk1 (sk1 (sk1 (sk1 (sk1 (.refl _))))))))))))))))) rfl (Ev.load (i := 11) rfl rfl Try.isAgg3 (v := iv (a0.length : Int)) gh0) ?_
   refine HdJ.ts hsel hlt 3 (sk1 (sk1 (sk1 (sk1 (sk1 (sk1 (sk1 (sk1 (sk1 (sk1 (sk1 (sk1 (sk1 (sk1 (sk1 (sk1 (.refl _))))))))))))))))) rfl (Ev.load (i := 11) rfl rfl Try.isAgg3 (v := iv (a0.length : Int)) gh0) ?_
   refine HdJ.ts hsel hlt 4 (sk1 (sk1 (sk1 (sk1 (sk1 (sk1 (sk1 (sk1 (sk1 (sk1 (sk1 (sk1 (sk1 (sk1 (sk1 (sk1 (.refl _))))))))))))))))) rfl (Ev.sub rfl rfl) ?_
   refine HdJ.ts hsel hlt 5 (sk1 (sk1 (sk1 (sk1 (sk1 (sk1 (sk1 (sk1 (sk1 (sk1 (sk1 (sk1 (sk1 (sk1 (sk1 (sk1 (.refl _))))))))))))))))) rfl (Ev.mul rfl rfl) ?_
   refine HdJ.ts hsel hlt 6 (sk1 (sk1 (sk1 (sk1 (sk1 (sk1 (sk1 (sk1 (sk1 (sk1 (sk1 (sk1 (sk1 (sk1 (sk1 (sk1 (.refl _))))))))))))))))) rfl (Ev.eql rfl rfl) ?_
   refine HdJ.ts hsel hlt 7 (sk1 (sk1 (sk1 (sk1 (sk1 (sk1 (sk1 (sk1 (sk1 (sk1 (sk1 (sk1 (sk1 (sk1 (sk1 (sk1 (.refl _))))))))))))))))) rfl (Ev.move rfl) ?_
   refine HdJ.takeG (i := 8) (Lp := (.own s37 54 4 (encs l38)) :: (.blk b34 (enc s37) 52) :: (mitem b31 (fun x : Vector Int 2 => (.agg (enc x).toArray : Value)) (fun x : Int => (iv x : Value)) l40) :: (mitem b29 (fun x : Vector Int 2 => (.agg (enc x).toArray : Value)) (fun x : Int => (iv x : Value)) l41) :: (.blk b27 (enc s22) 22) :: (.own Sl.nil 3 1 (encs ([] : List Int))) :: (.own s22 3 1 (encs l42)) :: (.own s18 3 1 (encs ([(-1 : Int)] : List Int))) :: (.blk b16 (enc s11) 22) :: (.own Sl.nil 3 1 (encs ([] : List Int))) :: (.own s11 3 1 (encs l43)) :: (.blk b7 (enc (a0.length : Int)) 3) :: (.blk b5 (enc (PictureR.mk ({ Picture.zero with Have := ([] : List Int), Lanes := ([] : List (List Int)), Now := ([] : List Int) } : Picture) Sl.nil Sl.nil Sl.nil)) 28) :: (.own Sl.nil 3 1 (encs ([] : List Int))) :: (.own Sl.nil 22 1 (encs ([] : List (LR Int)))) :: (.own Sl.nil 3 1 (encs ([] : List Int))) :: L) (Fp := F44) rfl rfl (by decide) hsel hlt (by decide) (by kernel_rfl) (by kernel_rfl) (fun w h => h.sublist (sk1 (sk1 (sk1 (sk1 (sk1 (sk1 (sk1 (sk1 (sk1 (sk1 (sk1 (sk1 (sk1 (sk1 (sk1 (sk1 (.refl _)))))))))))))))))) rfl rfl rfl hb131 (fun w h => h) (Ev.load (i := 4) rfl rfl Try.isAgg22 (v := Sl.v s22) gh0) ?_
   refine HdJ.ts hsel hlt 12 (sk1 (sk1 (sk1 (sk1 (sk1 (sk1 (sk1 (sk1 (sk1 (sk1 (sk1 (sk1 (sk1 (sk1 (sk1 (sk1 (.refl _))))))))))))))))) rfl (Ev.load (i := 8) rfl rfl Try.isAgg22 (v := Sl.v s11) gh0) ?_
   refine HdJ.step [9, 14] (by kernel_rfl) rfl ?_
   refine HdStep.c (fun inv => ?_) ?_
   ·refine Lst.call1G rfl rfl rfl hb131 rfl (by decide) (vs := [Sl.v s22, iv (-1 : Int)]) ⟨rfl, rfl, trivial⟩ Try.call22 (slices_Contains_int_int_sim h225 w0 _ _ _ (.refl _) (rdo 6 rfl rfl rfl)) ?_
    refine hds inv (sk1 (sk1 (sk1 (sk1 (sk1 (sk1 (sk1 (sk1 (sk1 (sk1 (sk1 (sk1 (sk1 (sk1 (sk1 (sk1 (.refl _))))))))))))))))) ?_
    refine HdJ.takeG (i := 10) (Lp := (.own s37 54 4 (encs l38)) :: (.blk b34 (enc s37) 52) :: (mitem b31 (fun x : Vector Int 2 => (.agg (enc x).toArray : Value)) (fun x : Int => (iv x : Value)) l40) :: (mitem b29 (fun x : Vector Int 2 => (.agg (enc x).toArray : Value)) (fun x : Int => (iv x : Value)) l41) :: (.blk b27 (enc s22) 22) :: (.own Sl.nil 3 1 (encs ([] : List Int))) :: (.own s22 3 1 (encs l42)) :: (.own s18 3 1 (encs ([(-1 : Int)] : List Int))) :: (.blk b16 (enc s11) 22) :: (.own Sl.nil 3 1 (encs ([] : List Int))) :: (.own s11 3 1 (encs l43)) :: (.blk b7 (enc (a0.length : Int)) 3) :: (.blk b5 (enc (PictureR.mk ({ Picture.zero with Have := ([] : List Int), Lanes := ([] : List (List Int)), Now := ([] : List Int) } : Picture) Sl.nil Sl.nil Sl.nil)) 28) :: (.own Sl.nil 3 1 (encs ([] : List Int))) :: (.own Sl.nil 22 1 (encs ([] : List (LR Int)))) :: (.own Sl.nil 3 1 (encs ([] : List Int))) :: L) (Fp := F44) rfl rfl (by decide) hsel hlt (by decide) (by kernel_rfl) (by kernel_rfl) (fun w h => h.sublist (sk1 (sk1 (sk1 (sk1 (sk1 (sk1 (sk1 (sk1 (sk1 (sk1 (sk1 (sk1 (sk1 (sk1 (sk1 (sk1 (.refl _)))))))))))))))))) rfl rfl rfl hb131 (fun w h => h) (Ev.not rfl) ?_
    refine HdJ.ts hsel hlt 11 (sk1 (sk1 (sk1 (sk1 (sk1 (sk1 (sk1 (sk1 (sk1 (sk1 (sk1 (sk1 (sk1 (sk1 (sk1 (sk1 (.refl _))))))))))))))))) rfl (Ev.pickT rfl hb131 rfl) ?_
    refine HdJ.ts hsel hlt 13 (sk1 (sk1 (sk1 (sk1 (sk1 (sk1 (sk1 (sk1 (sk1 (sk1 (sk1 (sk1 (sk1 (sk1 (sk1 (sk1 (.refl _))))))))))))))))) rfl (Ev.build (v := .agg (enc (PictureR.mk ({ Picture.zero with Whole := !r224, Now := l43 } : Picture) Sl.nil Sl.nil s11)).toArray) (pv := [(2, .bool (!r224)), (3, Sl.v s11)]) ⟨rfl, rfl, ⟨rfl, rfl, trivial⟩⟩ (run_buildStruct (places := #[(0, 1), (1, 1), (2, 1), (3, 1), (4, 1)]) Try.zeroValue28 (zs := enc (PictureR.mk Picture.zero Sl.nil Sl.nil Sl.nil)) rfl Try.runUnderlying28 (fun w => by kernel_rfl) (fill_cons (cs := enc (PictureR.mk Picture.zero Sl.nil Sl.nil Sl.nil)) (cs' := enc (PictureR.mk ({ Picture.zero with Whole := !r224 } : Picture) Sl.nil Sl.nil Sl.nil)) (vs := [.bool (!r224)]) rfl rfl rfl ((PictureR.put_Whole (p := (PictureR.mk Picture.zero Sl.nil Sl.nil Sl.nil)) (y := (!r224)) (Put.here (vs := [.bool (!r224)]) rfl)).off rfl) (fill_cons (cs := enc (PictureR.mk ({ Picture.zero with Whole := !r224 } : Picture) Sl.nil Sl.nil Sl.nil)) (cs' := enc (PictureR.mk ({ Picture.zero with Whole := !r224, Now := l43 } : Picture) Sl.nil Sl.nil s11)) (vs := [Sl.v s11]) rfl rfl rfl ((PictureR.put_Now (p := (PictureR.mk ({ Picture.zero with Whole := !r224 } : Picture) Sl.nil Sl.nil Sl.nil)) (y := s11) (Put.here (vs := [Sl.v s11]) rfl)).off rfl) fill_nil)))) ?_
    refine HdJ.o1 14 (fun inv => ?_)
    refine Lst.addNil 3 1 ?_
    have ha249 : All LR.rel w0 F44 [] ([] : List (LR Int)) := All.nil
    have ha249m : List.map LR.v ([] : List (LR Int)) = ([] : List (List Int)) := rfl
    refine Lst.addNil 22 1 ?_
    refine Lst.addNil 3 1 ?_
    refine Lst.alloc (cs := enc (PictureR.mk ({ Picture.zero with Have := ([] : List Int), Lanes := ([] : List (List Int)), Now := ([] : List Int) } : Picture) Sl.nil Sl.nil Sl.nil)) rfl rfl (by decide) Try.zeroValue28 rfl (fun b250 => ?_)
    refine hds inv (sc1 (sc1 (sc1 (sc1 (sk1 (sk1 (sk1 (sk1 (sk1 (sk1 (sk1 (sk1 (sk1 (sk1 (sk1 (sk1 (sk1 (sk1 (sk1 (sk1 (.refl _))))))))))))))))))))) ?_
    refine HdJ.done (by kernel_rfl) ?_
    exact At.meetN (b250, Sl.nil, ([] : List Int), Sl.nil, ([] : List (List Int)), ([] : List (LR Int)), Sl.nil, ([] : List Int)) fl ⟨rfl, rfl, rfl, rfl, rfl, rfl, rfl, trivial⟩ rfl ⟨h246, ha249m, (All.monoLR ha249 fl (List.nil_sublist _))⟩
   refine HdStep.c (fun inv => ?_) trivial
   refine Lst.addNil 3 1 ?_
   have ha251 : All LR.rel w0 F44 [] ([] : List (LR Int)) := All.nil
   have ha251m : List.map LR.v ([] : List (LR Int)) = ([] : List (List Int)) := rfl
   refine Lst.addNil 22 1 ?_
   refine Lst.addNil 3 1 ?_
   refine Lst.alloc (cs := enc (PictureR.mk ({ Picture.zero with Have := ([] : List Int), Lanes := ([] : List (List Int)), Now := ([] : List Int) } : Picture) Sl.nil Sl.nil Sl.nil)) rfl rfl (by decide) Try.zeroValue28 rfl (fun b252 => ?_)
   refine hds inv (sc1 (sc1 (sc1 (sc1 (sk1 (sk1 (sk1 (sk1 (sk1 (sk1 (sk1 (sk1 (sk1 (sk1 (sk1 (sk1 (sk1 (sk1 (sk1 (sk1 (.refl _))))))))))))))))))))) ?_
   refine HdJ.o1 9 (fun inv => ?_)
   refine Lst.call1G rfl rfl rfl hb131 rfl (by decide) (vs := [Sl.v s22, iv (-1 : Int)]) ⟨rfl, rfl, trivial⟩ Try.call22 (slices_Contains_int_int_sim h225 w0 _ _ _ (.refl _) (rdo 10 rfl rfl rfl)) ?_
   refine hds inv (sc1 (sc1 (sc1 (sc1 (sk1 (sk1 (sk1 (sk1 (sk1 (sk1 (sk1 (sk1 (sk1 (sk1 (sk1 (sk1 (sk1 (sk1 (sk1 (sk1 (.refl _))))))))))))))))))))) ?_
   refine HdJ.keep (fun w => St w0 F44 ((.blk b252 (enc (PictureR.mk ({ Picture.zero with Have := ([] : List Int), Lanes := ([] : List (List Int)), Now := ([] : List Int) } : Picture) Sl.nil Sl.nil Sl.nil)) 28) :: (.own Sl.nil 3 1 (encs ([] : List Int))) :: (.own Sl.nil 22 1 (encs ([] : List (LR Int)))) :: (.own Sl.nil 3 1 (encs ([] : List Int))) :: (.own s37 54 4 (encs l38)) :: (.blk b34 (enc s37) 52) :: (mitem b31 (fun x : Vector Int 2 => (.agg (enc x).toArray : Value)) (fun x : Int => (iv x : Value)) l40) :: (mitem b29 (fun x : Vector Int 2 => (.agg (enc x).toArray : Value)) (fun x : Int => (iv x : Value)) l41) :: (.blk b27 (enc s22) 22) :: (.own Sl.nil 3 1 (encs ([] : List Int))) :: (.own s22 3 1 (encs l42)) :: (.own s18 3 1 (encs ([(-1 : Int)] : List Int))) :: (.blk b16 (enc s11) 22) :: (.own Sl.nil 3 1 (encs ([] : List Int))) :: (.own s11 3 1 (encs l43)) :: (.blk b7 (enc (a0.length : Int)) 3) :: (.blk b5 (enc (PictureR.mk ({ Picture.zero with Have := ([] : List Int), Lanes := ([] : List (List Int)), Now := ([] : List Int) } : Picture) Sl.nil Sl.nil Sl.nil)) 28) :: (.own Sl.nil 3 1 (encs ([] : List Int))) :: (.own Sl.nil 22 1 (encs ([] : List (LR Int)))) :: (.own Sl.nil 3 1 (encs ([] : List Int))) :: L) w) (fun w h => (h.weaken fl).sublist (sc1 (sc1 (sc1 (sc1 (sk1 (sk1 (sk1 (sk1 (sk1 (sk1 (sk1 (sk1 (sk1 (sk1 (sk1 (sk1 (sk1 (sk1 (sk1 (sk1 (.refl _)))))))))))))))))))))) ?_
   refine HdJ.takeG (i := 10) (Lp := (.blk b252 (enc (PictureR.mk ({ Picture.zero with Have := ([] : List Int), Lanes := ([] : List (List Int)), Now := ([] : List Int) } : Picture) Sl.nil Sl.nil Sl.nil)) 28) :: (.own Sl.nil 3 1 (encs ([] : List Int))) :: (.own Sl.nil 22 1 (encs ([] : List (LR Int)))) :: (.own Sl.nil 3 1 (encs ([] : List Int))) :: (.own s37 54 4 (encs l38)) :: (.blk b34 (enc s37) 52) :: (mitem b31 (fun x : Vector Int 2 => (.agg (enc x).toArray : Value)) (fun x : Int => (iv x : Value)) l40) :: (mitem b29 (fun x : Vector Int 2 => (.agg (enc x).toArray : Value)) (fun x : Int => (iv x : Value)) l41) :: (.blk b27 (enc s22) 22) :: (.own Sl.nil 3 1 (encs ([] : List Int))) :: (.own s22 3 1 (encs l42)) :: (.own s18 3 1 (encs ([(-1 : Int)] : List Int))) :: (.blk b16 (enc s11) 22) :: (.own Sl.nil 3 1 (encs ([] : List Int))) :: (.own s11 3 1 (encs l43)) :: (.blk b7 (enc (a0.length : Int)) 3) :: (.blk b5 (enc (PictureR.mk ({ Picture.zero with Have := ([] : List Int), Lanes := ([] : List (List Int)), Now := ([] : List Int) } : Picture) Sl.nil Sl.nil Sl.nil)) 28) :: (.own Sl.nil 3 1 (encs ([] : List Int))) :: (.own Sl.nil 22 1 (encs ([] : List (LR Int)))) :: (.own Sl.nil 3 1 (encs ([] : List Int))) :: L) (Fp := F44) rfl rfl (by decide) hsel hlt (by decide) (by kernel_rfl) (by kernel_rfl) (fun w h => h.sublist (sk1 (sk1 (sk1 (sk1 (sk1 (sk1 (sk1 (sk1 (sk1 (sk1 (sk1 (sk1 (sk1 (sk1 (sk1 (sk1 (sk1 (sk1 (sk1 (sk1 (.refl _)))))))))))))))))))))) rfl rfl rfl hb131 (fun w h => h) (Ev.not rfl) ?_
   refine HdJ.ts hsel hlt 11 (sk1 (sk1 (sk1 (sk1 (sk1 (sk1 (sk1 (sk1 (sk1 (sk1 (sk1 (sk1 (sk1 (sk1 (sk1 (sk1 (sk1 (sk1 (sk1 (sk1 (.refl _))))))))))))))))))))) rfl (Ev.pickT rfl hb131 rfl) ?_
   refine HdJ.ts hsel hlt 13 (sk1 (sk1 (sk1 (sk1 (sk1 (sk1 (sk1 (sk1 (sk1 (sk1 (sk1 (sk1 (sk1 (sk1 (sk1 (sk1 (sk1 (sk1 (sk1 (sk1 (.refl _))))))))))))))))))))) rfl (Ev.build (v := .agg (enc (PictureR.mk ({ Picture.zero with Whole := !r224, Now := l43 } : Picture) Sl.nil Sl.nil s11)).toArray) (pv := [(2, .bool (!r224)), (3, Sl.v s11)]) ⟨rfl, rfl, ⟨rfl, rfl, trivial⟩⟩ (run_buildStruct (places := #[(0, 1), (1, 1), (2, 1), (3, 1), (4, 1)]) Try.zeroValue28 (zs := enc (PictureR.mk Picture.zero Sl.nil Sl.nil Sl.nil)) rfl Try.runUnderlying28 (fun w => by kernel_rfl) (fill_cons (cs := enc (PictureR.mk Picture.zero Sl.nil Sl.nil Sl.nil)) (cs' := enc (PictureR.mk ({ Picture.zero with Whole := !r224 } : Picture) Sl.nil Sl.nil Sl.nil)) (vs := [.bool (!r224)]) rfl rfl rfl ((PictureR.put_Whole (p := (PictureR.mk Picture.zero Sl.nil Sl.nil Sl.nil)) (y := (!r224)) (Put.here (vs := [.bool (!r224)]) rfl)).off rfl) (fill_cons (cs := enc (PictureR.mk ({ Picture.zero with Whole := !r224 } : Picture) Sl.nil Sl.nil Sl.nil)) (cs' := enc (PictureR.mk ({ Picture.zero with Whole := !r224, Now := l43 } : Picture) Sl.nil Sl.nil s11)) (vs := [Sl.v s11]) rfl rfl rfl ((PictureR.put_Now (p := (PictureR.mk ({ Picture.zero with Whole := !r224 } : Picture) Sl.nil Sl.nil Sl.nil)) (y := s11) (Put.here (vs := [Sl.v s11]) rfl)).off rfl) fill_nil)))) ?_
   refine HdJ.done (by kernel_rfl) ?_
   exact At.meetN (b252, Sl.nil, ([] : List Int), Sl.nil, ([] : List (List Int)), ([] : List (LR Int)), Sl.nil, ([] : List Int)) fl ⟨rfl, rfl, rfl, rfl, rfl, rfl, rfl, trivial⟩ rfl ⟨h246, ha251m, (All.monoLR ha251 fl (List.nil_sublist _))⟩
  rintro F255 ⟨b235, s236, l237, s238, l239, rs240, s243, l244⟩ hF256 ⟨hy, fm241, fa242⟩
  subst hy
  try dsimp only at H
  refine Lst.as (e' := [(4, pv b5 0), (5, pv b7 0), (7, pv b27 0), (9, .map (some b31)), (10, pv b34 0), (17, pv b235 0), (148, .agg (enc (PictureR.mk ({ Picture.zero with Whole := !r224, Now := l43 } : Picture) Sl.nil Sl.nil s11)).toArray)]) (L' := (.blk b235 (enc (PictureR.mk ({ Picture.zero with Have := l244, Lanes := l239, Now := l237 } : Picture) s243 s238 s236)) 28) :: (.own s236 3 1 (encs l237)) :: (.own s238 22 1 (encs rs240)) :: (.own s243 3 1 (encs l244)) :: (.own s37 54 4 (encs l38)) :: (.blk b34 (enc s37) 52) :: (mitem b31 (fun x : Vector Int 2 => (.agg (enc x).toArray : Value)) (fun x : Int => (iv x : Value)) l40) :: (mitem b29 (fun x : Vector Int 2 => (.agg (enc x).toArray : Value)) (fun x : Int => (iv x : Value)) l41) :: (.blk b27 (enc s22) 22) :: (.own Sl.nil 3 1 (encs ([] : List Int))) :: (.own s22 3 1 (encs l42)) :: (.own s18 3 1 (encs ([(-1 : Int)] : List Int))) :: (.blk b16 (enc s11) 22) :: (.own Sl.nil 3 1 (encs ([] : List Int))) :: (.own s11 3 1 (encs l43)) :: (.blk b7 (enc (a0.length : Int)) 3) :: (.blk b5 (enc (PictureR.mk ({ Picture.zero with Have := ([] : List Int), Lanes := ([] : List (List Int)), Now := ([] : List Int) } : Picture) Sl.nil Sl.nil Sl.nil)) 28) :: (.own Sl.nil 3 1 (encs ([] : List Int))) :: (.own Sl.nil 22 1 (encs ([] : List (LR Int)))) :: (.own Sl.nil 3 1 (encs ([] : List Int))) :: L) ⟨rfl, rfl, rfl, rfl, rfl, rfl, rfl, trivial⟩ rfl ?_
  refine Lst.store (i := 0) rfl rfl rfl rfl rfl Try.sizeOf28 (vs := enc (PictureR.mk ({ Picture.zero with Whole := !r224, Now := l43 } : Picture) Sl.nil Sl.nil s11)) rfl (Enc.len _) (Enc.one _) (cs' := enc (PictureR.mk ({ Picture.zero with Whole := !r224, Now := l43 } : Picture) Sl.nil Sl.nil s11)) (Put.here ((Enc.len _).trans (Enc.len _).symm)) (L' := (.blk b235 (enc (PictureR.mk ({ Picture.zero with Whole := !r224, Now := l43 } : Picture) Sl.nil Sl.nil s11)) 28) :: (.own s236 3 1 (encs l237)) :: (.own s238 22 1 (encs rs240)) :: (.own s243 3 1 (encs l244)) :: (.own s37 54 4 (encs l38)) :: (.blk b34 (enc s37) 52) :: (mitem b31 (fun x : Vector Int 2 => (.agg (enc x).toArray : Value)) (fun x : Int => (iv x : Value)) l40) :: (mitem b29 (fun x : Vector Int 2 => (.agg (enc x).toArray : Value)) (fun x : Int => (iv x : Value)) l41) :: (.blk b27 (enc s22) 22) :: (.own Sl.nil 3 1 (encs ([] : List Int))) :: (.own s22 3 1 (encs l42)) :: (.own s18 3 1 (encs ([(-1 : Int)] : List Int))) :: (.blk b16 (enc s11) 22) :: (.own Sl.nil 3 1 (encs ([] : List Int))) :: (.own s11 3 1 (encs l43)) :: (.blk b7 (enc (a0.length : Int)) 3) :: (.blk b5 (enc (PictureR.mk ({ Picture.zero with Have := ([] : List Int), Lanes := ([] : List (List Int)), Now := ([] : List Int) } : Picture) Sl.nil Sl.nil Sl.nil)) 28) :: (.own Sl.nil 3 1 (encs ([] : List Int))) :: (.own Sl.nil 22 1 (encs ([] : List (LR Int)))) :: (.own Sl.nil 3 1 (encs ([] : List Int))) :: L) rfl ?_
  refine nt0 ?_
  refine Cd.seq ?_
  refine sr0 ?_
  refine Lst.r (Ev.load (i := 15) rfl rfl Try.isAgg3 (v := iv (a0.length : Int)) gh0) ?_
  refine mv0 rfl ?_
  refine nt0 ?_
  refine Cd.block ?_
  refine Cd.addNil 3 1 ?_
  have ha260 : All LR.rel w0 F255 [] ([] : List (LR Int)) := All.nil
  have ha260m : List.map LR.v ([] : List (LR Int)) = ([] : List (List Int)) := rfl
  refine Cd.addNil 22 1 ?_
  refine Cd.front (i := 1) rfl (L' := (.own Sl.nil 3 1 (encs ([] : List Int))) :: (.own Sl.nil 22 1 (encs ([] : List (LR Int)))) :: (.blk b235 (enc (PictureR.mk ({ Picture.zero with Have := ([] : List Int), Lanes := ([] : List (List Int)), Whole := !r224, Now := l43 } : Picture) Sl.nil Sl.nil s11)) 28) :: (.own s236 3 1 (encs l237)) :: (.own s238 22 1 (encs rs240)) :: (.own s243 3 1 (encs l244)) :: (.own s37 54 4 (encs l38)) :: (.blk b34 (enc s37) 52) :: (mitem b31 (fun x : Vector Int 2 => (.agg (enc x).toArray : Value)) (fun x : Int => (iv x : Value)) l40) :: (mitem b29 (fun x : Vector Int 2 => (.agg (enc x).toArray : Value)) (fun x : Int => (iv x : Value)) l41) :: (.blk b27 (enc s22) 22) :: (.own Sl.nil 3 1 (encs ([] : List Int))) :: (.own s22 3 1 (encs l42)) :: (.own s18 3 1 (encs ([(-1 : Int)] : List Int))) :: (.blk b16 (enc s11) 22) :: (.own Sl.nil 3 1 (encs ([] : List Int))) :: (.own s11 3 1 (encs l43)) :: (.blk b7 (enc (a0.length : Int)) 3) :: (.blk b5 (enc (PictureR.mk ({ Picture.zero with Have := ([] : List Int), Lanes := ([] : List (List Int)), Now := ([] : List Int) } : Picture) Sl.nil Sl.nil Sl.nil)) 28) :: (.own Sl.nil 3 1 (encs ([] : List Int))) :: (.own Sl.nil 22 1 (encs ([] : List (LR Int)))) :: (.own Sl.nil 3 1 (encs ([] : List Int))) :: L) rfl ?_
  refine Cd.bound (Rd.le (α := Int) (xs := a0) (by decide) (hs_a0.mono (FLe.trans (FLe.trans (FLe.trans hF14 hF25) hF45) hF256) (sc8 (sc8 (sc4 (sc2 hM)))))) (fun hN325 => ?_)
  obtain ⟨ol257, H, HKl257⟩ := bind_some H
  refine Cd.loop (σ := Nat × Nat × Picture × Sl × Sl × (List (LR Int))) (fun (i257, k257, y261, s262, s264, rs265) => [(4, pv b5 0), (5, pv b7 0), (7, pv b27 0), (9, .map (some b31)), (10, pv b34 0), (17, pv b235 0), (149, iv (a0.length : Int)), (150, iv (i257 : Int))]) (fun (i257, k257, y261, s262, s264, rs265) => (.own s262 3 1 (encs y261.Have)) :: (.own s264 22 1 (encs rs265)) :: (.blk b235 (enc (PictureR.mk ({ y261 with Now := l43 } : Picture) s262 s264 s11)) 28) :: (.own s236 3 1 (encs l237)) :: (.own s238 22 1 (encs rs240)) :: (.own s243 3 1 (encs l244)) :: (.own s37 54 4 (encs l38)) :: (.blk b34 (enc s37) 52) :: (mitem b31 (fun x : Vector Int 2 => (.agg (enc x).toArray : Value)) (fun x : Int => (iv x : Value)) l40) :: (mitem b29 (fun x : Vector Int 2 => (.agg (enc x).toArray : Value)) (fun x : Int => (iv x : Value)) l41) :: (.blk b27 (enc s22) 22) :: (.own Sl.nil 3 1 (encs ([] : List Int))) :: (.own s22 3 1 (encs l42)) :: (.own s18 3 1 (encs ([(-1 : Int)] : List Int))) :: (.blk b16 (enc s11) 22) :: (.own Sl.nil 3 1 (encs ([] : List Int))) :: (.own s11 3 1 (encs l43)) :: (.blk b7 (enc (a0.length : Int)) 3) :: (.blk b5 (enc (PictureR.mk ({ Picture.zero with Have := ([] : List Int), Lanes := ([] : List (List Int)), Now := ([] : List Int) } : Picture) Sl.nil Sl.nil Sl.nil)) 28) :: (.own Sl.nil 3 1 (encs ([] : List Int))) :: (.own Sl.nil 22 1 (encs ([] : List (LR Int)))) :: (.own Sl.nil 3 1 (encs ([] : List Int))) :: L) (fun Fx => (fun (i257, k257, y261, s262, s264, rs265) => rangeF (partref_Picture_B3x a0 l40 l42 l43) k257 i257 y261 = some ol257 ∧ i257 + k257 = a0.length ∧ rs265.map LR.v = y261.Lanes ∧ All LR.rel w0 Fx M rs265)) (fun (i257, k257, y261, s262, s264, rs265) => k257) (0, a0.length, ({ Picture.zero with Have := ([] : List Int), Lanes := ([] : List (List Int)), Whole := !r224, Now := l43 } : Picture), Sl.nil, Sl.nil, ([] : List (LR Int))) ⟨rfl, rfl, rfl, rfl, rfl, rfl, rfl, rfl, trivial⟩ rfl ⟨H, by omega, ha260m, (All.monoLR ha260 fl (List.nil_sublist _))⟩ ?_
  rintro F269 ⟨i257, k257, y261, s262, s264, rs265⟩ hF270 ⟨H, hik257, fm266, fa268⟩
  refine Cd.as (e' := [(4, pv b5 0), (5, pv b7 0), (7, pv b27 0), (9, .map (some b31)), (10, pv b34 0), (17, pv b235 0), (149, iv (a0.length : Int)), (150, iv (i257 : Int))]) (L' := (.own s262 3 1 (encs y261.Have)) :: (.own s264 22 1 (encs rs265)) :: (.blk b235 (enc (PictureR.mk ({ y261 with Now := l43 } : Picture) s262 s264 s11)) 28) :: (.own s236 3 1 (encs l237)) :: (.own s238 22 1 (encs rs240)) :: (.own s243 3 1 (encs l244)) :: (.own s37 54 4 (encs l38)) :: (.blk b34 (enc s37) 52) :: (mitem b31 (fun x : Vector Int 2 => (.agg (enc x).toArray : Value)) (fun x : Int => (iv x : Value)) l40) :: (mitem b29 (fun x : Vector Int 2 => (.agg (enc x).toArray : Value)) (fun x : Int => (iv x : Value)) l41) :: (.blk b27 (enc s22) 22) :: (.own Sl.nil 3 1 (encs ([] : List Int))) :: (.own s22 3 1 (encs l42)) :: (.own s18 3 1 (encs ([(-1 : Int)] : List Int))) :: (.blk b16 (enc s11) 22) :: (.own Sl.nil 3 1 (encs ([] : List Int))) :: (.own s11 3 1 (encs l43)) :: (.blk b7 (enc (a0.length : Int)) 3) :: (.blk b5 (enc (PictureR.mk ({ Picture.zero with Have := ([] : List Int), Lanes := ([] : List (List Int)), Now := ([] : List Int) } : Picture) Sl.nil Sl.nil Sl.nil)) 28) :: (.own Sl.nil 3 1 (encs ([] : List Int))) :: (.own Sl.nil 22 1 (encs ([] : List (LR Int)))) :: (.own Sl.nil 3 1 (encs ([] : List Int))) :: L) ⟨rfl, rfl, rfl, rfl, rfl, rfl, rfl, rfl, trivial⟩ rfl ?_
  rcases k257 with _ | k257
  ·have hc257 : decide ((i257 : Int) < (a0.length : Int)) = false := decide_eq_false (by omega)
   replace H := rangeF_end H
   refine sr0 ?_
   refine Lst.r (Ev.lss rfl rfl) ?_
   refine nt0 ?_
   refine Cd.seq ?_
   refine Cd.condF rfl hc257 ?_
   refine Cd.exit ?_
   refine At.then_exit ?_
   refine At.then_exit ?_
   refine At.in_exit ?_
   subst H
   replace H := HKl257
   refine At.then ?_
   refine Cd.seq ?_
   refine sr0 ?_
   refine Lst.r (Ev.load (i := 7) rfl rfl Try.isAgg52 (v := Sl.v s37) gh0) ?_
   refine Lst.r (Ev.lenS (α := Thing) (xs := l38) (by decide) rfl rfl Try.runUnderlying52 (rdo 6 rfl rfl rfl)) ?_
   refine mv0 rfl ?_
   refine nt0 ?_
   refine Cd.block ?_
   refine Cd.bound (Rd.le (α := Thing) (xs := l38) (by decide) (rdo 6 rfl rfl rfl)) (fun hN324 => ?_)
   obtain ⟨ol313, H, HKl313⟩ := bind_some H
   refine Cd.loop (σ := Nat × Nat × Picture) (fun (i313, k313, y314) => [(4, pv b5 0), (17, pv b235 0), (183, Sl.v s37), (184, iv (l38.length : Int)), (185, iv (i313 : Int))]) (fun (i313, k313, y314) => (.own s262 3 1 (encs y261.Have)) :: (.own s264 22 1 (encs rs265)) :: (.blk b235 (enc (PictureR.mk ({ y314 with Have := y261.Have, Lanes := y261.Lanes, Now := l43 } : Picture) s262 s264 s11)) 28) :: (.own s236 3 1 (encs l237)) :: (.own s238 22 1 (encs rs240)) :: (.own s243 3 1 (encs l244)) :: (.own s37 54 4 (encs l38)) :: (.blk b34 (enc s37) 52) :: (mitem b31 (fun x : Vector Int 2 => (.agg (enc x).toArray : Value)) (fun x : Int => (iv x : Value)) l40) :: (mitem b29 (fun x : Vector Int 2 => (.agg (enc x).toArray : Value)) (fun x : Int => (iv x : Value)) l41) :: (.blk b27 (enc s22) 22) :: (.own Sl.nil 3 1 (encs ([] : List Int))) :: (.own s22 3 1 (encs l42)) :: (.own s18 3 1 (encs ([(-1 : Int)] : List Int))) :: (.blk b16 (enc s11) 22) :: (.own Sl.nil 3 1 (encs ([] : List Int))) :: (.own s11 3 1 (encs l43)) :: (.blk b7 (enc (a0.length : Int)) 3) :: (.blk b5 (enc (PictureR.mk ({ Picture.zero with Have := ([] : List Int), Lanes := ([] : List (List Int)), Now := ([] : List Int) } : Picture) Sl.nil Sl.nil Sl.nil)) 28) :: (.own Sl.nil 3 1 (encs ([] : List Int))) :: (.own Sl.nil 22 1 (encs ([] : List (LR Int)))) :: (.own Sl.nil 3 1 (encs ([] : List Int))) :: L) (fun _ => (fun (i313, k313, y314) => rangeF (partref_Picture_B7x l38 l43 y261) k313 i313 y314 = some ol313 ∧ i313 + k313 = l38.length)) (fun (i313, k313, y314) => k313) (0, l38.length, ({ y261 with Now := l43 } : Picture)) ⟨rfl, rfl, rfl, rfl, rfl, trivial⟩ rfl ⟨H, by omega⟩ ?_
   rintro F315 ⟨i313, k313, y314⟩ hF316 ⟨H, hik313⟩
   refine Cd.as (e' := [(4, pv b5 0), (17, pv b235 0), (183, Sl.v s37), (184, iv (l38.length : Int)), (185, iv (i313 : Int))]) (L' := (.own s262 3 1 (encs y261.Have)) :: (.own s264 22 1 (encs rs265)) :: (.blk b235 (enc (PictureR.mk ({ y314 with Have := y261.Have, Lanes := y261.Lanes, Now := l43 } : Picture) s262 s264 s11)) 28) :: (.own s236 3 1 (encs l237)) :: (.own s238 22 1 (encs rs240)) :: (.own s243 3 1 (encs l244)) :: (.own s37 54 4 (encs l38)) :: (.blk b34 (enc s37) 52) :: (mitem b31 (fun x : Vector Int 2 => (.agg (enc x).toArray : Value)) (fun x : Int => (iv x : Value)) l40) :: (mitem b29 (fun x : Vector Int 2 => (.agg (enc x).toArray : Value)) (fun x : Int => (iv x : Value)) l41) :: (.blk b27 (enc s22) 22) :: (.own Sl.nil 3 1 (encs ([] : List Int))) :: (.own s22 3 1 (encs l42)) :: (.own s18 3 1 (encs ([(-1 : Int)] : List Int))) :: (.blk b16 (enc s11) 22) :: (.own Sl.nil 3 1 (encs ([] : List Int))) :: (.own s11 3 1 (encs l43)) :: (.blk b7 (enc (a0.length : Int)) 3) :: (.blk b5 (enc (PictureR.mk ({ Picture.zero with Have := ([] : List Int), Lanes := ([] : List (List Int)), Now := ([] : List Int) } : Picture) Sl.nil Sl.nil Sl.nil)) 28) :: (.own Sl.nil 3 1 (encs ([] : List Int))) :: (.own Sl.nil 22 1 (encs ([] : List (LR Int)))) :: (.own Sl.nil 3 1 (encs ([] : List Int))) :: L) ⟨rfl, rfl, rfl, rfl, rfl, trivial⟩ rfl ?_
   rcases k313 with _ | k313
   ·have hc313 : decide ((i313 : Int) < (l38.length : Int)) = false := decide_eq_false (by omega)
    replace H := rangeF_end H
    refine sr0 ?_
    refine Lst.r (Ev.lss rfl rfl) ?_
    refine nt0 ?_
    refine Cd.seq ?_
    refine Cd.condF rfl hc313 ?_
    refine Cd.exit ?_
    refine At.then_exit ?_
    refine At.then_exit ?_
    refine At.in_exit ?_
    subst H
    replace H := HKl313
    refine At.then ?_
    refine sr0 ?_
    refine Lst.r (Ev.loadA (i := 2) rfl rfl Try.isAgg28 Try.sizeOf28 (ch := enc (PictureR.mk ({ y314 with Have := y261.Have, Lanes := y261.Lanes, Now := l43 } : Picture) s262 s264 s11)) (Enc.len _) gh0) ?_
    refine Lst.store (i := 18) rfl rfl rfl rfl rfl Try.sizeOf28 (vs := enc (PictureR.mk ({ y314 with Have := y261.Have, Lanes := y261.Lanes, Now := l43 } : Picture) s262 s264 s11)) rfl (Enc.len _) (Enc.one _) (cs' := enc (PictureR.mk ({ y314 with Have := y261.Have, Lanes := y261.Lanes, Now := l43 } : Picture) s262 s264 s11)) (Put.here ((Enc.len _).trans (Enc.len _).symm)) (L' := (.own s262 3 1 (encs y261.Have)) :: (.own s264 22 1 (encs rs265)) :: (.blk b235 (enc (PictureR.mk ({ y314 with Have := y261.Have, Lanes := y261.Lanes, Now := l43 } : Picture) s262 s264 s11)) 28) :: (.own s236 3 1 (encs l237)) :: (.own s238 22 1 (encs rs240)) :: (.own s243 3 1 (encs l244)) :: (.own s37 54 4 (encs l38)) :: (.blk b34 (enc s37) 52) :: (mitem b31 (fun x : Vector Int 2 => (.agg (enc x).toArray : Value)) (fun x : Int => (iv x : Value)) l40) :: (mitem b29 (fun x : Vector Int 2 => (.agg (enc x).toArray : Value)) (fun x : Int => (iv x : Value)) l41) :: (.blk b27 (enc s22) 22) :: (.own Sl.nil 3 1 (encs ([] : List Int))) :: (.own s22 3 1 (encs l42)) :: (.own s18 3 1 (encs ([(-1 : Int)] : List Int))) :: (.blk b16 (enc s11) 22) :: (.own Sl.nil 3 1 (encs ([] : List Int))) :: (.own s11 3 1 (encs l43)) :: (.blk b7 (enc (a0.length : Int)) 3) :: (.blk b5 (enc (PictureR.mk ({ y314 with Have := y261.Have, Lanes := y261.Lanes, Now := l43 } : Picture) s262 s264 s11)) 28) :: (.own Sl.nil 3 1 (encs ([] : List Int))) :: (.own Sl.nil 22 1 (encs ([] : List (LR Int)))) :: (.own Sl.nil 3 1 (encs ([] : List Int))) :: L) rfl ?_
    refine nt0 ?_
    obtain rfl := some_inj H
    refine Cd.ret ?_
    exact At.ret1 rfl (Res.cellA (i := 18) rfl rfl Try.isAgg28 Try.sizeOf28 (Enc.len _)) (FLe.trans (FLe.trans (FLe.trans (FLe.trans (FLe.trans hF14 hF25) hF45) hF256) hF270) hF316) (sk1 (sk1 (sc1 (sc1 (sc1 (sc1 (sc1 (sc1 (sc1 (sc1 (sc1 (sc1 (sc1 (sc1 (sc1 (sc1 (sk1 (sc1 (sc1 (sc1 (sc1 (sc1 (.refl _))))))))))))))))))))))) ⟨s262, s264, rs265, s11, rfl, rfl, fm266, (All.monoLR fa268 hF316 (.refl _))⟩
   have hc313 : decide ((i313 : Int) < (l38.length : Int)) = true := decide_eq_true (by omega)
   obtain ⟨c313, H, hgo313⟩ := rangeF_go H
   unfold partref_Picture_B7x at H
   try dsimp only at H
   refine sr0 ?_
   refine Lst.r (Ev.lss rfl rfl) ?_
   refine nt0 ?_
   refine Cd.seq ?_
   refine Cd.condT rfl hc313 ?_
   refine Cd.skip ?_
   refine At.then ?_
   refine Cd.seq ?_
   refine Cd.block ?_
   refine sr0 ?_
   obtain ⟨x317, h318, H⟩ := bind_some H
   have g319 := lat_some h318
   refine Lst.r (Ev.indexS (α := Thing) (xs := l38) rfl rfl Try.runUnderlying52 Try.sizeOf54 rfl (by decide) (rdo 6 rfl rfl rfl) g319.1 g319.2.1) ?_
   refine Lst.r (Ev.loadSA (α := Thing) rfl (rdo 6 rfl rfl rfl) Try.isAgg54 Try.sizeOf54 (ch := enc x317) (Enc.len _) (by decide) ((Get.elemN (s := 4) (x := x317) rfl g319.2.2 gh0).off (by omega))) ?_
   refine Lst.alloc (cs := enc Thing.zero) rfl rfl (by decide) Try.zeroValue54 rfl (fun b320 => ?_)
   refine Lst.store (i := 0) rfl rfl rfl rfl rfl Try.sizeOf54 (vs := enc x317) rfl (Enc.len _) (Enc.one _) (cs' := enc x317) (Put.here ((Enc.len _).trans (Enc.len _).symm)) (L' := (.blk b320 (enc x317) 54) :: (.own s262 3 1 (encs y261.Have)) :: (.own s264 22 1 (encs rs265)) :: (.blk b235 (enc (PictureR.mk ({ y314 with Have := y261.Have, Lanes := y261.Lanes, Now := l43 } : Picture) s262 s264 s11)) 28) :: (.own s236 3 1 (encs l237)) :: (.own s238 22 1 (encs rs240)) :: (.own s243 3 1 (encs l244)) :: (.own s37 54 4 (encs l38)) :: (.blk b34 (enc s37) 52) :: (mitem b31 (fun x : Vector Int 2 => (.agg (enc x).toArray : Value)) (fun x : Int => (iv x : Value)) l40) :: (mitem b29 (fun x : Vector Int 2 => (.agg (enc x).toArray : Value)) (fun x : Int => (iv x : Value)) l41) :: (.blk b27 (enc s22) 22) :: (.own Sl.nil 3 1 (encs ([] : List Int))) :: (.own s22 3 1 (encs l42)) :: (.own s18 3 1 (encs ([(-1 : Int)] : List Int))) :: (.blk b16 (enc s11) 22) :: (.own Sl.nil 3 1 (encs ([] : List Int))) :: (.own s11 3 1 (encs l43)) :: (.blk b7 (enc (a0.length : Int)) 3) :: (.blk b5 (enc (PictureR.mk ({ Picture.zero with Have := ([] : List Int), Lanes := ([] : List (List Int)), Now := ([] : List Int) } : Picture) Sl.nil Sl.nil Sl.nil)) 28) :: (.own Sl.nil 3 1 (encs ([] : List Int))) :: (.own Sl.nil 22 1 (encs ([] : List (LR Int)))) :: (.own Sl.nil 3 1 (encs ([] : List Int))) :: L) rfl ?_
   refine nt0 ?_
   refine Cd.region ?_
   refine Lst.r (Ev.fieldAddr (off' := 4) rfl Try.runUnderlying28 rfl Try.sizeOf3 rfl rfl) ?_
   refine Lst.r (Ev.load (i := 3) rfl rfl Try.isAgg3 (v := iv y314.Under) ((PictureR.get_Under gh0).off (by rfl))) ?_
   refine Lst.r (Ev.fieldAddr (off' := 2) rfl Try.runUnderlying54 rfl Try.sizeOf3 rfl rfl) ?_
   refine Lst.r (Ev.load (i := 0) rfl rfl Try.isAgg3 (v := iv x317.n) ((Thing.get_n gh0).off (by rfl))) ?_
   refine Lst.r (Ev.add rfl rfl) ?_
   refine Lst.r (Ev.fieldAddr (off' := 4) rfl Try.runUnderlying28 rfl Try.sizeOf3 rfl rfl) ?_
   obtain ⟨p322, h323, H⟩ := Let_some H
   refine Lst.store (i := 3) rfl rfl rfl rfl rfl Try.sizeOf3 (vs := [iv (w64 (y314.Under + x317.n))]) rfl rfl rfl (cs' := enc (PictureR.mk ({ y314 with Have := y261.Have, Lanes := y261.Lanes, Now := l43, Under := p322 } : Picture) s262 s264 s11)) (by rw [← h323]; exact (PictureR.put_Under (Put.here (vs := [iv (w64 (y314.Under + x317.n))]) rfl)).off (by rfl)) (L' := (.blk b320 (enc x317) 54) :: (.own s262 3 1 (encs y261.Have)) :: (.own s264 22 1 (encs rs265)) :: (.blk b235 (enc (PictureR.mk ({ y314 with Have := y261.Have, Lanes := y261.Lanes, Now := l43, Under := p322 } : Picture) s262 s264 s11)) 28) :: (.own s236 3 1 (encs l237)) :: (.own s238 22 1 (encs rs240)) :: (.own s243 3 1 (encs l244)) :: (.own s37 54 4 (encs l38)) :: (.blk b34 (enc s37) 52) :: (mitem b31 (fun x : Vector Int 2 => (.agg (enc x).toArray : Value)) (fun x : Int => (iv x : Value)) l40) :: (mitem b29 (fun x : Vector Int 2 => (.agg (enc x).toArray : Value)) (fun x : Int => (iv x : Value)) l41) :: (.blk b27 (enc s22) 22) :: (.own Sl.nil 3 1 (encs ([] : List Int))) :: (.own s22 3 1 (encs l42)) :: (.own s18 3 1 (encs ([(-1 : Int)] : List Int))) :: (.blk b16 (enc s11) 22) :: (.own Sl.nil 3 1 (encs ([] : List Int))) :: (.own s11 3 1 (encs l43)) :: (.blk b7 (enc (a0.length : Int)) 3) :: (.blk b5 (enc (PictureR.mk ({ Picture.zero with Have := ([] : List Int), Lanes := ([] : List (List Int)), Now := ([] : List Int) } : Picture) Sl.nil Sl.nil Sl.nil)) 28) :: (.own Sl.nil 3 1 (encs ([] : List Int))) :: (.own Sl.nil 22 1 (encs ([] : List (LR Int)))) :: (.own Sl.nil 3 1 (encs ([] : List Int))) :: L) rfl ?_
   refine Lst.nil ?_
   refine At.in_normal ?_
   refine At.then ?_
   refine Cd.region ?_
   refine Lst.r (Ev.incr (by omega) rfl rfl) ?_
   refine mv0 rfl ?_
   refine Lst.nil ?_
   refine At.less (L' := (.own s262 3 1 (encs y261.Have)) :: (.own s264 22 1 (encs rs265)) :: (.blk b235 (enc (PictureR.mk ({ y314 with Have := y261.Have, Lanes := y261.Lanes, Now := l43, Under := p322 } : Picture) s262 s264 s11)) 28) :: (.own s236 3 1 (encs l237)) :: (.own s238 22 1 (encs rs240)) :: (.own s243 3 1 (encs l244)) :: (.own s37 54 4 (encs l38)) :: (.blk b34 (enc s37) 52) :: (mitem b31 (fun x : Vector Int 2 => (.agg (enc x).toArray : Value)) (fun x : Int => (iv x : Value)) l40) :: (mitem b29 (fun x : Vector Int 2 => (.agg (enc x).toArray : Value)) (fun x : Int => (iv x : Value)) l41) :: (.blk b27 (enc s22) 22) :: (.own Sl.nil 3 1 (encs ([] : List Int))) :: (.own s22 3 1 (encs l42)) :: (.own s18 3 1 (encs ([(-1 : Int)] : List Int))) :: (.blk b16 (enc s11) 22) :: (.own Sl.nil 3 1 (encs ([] : List Int))) :: (.own s11 3 1 (encs l43)) :: (.blk b7 (enc (a0.length : Int)) 3) :: (.blk b5 (enc (PictureR.mk ({ Picture.zero with Have := ([] : List Int), Lanes := ([] : List (List Int)), Now := ([] : List Int) } : Picture) Sl.nil Sl.nil Sl.nil)) 28) :: (.own Sl.nil 3 1 (encs ([] : List Int))) :: (.own Sl.nil 22 1 (encs ([] : List (LR Int)))) :: (.own Sl.nil 3 1 (encs ([] : List Int))) :: L) (sc1 (sk1 (sk1 (sk1 (sk1 (sk1 (sk1 (sk1 (sk1 (sk1 (sk1 (sk1 (sk1 (sk1 (sk1 (sk1 (sk1 (sk1 (sk1 (sk1 (sk1 (sk1 (sk1 (.refl _)))))))))))))))))))))))) ?_
   exact At.meet (i313 + 1, k313, ({ y314 with Have := y261.Have, Lanes := y261.Lanes, Now := l43, Under := p322 } : Picture)) hF316 ⟨rfl, rfl, rfl, rfl, rfl, trivial⟩ rfl ⟨⟨hgo313 _ (some_inj H).symm, by omega⟩, Nat.lt_succ_self _⟩
  have hc257 : decide ((i257 : Int) < (a0.length : Int)) = true := decide_eq_true (by omega)
  obtain ⟨c257, H, hgo257⟩ := rangeF_go H
  unfold partref_Picture_B3x at H
  try dsimp only at H
  refine sr0 ?_
  refine Lst.r (Ev.lss rfl rfl) ?_
  refine nt0 ?_
  refine Cd.seq ?_
  refine Cd.condT rfl hc257 ?_
  refine Cd.skip ?_
  refine At.then ?_
  refine Cd.seq ?_
  refine Cd.block ?_
  refine sr0 ?_
  refine mv0 rfl ?_
  refine Lst.r (Ev.assign rfl) ?_
  refine nt0 ?_
  refine Cd.seq ?_
  obtain ⟨x271, h272, H⟩ := bind_some H
  obtain ⟨o279, h280, H⟩ := Let_some H
  refine Cd.headMeet (σ := Sl × (List Int)) 8 (fun (s277, l278) => [(4, pv b5 0), (5, pv b7 0), (7, pv b27 0), (9, .map (some b31)), (10, pv b34 0), (17, pv b235 0), (18, iv (i257 : Int)), (149, iv (a0.length : Int)), (150, iv (i257 : Int)), (154, Sl.v s262), (160, Sl.v s277)]) (fun (s277, l278) => (.own s277 3 1 (encs l278)) :: (.own s262 3 1 (encs y261.Have)) :: (.own s264 22 1 (encs rs265)) :: (.blk b235 (enc (PictureR.mk ({ y261 with Now := l43 } : Picture) s262 s264 s11)) 28) :: (.own s236 3 1 (encs l237)) :: (.own s238 22 1 (encs rs240)) :: (.own s243 3 1 (encs l244)) :: (.own s37 54 4 (encs l38)) :: (.blk b34 (enc s37) 52) :: (mitem b31 (fun x : Vector Int 2 => (.agg (enc x).toArray : Value)) (fun x : Int => (iv x : Value)) l40) :: (mitem b29 (fun x : Vector Int 2 => (.agg (enc x).toArray : Value)) (fun x : Int => (iv x : Value)) l41) :: (.blk b27 (enc s22) 22) :: (.own Sl.nil 3 1 (encs ([] : List Int))) :: (.own s22 3 1 (encs l42)) :: (.own s18 3 1 (encs ([(-1 : Int)] : List Int))) :: (.blk b16 (enc s11) 22) :: (.own Sl.nil 3 1 (encs ([] : List Int))) :: (.own s11 3 1 (encs l43)) :: (.blk b7 (enc (a0.length : Int)) 3) :: (.blk b5 (enc (PictureR.mk ({ Picture.zero with Have := ([] : List Int), Lanes := ([] : List (List Int)), Now := ([] : List Int) } : Picture) Sl.nil Sl.nil Sl.nil)) 28) :: (.own Sl.nil 3 1 (encs ([] : List Int))) :: (.own Sl.nil 22 1 (encs ([] : List (LR Int)))) :: (.own Sl.nil 3 1 (encs ([] : List Int))) :: L) (fun _ (s277, l278) => l278 = o279) (by kernel_rfl) (by kernel_rfl) (behind_sink (by kernel_rfl) (by kernel_rfl) (by kernel_rfl)) (by kernel_rfl) (fun hsel hlt => ?_) ?_
  ·refine HdJ.keep (fun w => St w0 F269 ((.own s262 3 1 (encs y261.Have)) :: (.own s264 22 1 (encs rs265)) :: (.blk b235 (enc (PictureR.mk ({ y261 with Now := l43 } : Picture) s262 s264 s11)) 28) :: (.own s236 3 1 (encs l237)) :: (.own s238 22 1 (encs rs240)) :: (.own s243 3 1 (encs l244)) :: (.own s37 54 4 (encs l38)) :: (.blk b34 (enc s37) 52) :: (mitem b31 (fun x : Vector Int 2 => (.agg (enc x).toArray : Value)) (fun x : Int => (iv x : Value)) l40) :: (mitem b29 (fun x : Vector Int 2 => (.agg (enc x).toArray : Value)) (fun x : Int => (iv x : Value)) l41) :: (.blk b27 (enc s22) 22) :: (.own Sl.nil 3 1 (encs ([] : List Int))) :: (.own s22 3 1 (encs l42)) :: (.own s18 3 1 (encs ([(-1 : Int)] : List Int))) :: (.blk b16 (enc s11) 22) :: (.own Sl.nil 3 1 (encs ([] : List Int))) :: (.own s11 3 1 (encs l43)) :: (.blk b7 (enc (a0.length : Int)) 3) :: (.blk b5 (enc (PictureR.mk ({ Picture.zero with Have := ([] : List Int), Lanes := ([] : List (List Int)), Now := ([] : List Int) } : Picture) Sl.nil Sl.nil Sl.nil)) 28) :: (.own Sl.nil 3 1 (encs ([] : List Int))) :: (.own Sl.nil 22 1 (encs ([] : List (LR Int)))) :: (.own Sl.nil 3 1 (encs ([] : List Int))) :: L) w) (fun w h => trivial) ?_
   refine HdJ.ts hsel hlt 0 (sk1 (sk1 (sk1 (sk1 (sk1 (sk1 (sk1 (sk1 (sk1 (sk1 (sk1 (sk1 (sk1 (sk1 (sk1 (sk1 (sk1 (sk1 (sk1 (sk1 (sk1 (sk1 (.refl _))))))))))))))))))))))) rfl (Ev.fieldAddr (off' := 0) rfl Try.runUnderlying28 rfl Try.sizeOf22 rfl rfl) ?_
   refine HdJ.ts hsel hlt 1 (sk1 (sk1 (sk1 (sk1 (sk1 (sk1 (sk1 (sk1 (sk1 (sk1 (sk1 (sk1 (sk1 (sk1 (sk1 (sk1 (sk1 (sk1 (sk1 (sk1 (sk1 (sk1 (.refl _))))))))))))))))))))))) rfl (Ev.load (i := 2) rfl rfl Try.isAgg22 (v := Sl.v s262) ((PictureR.get_Have gh0).off (by rfl))) ?_
   refine HdJ.ts hsel hlt 2 (sk1 (sk1 (sk1 (sk1 (sk1 (sk1 (sk1 (sk1 (sk1 (sk1 (sk1 (sk1 (sk1 (sk1 (sk1 (sk1 (sk1 (sk1 (sk1 (sk1 (sk1 (sk1 (.refl _))))))))))))))))))))))) rfl (Ev.load (i := 10) rfl rfl Try.isAgg22 (v := Sl.v s22) gh0) ?_
   refine HdJ.ts hsel hlt 3 (sk1 (sk1 (sk1 (sk1 (sk1 (sk1 (sk1 (sk1 (sk1 (sk1 (sk1 (sk1 (sk1 (sk1 (sk1 (sk1 (sk1 (sk1 (sk1 (sk1 (sk1 (sk1 (.refl _))))))))))))))))))))))) rfl (Ev.move rfl) ?_
   have g281 := lat_some h272
   refine HdJ.ts hsel hlt 4 (sk1 (sk1 (sk1 (sk1 (sk1 (sk1 (sk1 (sk1 (sk1 (sk1 (sk1 (sk1 (sk1 (sk1 (sk1 (sk1 (sk1 (sk1 (sk1 (sk1 (sk1 (sk1 (.refl _))))))))))))))))))))))) rfl (Ev.indexS (α := Int) (xs := l42) rfl rfl Try.runUnderlying22 Try.sizeOf3 rfl (by decide) (rdo 12 rfl rfl rfl) g281.1 g281.2.1) ?_
   refine HdJ.ts hsel hlt 5 (sk1 (sk1 (sk1 (sk1 (sk1 (sk1 (sk1 (sk1 (sk1 (sk1 (sk1 (sk1 (sk1 (sk1 (sk1 (sk1 (sk1 (sk1 (sk1 (sk1 (sk1 (sk1 (.refl _))))))))))))))))))))))) rfl (Ev.loadS (α := Int) rfl (rdo 12 rfl rfl rfl) Try.isAgg3 (v := iv x271) ((Get.elemN (s := 1) (x := x271) rfl g281.2.2 gh0).off (by omega))) ?_
   refine HdJ.ts hsel hlt 6 (sk1 (sk1 (sk1 (sk1 (sk1 (sk1 (sk1 (sk1 (sk1 (sk1 (sk1 (sk1 (sk1 (sk1 (sk1 (sk1 (sk1 (sk1 (sk1 (sk1 (sk1 (sk1 (.refl _))))))))))))))))))))))) rfl (Ev.max2 rfl rfl) ?_
   refine HdJ.o1 7 (fun inv => ?_)
   refine Lst.buildSlice (α := Int) (xs := ([max x271 (0 : Int)] : List Int)) (pv := [(0, iv (max x271 (0 : Int)))]) rfl rfl (by decide) ⟨rfl, rfl, trivial⟩ (run_buildSlice (α := Int) (z0 := (0 : Int)) (xs := ([max x271 (0 : Int)] : List Int)) Try.runUnderlying22 Try.sizeOf3 Try.zeroValue3 rfl rfl rfl (by decide) rfl (fill_cons (cs := encs (List.replicate 1 (0 : Int))) (cs' := encs ((List.replicate 1 (0 : Int)).set 0 (max x271 (0 : Int)))) (vs := [iv (max x271 (0 : Int))]) rfl rfl rfl ((Put.elemN (s := 1) (i := 0) (x := (0 : Int)) (y := (max x271 (0 : Int))) rfl rfl (Put.here (vs := [iv (max x271 (0 : Int))]) rfl)).off rfl) fill_nil)) rfl rfl (by decide) (fun s282 _ => ?_)
   refine hds inv (sc1 (sk1 (sk1 (sk1 (sk1 (sk1 (sk1 (sk1 (sk1 (sk1 (sk1 (sk1 (sk1 (sk1 (sk1 (sk1 (sk1 (sk1 (sk1 (sk1 (sk1 (sk1 (sk1 (.refl _)))))))))))))))))))))))) ?_
   refine HdJ.done (by kernel_rfl) ?_
   exact At.meetN (s282, ([max x271 (0 : Int)] : List Int)) fl ⟨rfl, rfl, rfl, rfl, rfl, rfl, rfl, rfl, rfl, rfl, rfl, trivial⟩ rfl h280
  rintro F283 ⟨s277, l278⟩ hF284 hy
  subst hy
  refine Lst.as (e' := [(4, pv b5 0), (5, pv b7 0), (7, pv b27 0), (9, .map (some b31)), (10, pv b34 0), (17, pv b235 0), (18, iv (i257 : Int)), (149, iv (a0.length : Int)), (150, iv (i257 : Int)), (154, Sl.v s262), (160, Sl.v s277)]) (L' := (.own s277 3 1 (encs l278)) :: (.own s262 3 1 (encs y261.Have)) :: (.own s264 22 1 (encs rs265)) :: (.blk b235 (enc (PictureR.mk ({ y261 with Now := l43 } : Picture) s262 s264 s11)) 28) :: (.own s236 3 1 (encs l237)) :: (.own s238 22 1 (encs rs240)) :: (.own s243 3 1 (encs l244)) :: (.own s37 54 4 (encs l38)) :: (.blk b34 (enc s37) 52) :: (mitem b31 (fun x : Vector Int 2 => (.agg (enc x).toArray : Value)) (fun x : Int => (iv x : Value)) l40) :: (mitem b29 (fun x : Vector Int 2 => (.agg (enc x).toArray : Value)) (fun x : Int => (iv x : Value)) l41) :: (.blk b27 (enc s22) 22) :: (.own Sl.nil 3 1 (encs ([] : List Int))) :: (.own s22 3 1 (encs l42)) :: (.own s18 3 1 (encs ([(-1 : Int)] : List Int))) :: (.blk b16 (enc s11) 22) :: (.own Sl.nil 3 1 (encs ([] : List Int))) :: (.own s11 3 1 (encs l43)) :: (.blk b7 (enc (a0.length : Int)) 3) :: (.blk b5 (enc (PictureR.mk ({ Picture.zero with Have := ([] : List Int), Lanes := ([] : List (List Int)), Now := ([] : List Int) } : Picture) Sl.nil Sl.nil Sl.nil)) 28) :: (.own Sl.nil 3 1 (encs ([] : List Int))) :: (.own Sl.nil 22 1 (encs ([] : List (LR Int)))) :: (.own Sl.nil 3 1 (encs ([] : List Int))) :: L) ⟨rfl, rfl, rfl, rfl, rfl, rfl, rfl, rfl, rfl, rfl, rfl, trivial⟩ rfl ?_
  obtain ⟨u285, h286, H⟩ := bind_some H
  refine Lst.append (i := 1) (α := Int) (xs := y261.Have) (ys := l278) rfl rfl (by decide) rfl rfl Try.runUnderlying22 Try.typeInfo3 rfl rfl rfl rfl rfl rfl (rdo 0 rfl rfl rfl) rfl (room_some h286) rfl (fun s287 => ?_)
  refine Lst.its (L' := (.own s277 3 1 (encs l278)) :: (.own s287 3 1 (encs (y261.Have ++ l278))) :: (.own s264 22 1 (encs rs265)) :: (.blk b235 (enc (PictureR.mk ({ y261 with Now := l43 } : Picture) s262 s264 s11)) 28) :: (.own s236 3 1 (encs l237)) :: (.own s238 22 1 (encs rs240)) :: (.own s243 3 1 (encs l244)) :: (.own s37 54 4 (encs l38)) :: (.blk b34 (enc s37) 52) :: (mitem b31 (fun x : Vector Int 2 => (.agg (enc x).toArray : Value)) (fun x : Int => (iv x : Value)) l40) :: (mitem b29 (fun x : Vector Int 2 => (.agg (enc x).toArray : Value)) (fun x : Int => (iv x : Value)) l41) :: (.blk b27 (enc s22) 22) :: (.own Sl.nil 3 1 (encs ([] : List Int))) :: (.own s22 3 1 (encs l42)) :: (.own s18 3 1 (encs ([(-1 : Int)] : List Int))) :: (.blk b16 (enc s11) 22) :: (.own Sl.nil 3 1 (encs ([] : List Int))) :: (.own s11 3 1 (encs l43)) :: (.blk b7 (enc (a0.length : Int)) 3) :: (.blk b5 (enc (PictureR.mk ({ Picture.zero with Have := ([] : List Int), Lanes := ([] : List (List Int)), Now := ([] : List Int) } : Picture) Sl.nil Sl.nil Sl.nil)) 28) :: (.own Sl.nil 3 1 (encs ([] : List Int))) :: (.own Sl.nil 22 1 (encs ([] : List (LR Int)))) :: (.own Sl.nil 3 1 (encs ([] : List Int))) :: L) rfl ?_
  refine Lst.r (Ev.fieldAddr (off' := 0) rfl Try.runUnderlying28 rfl Try.sizeOf22 rfl rfl) ?_
  refine Lst.store (i := 3) rfl rfl rfl rfl rfl Try.sizeOf22 (vs := [Sl.v s287]) rfl rfl rfl (cs' := enc (PictureR.mk ({ y261 with Have := y261.Have ++ l278, Now := l43 } : Picture) s287 s264 s11)) ((PictureR.put_Have (Put.here (vs := [Sl.v s287]) rfl)).off (by rfl)) (L' := (.own s277 3 1 (encs l278)) :: (.own s287 3 1 (encs (y261.Have ++ l278))) :: (.own s264 22 1 (encs rs265)) :: (.blk b235 (enc (PictureR.mk ({ y261 with Have := y261.Have ++ l278, Now := l43 } : Picture) s287 s264 s11)) 28) :: (.own s236 3 1 (encs l237)) :: (.own s238 22 1 (encs rs240)) :: (.own s243 3 1 (encs l244)) :: (.own s37 54 4 (encs l38)) :: (.blk b34 (enc s37) 52) :: (mitem b31 (fun x : Vector Int 2 => (.agg (enc x).toArray : Value)) (fun x : Int => (iv x : Value)) l40) :: (mitem b29 (fun x : Vector Int 2 => (.agg (enc x).toArray : Value)) (fun x : Int => (iv x : Value)) l41) :: (.blk b27 (enc s22) 22) :: (.own Sl.nil 3 1 (encs ([] : List Int))) :: (.own s22 3 1 (encs l42)) :: (.own s18 3 1 (encs ([(-1 : Int)] : List Int))) :: (.blk b16 (enc s11) 22) :: (.own Sl.nil 3 1 (encs ([] : List Int))) :: (.own s11 3 1 (encs l43)) :: (.blk b7 (enc (a0.length : Int)) 3) :: (.blk b5 (enc (PictureR.mk ({ Picture.zero with Have := ([] : List Int), Lanes := ([] : List (List Int)), Now := ([] : List Int) } : Picture) Sl.nil Sl.nil Sl.nil)) 28) :: (.own Sl.nil 3 1 (encs ([] : List Int))) :: (.own Sl.nil 22 1 (encs ([] : List (LR Int)))) :: (.own Sl.nil 3 1 (encs ([] : List Int))) :: L) rfl ?_
  refine nsr ?_
  refine Lst.addNil 3 1 ?_
  refine Lst.r (Ev.assign rfl) ?_
  refine nt0 ?_
  refine Cd.seq ?_
  refine sr0 ?_
  refine Lst.r (Ev.load (i := 19) rfl rfl Try.isAgg3 (v := iv (a0.length : Int)) gh0) ?_
  refine mv0 rfl ?_
  refine nt0 ?_
  refine Cd.block ?_
  refine Cd.bound (Rd.le (α := Int) (xs := a0) (by decide) (hs_a0.mono (FLe.trans (FLe.trans (FLe.trans (FLe.trans (FLe.trans hF14 hF25) hF45) hF256) hF270) hF284) (sc8 (sc8 (sc8 hM))))) (fun hN312 => ?_)
  obtain ⟨ol289, H, HKl289⟩ := bind_some H
  refine Cd.loop (σ := Nat × Nat × Sl × (List Int)) (fun (i289, k289, s290, l291) => [(4, pv b5 0), (5, pv b7 0), (7, pv b27 0), (9, .map (some b31)), (10, pv b34 0), (17, pv b235 0), (18, iv (i257 : Int)), (19, Sl.v s290), (149, iv (a0.length : Int)), (150, iv (i257 : Int)), (163, iv (a0.length : Int)), (164, iv (i289 : Int))]) (fun (i289, k289, s290, l291) => (.own s290 3 1 (encs l291)) :: (.own s277 3 1 (encs l278)) :: (.own s287 3 1 (encs (y261.Have ++ l278))) :: (.own s264 22 1 (encs rs265)) :: (.blk b235 (enc (PictureR.mk ({ y261 with Have := y261.Have ++ l278, Now := l43 } : Picture) s287 s264 s11)) 28) :: (.own s236 3 1 (encs l237)) :: (.own s238 22 1 (encs rs240)) :: (.own s243 3 1 (encs l244)) :: (.own s37 54 4 (encs l38)) :: (.blk b34 (enc s37) 52) :: (mitem b31 (fun x : Vector Int 2 => (.agg (enc x).toArray : Value)) (fun x : Int => (iv x : Value)) l40) :: (mitem b29 (fun x : Vector Int 2 => (.agg (enc x).toArray : Value)) (fun x : Int => (iv x : Value)) l41) :: (.blk b27 (enc s22) 22) :: (.own Sl.nil 3 1 (encs ([] : List Int))) :: (.own s22 3 1 (encs l42)) :: (.own s18 3 1 (encs ([(-1 : Int)] : List Int))) :: (.blk b16 (enc s11) 22) :: (.own Sl.nil 3 1 (encs ([] : List Int))) :: (.own s11 3 1 (encs l43)) :: (.blk b7 (enc (a0.length : Int)) 3) :: (.blk b5 (enc (PictureR.mk ({ Picture.zero with Have := ([] : List Int), Lanes := ([] : List (List Int)), Now := ([] : List Int) } : Picture) Sl.nil Sl.nil Sl.nil)) 28) :: (.own Sl.nil 3 1 (encs ([] : List Int))) :: (.own Sl.nil 22 1 (encs ([] : List (LR Int)))) :: (.own Sl.nil 3 1 (encs ([] : List Int))) :: L) (fun _ => (fun (i289, k289, s290, l291) => rangeF (partref_Picture_B5x l40 i257) k289 i289 l291 = some ol289 ∧ i289 + k289 = a0.length)) (fun (i289, k289, s290, l291) => k289) (0, a0.length, Sl.nil, ([] : List Int)) ⟨rfl, rfl, rfl, rfl, rfl, rfl, rfl, rfl, rfl, rfl, rfl, rfl, trivial⟩ rfl ⟨H, by omega⟩ ?_
  rintro F292 ⟨i289, k289, s290, l291⟩ hF293 ⟨H, hik289⟩
  refine Cd.as (e' := [(4, pv b5 0), (5, pv b7 0), (7, pv b27 0), (9, .map (some b31)), (10, pv b34 0), (17, pv b235 0), (18, iv (i257 : Int)), (19, Sl.v s290), (149, iv (a0.length : Int)), (150, iv (i257 : Int)), (163, iv (a0.length : Int)), (164, iv (i289 : Int))]) (L' := (.own s290 3 1 (encs l291)) :: (.own s277 3 1 (encs l278)) :: (.own s287 3 1 (encs (y261.Have ++ l278))) :: (.own s264 22 1 (encs rs265)) :: (.blk b235 (enc (PictureR.mk ({ y261 with Have := y261.Have ++ l278, Now := l43 } : Picture) s287 s264 s11)) 28) :: (.own s236 3 1 (encs l237)) :: (.own s238 22 1 (encs rs240)) :: (.own s243 3 1 (encs l244)) :: (.own s37 54 4 (encs l38)) :: (.blk b34 (enc s37) 52) :: (mitem b31 (fun x : Vector Int 2 => (.agg (enc x).toArray : Value)) (fun x : Int => (iv x : Value)) l40) :: (mitem b29 (fun x : Vector Int 2 => (.agg (enc x).toArray : Value)) (fun x : Int => (iv x : Value)) l41) :: (.blk b27 (enc s22) 22) :: (.own Sl.nil 3 1 (encs ([] : List Int))) :: (.own s22 3 1 (encs l42)) :: (.own s18 3 1 (encs ([(-1 : Int)] : List Int))) :: (.blk b16 (enc s11) 22) :: (.own Sl.nil 3 1 (encs ([] : List Int))) :: (.own s11 3 1 (encs l43)) :: (.blk b7 (enc (a0.length : Int)) 3) :: (.blk b5 (enc (PictureR.mk ({ Picture.zero with Have := ([] : List Int), Lanes := ([] : List (List Int)), Now := ([] : List Int) } : Picture) Sl.nil Sl.nil Sl.nil)) 28) :: (.own Sl.nil 3 1 (encs ([] : List Int))) :: (.own Sl.nil 22 1 (encs ([] : List (LR Int)))) :: (.own Sl.nil 3 1 (encs ([] : List Int))) :: L) ⟨rfl, rfl, rfl, rfl, rfl, rfl, rfl, rfl, rfl, rfl, rfl, rfl, trivial⟩ rfl ?_
  rcases k289 with _ | k289
  ·have hc289 : decide ((i289 : Int) < (a0.length : Int)) = false := decide_eq_false (by omega)
   replace H := rangeF_end H
   refine sr0 ?_
   refine Lst.r (Ev.lss rfl rfl) ?_
   refine nt0 ?_
   refine Cd.seq ?_
   refine Cd.condF rfl hc289 ?_
   refine Cd.exit ?_
   refine At.then_exit ?_
   refine At.then_exit ?_
   refine At.in_exit ?_
   subst H
   replace H := HKl289
   refine At.then ?_
   refine Cd.region ?_
   refine Lst.r (Ev.fieldAddr (off' := 1) rfl Try.runUnderlying28 rfl Try.sizeOf26 rfl rfl) ?_
   refine Lst.r (Ev.load (i := 4) rfl rfl Try.isAgg26 (v := Sl.v s264) ((PictureR.get_Lanes gh0).off (by rfl))) ?_
   refine mv0 rfl ?_
   refine Lst.freeze (i := 0) rfl (fun F299 hF300 hz301 => ?_)
   have hq302 : Rd w0 F299 [] s290 l291 := Rd.frozen hz301 rfl rfl
   refine Lst.its (L' := (.own s277 3 1 (encs l278)) :: (.own s287 3 1 (encs (y261.Have ++ l278))) :: (.own s264 22 1 (encs rs265)) :: (.blk b235 (enc (PictureR.mk ({ y261 with Have := y261.Have ++ l278, Now := l43 } : Picture) s287 s264 s11)) 28) :: (.own s236 3 1 (encs l237)) :: (.own s238 22 1 (encs rs240)) :: (.own s243 3 1 (encs l244)) :: (.own s37 54 4 (encs l38)) :: (.blk b34 (enc s37) 52) :: (mitem b31 (fun x : Vector Int 2 => (.agg (enc x).toArray : Value)) (fun x : Int => (iv x : Value)) l40) :: (mitem b29 (fun x : Vector Int 2 => (.agg (enc x).toArray : Value)) (fun x : Int => (iv x : Value)) l41) :: (.blk b27 (enc s22) 22) :: (.own Sl.nil 3 1 (encs ([] : List Int))) :: (.own s22 3 1 (encs l42)) :: (.own s18 3 1 (encs ([(-1 : Int)] : List Int))) :: (.blk b16 (enc s11) 22) :: (.own Sl.nil 3 1 (encs ([] : List Int))) :: (.own s11 3 1 (encs l43)) :: (.blk b7 (enc (a0.length : Int)) 3) :: (.blk b5 (enc (PictureR.mk ({ Picture.zero with Have := ([] : List Int), Lanes := ([] : List (List Int)), Now := ([] : List Int) } : Picture) Sl.nil Sl.nil Sl.nil)) 28) :: (.own Sl.nil 3 1 (encs ([] : List Int))) :: (.own Sl.nil 22 1 (encs ([] : List (LR Int)))) :: (.own Sl.nil 3 1 (encs ([] : List Int))) :: L) rfl ?_
   have hm305 : ([(LR.mk l291 s290)] : List (LR Int)).map LR.v = ([l291] : List (List Int)) := rfl
   have ha306 : All LR.rel w0 F299 [] ([(LR.mk l291 s290)] : List (LR Int)) := All.of1 (hq302.mono fl (List.nil_sublist _))
   refine Lst.buildSlice (α := LR Int) (xs := ([(LR.mk l291 s290)] : List (LR Int))) (pv := [(0, Sl.v s290)]) rfl rfl (by decide) ⟨rfl, rfl, trivial⟩ (run_buildSlice (α := LR Int) (z0 := ((LR.mk [] Sl.nil) : LR Int)) (xs := ([(LR.mk l291 s290)] : List (LR Int))) Try.runUnderlying26 Try.sizeOf22 Try.zeroValue22 rfl rfl rfl (by decide) rfl (fill_cons (cs := encs (List.replicate 1 ((LR.mk [] Sl.nil) : LR Int))) (cs' := encs ((List.replicate 1 ((LR.mk [] Sl.nil) : LR Int)).set 0 (LR.mk l291 s290))) (vs := [Sl.v s290]) rfl rfl rfl ((Put.elemN (s := 1) (i := 0) (x := ((LR.mk [] Sl.nil) : LR Int)) (y := (LR.mk l291 s290)) rfl rfl (Put.here (vs := [Sl.v s290]) rfl)).off rfl) fill_nil)) rfl rfl (by decide) (fun s303 _ => ?_)
   obtain ⟨u307, h308, H⟩ := bind_some H
   have hm310 : (rs265 ++ ([(LR.mk l291 s290)] : List (LR Int))).map LR.v = y261.Lanes ++ ([l291] : List (List Int)) := map_app fm266 hm305
   have ha311 : All LR.rel w0 F299 M (rs265 ++ ([(LR.mk l291 s290)] : List (LR Int))) := All.app (All.monoLR fa268 (FLe.trans (FLe.trans hF284 hF293) hF300) (.refl _)) (All.monoLR ha306 fl (List.nil_sublist _))
   refine Lst.append (i := 3) (α := LR Int) (xs := rs265) (ys := ([(LR.mk l291 s290)] : List (LR Int))) rfl rfl (by decide) rfl rfl Try.runUnderlying26 Try.typeInfo22 rfl rfl rfl rfl rfl rfl (rdo 0 rfl rfl rfl) rfl (by have := room_some h308; have := map_len fm266; have := map_len hm305; omega) rfl (fun s309 => ?_)
   refine Lst.its (L' := (.own s303 22 1 (encs ([(LR.mk l291 s290)] : List (LR Int)))) :: (.own s277 3 1 (encs l278)) :: (.own s287 3 1 (encs (y261.Have ++ l278))) :: (.own s309 22 1 (encs (rs265 ++ ([(LR.mk l291 s290)] : List (LR Int))))) :: (.blk b235 (enc (PictureR.mk ({ y261 with Have := y261.Have ++ l278, Now := l43 } : Picture) s287 s264 s11)) 28) :: (.own s236 3 1 (encs l237)) :: (.own s238 22 1 (encs rs240)) :: (.own s243 3 1 (encs l244)) :: (.own s37 54 4 (encs l38)) :: (.blk b34 (enc s37) 52) :: (mitem b31 (fun x : Vector Int 2 => (.agg (enc x).toArray : Value)) (fun x : Int => (iv x : Value)) l40) :: (mitem b29 (fun x : Vector Int 2 => (.agg (enc x).toArray : Value)) (fun x : Int => (iv x : Value)) l41) :: (.blk b27 (enc s22) 22) :: (.own Sl.nil 3 1 (encs ([] : List Int))) :: (.own s22 3 1 (encs l42)) :: (.own s18 3 1 (encs ([(-1 : Int)] : List Int))) :: (.blk b16 (enc s11) 22) :: (.own Sl.nil 3 1 (encs ([] : List Int))) :: (.own s11 3 1 (encs l43)) :: (.blk b7 (enc (a0.length : Int)) 3) :: (.blk b5 (enc (PictureR.mk ({ Picture.zero with Have := ([] : List Int), Lanes := ([] : List (List Int)), Now := ([] : List Int) } : Picture) Sl.nil Sl.nil Sl.nil)) 28) :: (.own Sl.nil 3 1 (encs ([] : List Int))) :: (.own Sl.nil 22 1 (encs ([] : List (LR Int)))) :: (.own Sl.nil 3 1 (encs ([] : List Int))) :: L) rfl ?_
   refine Lst.r (Ev.fieldAddr (off' := 1) rfl Try.runUnderlying28 rfl Try.sizeOf26 rfl rfl) ?_
   refine Lst.store (i := 4) rfl rfl rfl rfl rfl Try.sizeOf26 (vs := [Sl.v s309]) rfl rfl rfl (cs' := enc (PictureR.mk ({ y261 with Have := y261.Have ++ l278, Lanes := y261.Lanes ++ ([l291] : List (List Int)), Now := l43 } : Picture) s287 s309 s11)) ((PictureR.put_Lanes (Put.here (vs := [Sl.v s309]) rfl)).off (by rfl)) (L' := (.own s303 22 1 (encs ([(LR.mk l291 s290)] : List (LR Int)))) :: (.own s277 3 1 (encs l278)) :: (.own s287 3 1 (encs (y261.Have ++ l278))) :: (.own s309 22 1 (encs (rs265 ++ ([(LR.mk l291 s290)] : List (LR Int))))) :: (.blk b235 (enc (PictureR.mk ({ y261 with Have := y261.Have ++ l278, Lanes := y261.Lanes ++ ([l291] : List (List Int)), Now := l43 } : Picture) s287 s309 s11)) 28) :: (.own s236 3 1 (encs l237)) :: (.own s238 22 1 (encs rs240)) :: (.own s243 3 1 (encs l244)) :: (.own s37 54 4 (encs l38)) :: (.blk b34 (enc s37) 52) :: (mitem b31 (fun x : Vector Int 2 => (.agg (enc x).toArray : Value)) (fun x : Int => (iv x : Value)) l40) :: (mitem b29 (fun x : Vector Int 2 => (.agg (enc x).toArray : Value)) (fun x : Int => (iv x : Value)) l41) :: (.blk b27 (enc s22) 22) :: (.own Sl.nil 3 1 (encs ([] : List Int))) :: (.own s22 3 1 (encs l42)) :: (.own s18 3 1 (encs ([(-1 : Int)] : List Int))) :: (.blk b16 (enc s11) 22) :: (.own Sl.nil 3 1 (encs ([] : List Int))) :: (.own s11 3 1 (encs l43)) :: (.blk b7 (enc (a0.length : Int)) 3) :: (.blk b5 (enc (PictureR.mk ({ Picture.zero with Have := ([] : List Int), Lanes := ([] : List (List Int)), Now := ([] : List Int) } : Picture) Sl.nil Sl.nil Sl.nil)) 28) :: (.own Sl.nil 3 1 (encs ([] : List Int))) :: (.own Sl.nil 22 1 (encs ([] : List (LR Int)))) :: (.own Sl.nil 3 1 (encs ([] : List Int))) :: L) rfl ?_
   refine Lst.nil ?_
   refine At.in_normal ?_
   refine At.then ?_
   refine Cd.region ?_
   refine Lst.r (Ev.incr (by omega) rfl rfl) ?_
   refine mv0 rfl ?_
   refine Lst.nil ?_
   refine At.less (L' := (.own s287 3 1 (encs (y261.Have ++ l278))) :: (.own s309 22 1 (encs (rs265 ++ ([(LR.mk l291 s290)] : List (LR Int))))) :: (.blk b235 (enc (PictureR.mk ({ y261 with Have := y261.Have ++ l278, Lanes := y261.Lanes ++ ([l291] : List (List Int)), Now := l43 } : Picture) s287 s309 s11)) 28) :: (.own s236 3 1 (encs l237)) :: (.own s238 22 1 (encs rs240)) :: (.own s243 3 1 (encs l244)) :: (.own s37 54 4 (encs l38)) :: (.blk b34 (enc s37) 52) :: (mitem b31 (fun x : Vector Int 2 => (.agg (enc x).toArray : Value)) (fun x : Int => (iv x : Value)) l40) :: (mitem b29 (fun x : Vector Int 2 => (.agg (enc x).toArray : Value)) (fun x : Int => (iv x : Value)) l41) :: (.blk b27 (enc s22) 22) :: (.own Sl.nil 3 1 (encs ([] : List Int))) :: (.own s22 3 1 (encs l42)) :: (.own s18 3 1 (encs ([(-1 : Int)] : List Int))) :: (.blk b16 (enc s11) 22) :: (.own Sl.nil 3 1 (encs ([] : List Int))) :: (.own s11 3 1 (encs l43)) :: (.blk b7 (enc (a0.length : Int)) 3) :: (.blk b5 (enc (PictureR.mk ({ Picture.zero with Have := ([] : List Int), Lanes := ([] : List (List Int)), Now := ([] : List Int) } : Picture) Sl.nil Sl.nil Sl.nil)) 28) :: (.own Sl.nil 3 1 (encs ([] : List Int))) :: (.own Sl.nil 22 1 (encs ([] : List (LR Int)))) :: (.own Sl.nil 3 1 (encs ([] : List Int))) :: L) (sc1 (sc1 (sk1 (sk1 (sk1 (sk1 (sk1 (sk1 (sk1 (sk1 (sk1 (sk1 (sk1 (sk1 (sk1 (sk1 (sk1 (sk1 (sk1 (sk1 (sk1 (sk1 (sk1 (sk1 (.refl _))))))))))))))))))))))))) ?_
   exact At.meet (i257 + 1, k257, ({ y261 with Have := y261.Have ++ l278, Lanes := y261.Lanes ++ ([l291] : List (List Int)), Now := l43 } : Picture), s287, s309, (rs265 ++ ([(LR.mk l291 s290)] : List (LR Int)))) (FLe.trans (FLe.trans (FLe.trans hF270 hF284) hF293) hF300) ⟨rfl, rfl, rfl, rfl, rfl, rfl, rfl, rfl, trivial⟩ rfl ⟨⟨hgo257 _ (some_inj H).symm, by omega, hm310, (All.monoLR ha311 fl (.refl _))⟩, Nat.lt_succ_self _⟩
  have hc289 : decide ((i289 : Int) < (a0.length : Int)) = true := decide_eq_true (by omega)
  obtain ⟨c289, H, hgo289⟩ := rangeF_go H
  unfold partref_Picture_B5x at H
  try dsimp only at H
  refine sr0 ?_
  refine Lst.r (Ev.lss rfl rfl) ?_
  refine nt0 ?_
  refine Cd.seq ?_
  refine Cd.condT rfl hc289 ?_
  refine Cd.skip ?_
  refine At.then ?_
  refine Cd.seq ?_
  refine Cd.block ?_
  refine sr0 ?_
  refine mv0 rfl ?_
  refine Lst.r (Ev.assign rfl) ?_
  refine nt0 ?_
  refine Cd.region ?_
  refine mv0 rfl ?_
  refine mv0 rfl ?_
  refine mv0 rfl ?_
  refine mv0 rfl ?_
  refine Lst.r (Ev.build (v := .agg (enc (#v[(i257 : Int), (i289 : Int)] : Vector Int 2)).toArray) (pv := [(0, iv (i257 : Int)), (1, iv (i289 : Int))]) ⟨rfl, rfl, ⟨rfl, rfl, trivial⟩⟩ (fun w => by kernel_rfl)) ?_
  refine Lst.r (Ev.lookup (i := 10) (kf := (fun x : Vector Int 2 => (.agg (enc x).toArray : Value))) (vf := (fun x : Int => (iv x : Value))) (m := l40) (k := (#v[(i257 : Int), (i289 : Int)] : Vector Int 2)) (z0 := (0 : Int)) rfl rfl rfl (KeyOk.ints Try.runUnderlying59 Try.runUnderlying3 Try.sizeOf3 Try.isAgg3 (fun x y w => eq59 x y w)) Try.runUnderlying51 Try.zeroValue3) ?_
  refine Lst.buildSlice (α := Int) (xs := ([(mget l40 (#v[(i257 : Int), (i289 : Int)] : Vector Int 2)).getD (0 : Int)] : List Int)) (pv := [(0, iv ((mget l40 (#v[(i257 : Int), (i289 : Int)] : Vector Int 2)).getD (0 : Int)))]) rfl rfl (by decide) ⟨rfl, rfl, trivial⟩ (run_buildSlice (α := Int) (z0 := (0 : Int)) (xs := ([(mget l40 (#v[(i257 : Int), (i289 : Int)] : Vector Int 2)).getD (0 : Int)] : List Int)) Try.runUnderlying22 Try.sizeOf3 Try.zeroValue3 rfl rfl rfl (by decide) rfl (fill_cons (cs := encs (List.replicate 1 (0 : Int))) (cs' := encs ((List.replicate 1 (0 : Int)).set 0 ((mget l40 (#v[(i257 : Int), (i289 : Int)] : Vector Int 2)).getD (0 : Int)))) (vs := [iv ((mget l40 (#v[(i257 : Int), (i289 : Int)] : Vector Int 2)).getD (0 : Int))]) rfl rfl rfl ((Put.elemN (s := 1) (i := 0) (x := (0 : Int)) (y := ((mget l40 (#v[(i257 : Int), (i289 : Int)] : Vector Int 2)).getD (0 : Int))) rfl rfl (Put.here (vs := [iv ((mget l40 (#v[(i257 : Int), (i289 : Int)] : Vector Int 2)).getD (0 : Int))]) rfl)).off rfl) fill_nil)) rfl rfl (by decide) (fun s294 _ => ?_)
  obtain ⟨u296, h297, H⟩ := bind_some H
  refine Lst.append (i := 1) (α := Int) (xs := l291) (ys := ([(mget l40 (#v[(i257 : Int), (i289 : Int)] : Vector Int 2)).getD (0 : Int)] : List Int)) rfl rfl (by decide) rfl rfl Try.runUnderlying22 Try.typeInfo3 rfl rfl rfl rfl rfl rfl (rdo 0 rfl rfl rfl) rfl (room_some h297) rfl (fun s298 => ?_)
  refine Lst.its (L' := (.own s294 3 1 (encs ([(mget l40 (#v[(i257 : Int), (i289 : Int)] : Vector Int 2)).getD (0 : Int)] : List Int))) :: (.own s298 3 1 (encs (l291 ++ ([(mget l40 (#v[(i257 : Int), (i289 : Int)] : Vector Int 2)).getD (0 : Int)] : List Int)))) :: (.own s277 3 1 (encs l278)) :: (.own s287 3 1 (encs (y261.Have ++ l278))) :: (.own s264 22 1 (encs rs265)) :: (.blk b235 (enc (PictureR.mk ({ y261 with Have := y261.Have ++ l278, Now := l43 } : Picture) s287 s264 s11)) 28) :: (.own s236 3 1 (encs l237)) :: (.own s238 22 1 (encs rs240)) :: (.own s243 3 1 (encs l244)) :: (.own s37 54 4 (encs l38)) :: (.blk b34 (enc s37) 52) :: (mitem b31 (fun x : Vector Int 2 => (.agg (enc x).toArray : Value)) (fun x : Int => (iv x : Value)) l40) :: (mitem b29 (fun x : Vector Int 2 => (.agg (enc x).toArray : Value)) (fun x : Int => (iv x : Value)) l41) :: (.blk b27 (enc s22) 22) :: (.own Sl.nil 3 1 (encs ([] : List Int))) :: (.own s22 3 1 (encs l42)) :: (.own s18 3 1 (encs ([(-1 : Int)] : List Int))) :: (.blk b16 (enc s11) 22) :: (.own Sl.nil 3 1 (encs ([] : List Int))) :: (.own s11 3 1 (encs l43)) :: (.blk b7 (enc (a0.length : Int)) 3) :: (.blk b5 (enc (PictureR.mk ({ Picture.zero with Have := ([] : List Int), Lanes := ([] : List (List Int)), Now := ([] : List Int) } : Picture) Sl.nil Sl.nil Sl.nil)) 28) :: (.own Sl.nil 3 1 (encs ([] : List Int))) :: (.own Sl.nil 22 1 (encs ([] : List (LR Int)))) :: (.own Sl.nil 3 1 (encs ([] : List Int))) :: L) rfl ?_
  refine Lst.r (Ev.assign rfl) ?_
  refine Lst.nil ?_
  refine At.in_normal ?_
  refine At.then ?_
  refine Cd.region ?_
  refine Lst.r (Ev.incr (by omega) rfl rfl) ?_
  refine mv0 rfl ?_
  refine Lst.nil ?_
  refine At.less (L' := (.own s298 3 1 (encs (l291 ++ ([(mget l40 (#v[(i257 : Int), (i289 : Int)] : Vector Int 2)).getD (0 : Int)] : List Int)))) :: (.own s277 3 1 (encs l278)) :: (.own s287 3 1 (encs (y261.Have ++ l278))) :: (.own s264 22 1 (encs rs265)) :: (.blk b235 (enc (PictureR.mk ({ y261 with Have := y261.Have ++ l278, Now := l43 } : Picture) s287 s264 s11)) 28) :: (.own s236 3 1 (encs l237)) :: (.own s238 22 1 (encs rs240)) :: (.own s243 3 1 (encs l244)) :: (.own s37 54 4 (encs l38)) :: (.blk b34 (enc s37) 52) :: (mitem b31 (fun x : Vector Int 2 => (.agg (enc x).toArray : Value)) (fun x : Int => (iv x : Value)) l40) :: (mitem b29 (fun x : Vector Int 2 => (.agg (enc x).toArray : Value)) (fun x : Int => (iv x : Value)) l41) :: (.blk b27 (enc s22) 22) :: (.own Sl.nil 3 1 (encs ([] : List Int))) :: (.own s22 3 1 (encs l42)) :: (.own s18 3 1 (encs ([(-1 : Int)] : List Int))) :: (.blk b16 (enc s11) 22) :: (.own Sl.nil 3 1 (encs ([] : List Int))) :: (.own s11 3 1 (encs l43)) :: (.blk b7 (enc (a0.length : Int)) 3) :: (.blk b5 (enc (PictureR.mk ({ Picture.zero with Have := ([] : List Int), Lanes := ([] : List (List Int)), Now := ([] : List Int) } : Picture) Sl.nil Sl.nil Sl.nil)) 28) :: (.own Sl.nil 3 1 (encs ([] : List Int))) :: (.own Sl.nil 22 1 (encs ([] : List (LR Int)))) :: (.own Sl.nil 3 1 (encs ([] : List Int))) :: L) (sc1 (sk1 (sk1 (sk1 (sk1 (sk1 (sk1 (sk1 (sk1 (sk1 (sk1 (sk1 (sk1 (sk1 (sk1 (sk1 (sk1 (sk1 (sk1 (sk1 (sk1 (sk1 (sk1 (sk1 (sk1 (.refl _)))))))))))))))))))))))))) ?_
  exact At.meet (i289 + 1, k289, s298, l291 ++ ([(mget l40 (#v[(i257 : Int), (i289 : Int)] : Vector Int 2)).getD (0 : Int)] : List Int)) hF293 ⟨rfl, rfl, rfl, rfl, rfl, rfl, rfl, rfl, rfl, rfl, rfl, rfl, trivial⟩ rfl ⟨⟨hgo289 _ (some_inj H).symm, by omega⟩, Nat.lt_succ_self _⟩
 have hc36 : decide ((i36 : Int) < (a1.length : Int)) = true := decide_eq_true (by omega)
 obtain ⟨c36, H, hgo36⟩ := rangeF_go H
 unfold partref_Picture_B0 at H
 try dsimp only at H
 refine sr0 ?_
 refine Lst.r (Ev.lss rfl rfl) ?_
 refine nt0 ?_
 refine Cd.seq ?_
 refine Cd.condT rfl hc36 ?_
 refine Cd.skip ?_
 refine At.then ?_
 refine Cd.seq ?_
 refine Cd.block ?_
 refine sr0 ?_
 obtain ⟨x46, h47, H⟩ := bind_some H
 have g48 := lat_some h47
 refine Lst.r (Ev.indexS (α := Move) (xs := a1) rfl rfl Try.runUnderlying23 Try.sizeOf35 rfl (by decide) (hs_a1.mono (FLe.trans (FLe.trans hF14 hF25) hF45) (sc8 (sc8 hM))) g48.1 g48.2.1) ?_
 refine Lst.r (Ev.loadSA (α := Move) rfl (hs_a1.mono (FLe.trans (FLe.trans hF14 hF25) hF45) (sc8 (sc8 hM))) Try.isAgg35 Try.sizeOf35 (ch := enc x46) (Enc.len _) (by decide) ((Get.elemN (s := 4) (x := x46) rfl g48.2.2 gh0).off (by omega))) ?_
 refine Lst.alloc (cs := enc Move.zero) rfl rfl (by decide) Try.zeroValue35 rfl (fun b49 => ?_)
 refine Lst.store (i := 0) rfl rfl rfl rfl rfl Try.sizeOf35 (vs := enc x46) rfl (Enc.len _) (Enc.one _) (cs' := enc x46) (Put.here ((Enc.len _).trans (Enc.len _).symm)) (L' := (.blk b49 (enc x46) 35) :: (.own s37 54 4 (encs l38)) :: (.blk b34 (enc s37) 52) :: (mitem b31 (fun x : Vector Int 2 => (.agg (enc x).toArray : Value)) (fun x : Int => (iv x : Value)) l40) :: (mitem b29 (fun x : Vector Int 2 => (.agg (enc x).toArray : Value)) (fun x : Int => (iv x : Value)) l41) :: (.blk b27 (enc s22) 22) :: (.own Sl.nil 3 1 (encs ([] : List Int))) :: (.own s22 3 1 (encs l42)) :: (.own s18 3 1 (encs ([(-1 : Int)] : List Int))) :: (.blk b16 (enc s11) 22) :: (.own Sl.nil 3 1 (encs ([] : List Int))) :: (.own s11 3 1 (encs l43)) :: (.blk b7 (enc (a0.length : Int)) 3) :: (.blk b5 (enc (PictureR.mk ({ Picture.zero with Have := ([] : List Int), Lanes := ([] : List (List Int)), Now := ([] : List Int) } : Picture) Sl.nil Sl.nil Sl.nil)) 28) :: (.own Sl.nil 3 1 (encs ([] : List Int))) :: (.own Sl.nil 22 1 (encs ([] : List (LR Int)))) :: (.own Sl.nil 3 1 (encs ([] : List Int))) :: L) rfl ?_
 refine nsr ?_
 refine Lst.r (Ev.fieldAddr (off' := 0) rfl Try.runUnderlying35 rfl Try.sizeOf3 rfl rfl) ?_
 refine Lst.r (Ev.load (i := 0) rfl rfl Try.isAgg3 (v := iv x46.Kind) ((Move.get_Kind gh0).off (by rfl))) ?_
 refine nt0 ?_
 refine Cd.block ?_
 refine sr0 ?_
 refine Lst.r (Ev.eql rfl rfl) ?_
 refine Lst.r (Ev.assign rfl) ?_
 refine nt0 ?_
 rcases Bool.eq_false_or_eq_true (x46.Kind == (1 : Int)) with hb51 | hb51
 ·replace H := ite_t hb51 H
  refine Cd.condT rfl hb51 ?_
  refine Cd.seq ?_
  refine Cd.quiet (by kernel_rfl) (by kernel_rfl) ?_
  refine Qt.r (Ev.load (i := 9) rfl rfl Try.isAgg22 (v := Sl.v s11) gh0) ?_
  refine Qt.r (Ev.fieldAddr (off' := 1) rfl Try.runUnderlying35 rfl Try.sizeOf3 rfl rfl) ?_
  refine Qt.r (Ev.load (i := 0) rfl rfl Try.isAgg3 (v := iv x46.From) ((Move.get_From gh0).off (by rfl))) ?_
  obtain ⟨x52, h53, H⟩ := bind_some H
  have g54 := lat_some h53
  refine Qt.r (Ev.indexS (α := Int) (xs := l43) rfl rfl Try.runUnderlying22 Try.sizeOf3 rfl (by decide) (rdo 11 rfl rfl rfl) g54.1 g54.2.1) ?_
  refine Qt.r (Ev.loadS (α := Int) rfl (rdo 11 rfl rfl rfl) Try.isAgg3 (v := iv x52) ((Get.elemN (s := 1) (x := x52) rfl g54.2.2 gh0).off (by omega))) ?_
  refine Qt.r (Ev.fieldAddr (off' := 3) rfl Try.runUnderlying35 rfl Try.sizeOf3 rfl rfl) ?_
  refine Qt.r (Ev.load (i := 0) rfl rfl Try.isAgg3 (v := iv x46.N) ((Move.get_N gh0).off (by rfl))) ?_
  refine Qt.r (Ev.geq rfl rfl) ?_
  refine Qt.done ?_
  refine At.then ?_
  rcases (Bool.eq_false_or_eq_true (decide (x52 ≥ x46.N))).symm with hb55 | hb55
  ·replace H := ite_f hb55 H
   refine Cd.condF rfl hb55 ?_
   refine Cd.skip ?_
   refine At.in_normal ?_
   refine At.in_normal ?_
   refine At.then ?_
   refine Cd.as (e' := [(4, pv b5 0), (5, pv b7 0), (6, pv b16 0), (7, pv b27 0), (8, .map (some b29)), (9, .map (some b31)), (10, pv b34 0), (11, .func (.func 18) #[] #[pv b27 0, pv b16 0, pv b7 0, pv b34 0]), (33, Sl.v s_a1), (34, iv (a1.length : Int)), (35, iv (i36 : Int))]) (L' := (.blk b49 (enc x46) 35) :: (.own s37 54 4 (encs l38)) :: (.blk b34 (enc s37) 52) :: (mitem b31 (fun x : Vector Int 2 => (.agg (enc x).toArray : Value)) (fun x : Int => (iv x : Value)) l40) :: (mitem b29 (fun x : Vector Int 2 => (.agg (enc x).toArray : Value)) (fun x : Int => (iv x : Value)) l41) :: (.blk b27 (enc s22) 22) :: (.own Sl.nil 3 1 (encs ([] : List Int))) :: (.own s22 3 1 (encs l42)) :: (.own s18 3 1 (encs ([(-1 : Int)] : List Int))) :: (.blk b16 (enc s11) 22) :: (.own Sl.nil 3 1 (encs ([] : List Int))) :: (.own s11 3 1 (encs l43)) :: (.blk b7 (enc (a0.length : Int)) 3) :: (.blk b5 (enc (PictureR.mk ({ Picture.zero with Have := ([] : List Int), Lanes := ([] : List (List Int)), Now := ([] : List Int) } : Picture) Sl.nil Sl.nil Sl.nil)) 28) :: (.own Sl.nil 3 1 (encs ([] : List Int))) :: (.own Sl.nil 22 1 (encs ([] : List (LR Int)))) :: (.own Sl.nil 3 1 (encs ([] : List Int))) :: L) ⟨rfl, rfl, rfl, rfl, rfl, rfl, rfl, rfl, rfl, rfl, rfl, trivial⟩ rfl ?_
   refine Cd.region ?_
   refine Lst.r (Ev.incr (by omega) rfl rfl) ?_
   refine mv0 rfl ?_
   refine Lst.nil ?_
   refine At.less (L' := (.own s37 54 4 (encs l38)) :: (.blk b34 (enc s37) 52) :: (mitem b31 (fun x : Vector Int 2 => (.agg (enc x).toArray : Value)) (fun x : Int => (iv x : Value)) l40) :: (mitem b29 (fun x : Vector Int 2 => (.agg (enc x).toArray : Value)) (fun x : Int => (iv x : Value)) l41) :: (.blk b27 (enc s22) 22) :: (.own Sl.nil 3 1 (encs ([] : List Int))) :: (.own s22 3 1 (encs l42)) :: (.own s18 3 1 (encs ([(-1 : Int)] : List Int))) :: (.blk b16 (enc s11) 22) :: (.own Sl.nil 3 1 (encs ([] : List Int))) :: (.own s11 3 1 (encs l43)) :: (.blk b7 (enc (a0.length : Int)) 3) :: (.blk b5 (enc (PictureR.mk ({ Picture.zero with Have := ([] : List Int), Lanes := ([] : List (List Int)), Now := ([] : List Int) } : Picture) Sl.nil Sl.nil Sl.nil)) 28) :: (.own Sl.nil 3 1 (encs ([] : List Int))) :: (.own Sl.nil 22 1 (encs ([] : List (LR Int)))) :: (.own Sl.nil 3 1 (encs ([] : List Int))) :: L) (sc1 (sk1 (sk1 (sk1 (sk1 (sk1 (sk1 (sk1 (sk1 (sk1 (sk1 (sk1 (sk1 (sk1 (sk1 (sk1 (sk1 (.refl _)))))))))))))))))) ?_
   exact At.meet (i36 + 1, k36, s37, l38, l40, l41, l42, l43) hF45 ⟨rfl, rfl, rfl, rfl, rfl, rfl, rfl, rfl, rfl, rfl, rfl, trivial⟩ rfl ⟨⟨hgo36 _ (some_inj H).symm, by omega⟩, Nat.lt_succ_self _⟩
  replace H := ite_t hb55 H
  refine Cd.condT rfl hb55 ?_
  refine Cd.seq ?_
  refine Cd.as (e' := [(4, pv b5 0), (5, pv b7 0), (6, pv b16 0), (7, pv b27 0), (8, .map (some b29)), (9, .map (some b31)), (10, pv b34 0), (11, .func (.func 18) #[] #[pv b27 0, pv b16 0, pv b7 0, pv b34 0]), (33, Sl.v s_a1), (34, iv (a1.length : Int)), (35, iv (i36 : Int)), (13, pv b49 0)]) (L' := (.blk b49 (enc x46) 35) :: (.own s37 54 4 (encs l38)) :: (.blk b34 (enc s37) 52) :: (mitem b31 (fun x : Vector Int 2 => (.agg (enc x).toArray : Value)) (fun x : Int => (iv x : Value)) l40) :: (mitem b29 (fun x : Vector Int 2 => (.agg (enc x).toArray : Value)) (fun x : Int => (iv x : Value)) l41) :: (.blk b27 (enc s22) 22) :: (.own Sl.nil 3 1 (encs ([] : List Int))) :: (.own s22 3 1 (encs l42)) :: (.own s18 3 1 (encs ([(-1 : Int)] : List Int))) :: (.blk b16 (enc s11) 22) :: (.own Sl.nil 3 1 (encs ([] : List Int))) :: (.own s11 3 1 (encs l43)) :: (.blk b7 (enc (a0.length : Int)) 3) :: (.blk b5 (enc (PictureR.mk ({ Picture.zero with Have := ([] : List Int), Lanes := ([] : List (List Int)), Now := ([] : List Int) } : Picture) Sl.nil Sl.nil Sl.nil)) 28) :: (.own Sl.nil 3 1 (encs ([] : List Int))) :: (.own Sl.nil 22 1 (encs ([] : List (LR Int)))) :: (.own Sl.nil 3 1 (encs ([] : List Int))) :: L) ⟨rfl, rfl, rfl, rfl, rfl, rfl, rfl, rfl, rfl, rfl, rfl, rfl, trivial⟩ rfl ?_
  refine Cd.tail 9 (by kernel_rfl) (by kernel_rfl) ?_
  refine Qt.r (Ev.load (i := 9) rfl rfl Try.isAgg22 (v := Sl.v s11) gh0) ?_
  refine Qt.r (Ev.fieldAddr (off' := 1) rfl Try.runUnderlying35 rfl Try.sizeOf3 rfl rfl) ?_
  refine Qt.r (Ev.load (i := 0) rfl rfl Try.isAgg3 (v := iv x46.From) ((Move.get_From gh0).off (by rfl))) ?_
  obtain ⟨x56, h57, H⟩ := bind_some H
  have g58 := lat_some h57
  refine Qt.r (Ev.indexS (α := Int) (xs := l43) rfl rfl Try.runUnderlying22 Try.sizeOf3 rfl (by decide) (rdo 11 rfl rfl rfl) g58.1 g58.2.1) ?_
  refine Qt.r (Ev.loadS (α := Int) rfl (rdo 11 rfl rfl rfl) Try.isAgg3 (v := iv x56) ((Get.elemN (s := 1) (x := x56) rfl g58.2.2 gh0).off (by omega))) ?_
  refine Qt.r (Ev.fieldAddr (off' := 3) rfl Try.runUnderlying35 rfl Try.sizeOf3 rfl rfl) ?_
  refine Qt.r (Ev.load (i := 0) rfl rfl Try.isAgg3 (v := iv x46.N) ((Move.get_N gh0).off (by rfl))) ?_
  refine Qt.r (Ev.sub rfl rfl) ?_
  obtain ⟨x59, h60, H⟩ := bind_some H
  have g61 := lat_some h60
  refine Qt.r (Ev.indexS (α := Int) (xs := l43) rfl rfl Try.runUnderlying22 Try.sizeOf3 rfl (by decide) (rdo 11 rfl rfl rfl) g61.1 g61.2.1) ?_
  refine Qt.tail ?_
  obtain ⟨p62, h63, H⟩ := Let_some H
  refine Lst.storeS (i := 11) rfl rfl rfl rfl rfl Try.sizeOf3 (vs := [iv (w64 (x56 - x46.N))]) rfl rfl (by decide) rfl (xs' := encs p62) (by rw [← h63]; exact (Put.elemN (s := 1) (x := x59) rfl g61.2.2 (Put.here (vs := [iv (w64 (x56 - x46.N))]) rfl)).off (by omega)) (L' := (.blk b49 (enc x46) 35) :: (.own s37 54 4 (encs l38)) :: (.blk b34 (enc s37) 52) :: (mitem b31 (fun x : Vector Int 2 => (.agg (enc x).toArray : Value)) (fun x : Int => (iv x : Value)) l40) :: (mitem b29 (fun x : Vector Int 2 => (.agg (enc x).toArray : Value)) (fun x : Int => (iv x : Value)) l41) :: (.blk b27 (enc s22) 22) :: (.own Sl.nil 3 1 (encs ([] : List Int))) :: (.own s22 3 1 (encs l42)) :: (.own s18 3 1 (encs ([(-1 : Int)] : List Int))) :: (.blk b16 (enc s11) 22) :: (.own Sl.nil 3 1 (encs ([] : List Int))) :: (.own s11 3 1 (encs p62)) :: (.blk b7 (enc (a0.length : Int)) 3) :: (.blk b5 (enc (PictureR.mk ({ Picture.zero with Have := ([] : List Int), Lanes := ([] : List (List Int)), Now := ([] : List Int) } : Picture) Sl.nil Sl.nil Sl.nil)) 28) :: (.own Sl.nil 3 1 (encs ([] : List Int))) :: (.own Sl.nil 22 1 (encs ([] : List (LR Int)))) :: (.own Sl.nil 3 1 (encs ([] : List Int))) :: L) rfl ?_
  refine nt0 ?_
  refine Cd.region ?_
  refine Lst.r (Ev.load (i := 2) rfl rfl Try.isAgg52 (v := Sl.v s37) gh0) ?_
  refine Lst.r (Ev.fieldAddr (off' := 1) rfl Try.runUnderlying35 rfl Try.sizeOf3 rfl rfl) ?_
  refine Lst.r (Ev.load (i := 0) rfl rfl Try.isAgg3 (v := iv x46.From) ((Move.get_From gh0).off (by rfl))) ?_
  refine Lst.r (Ev.fieldAddr (off' := 2) rfl Try.runUnderlying35 rfl Try.sizeOf3 rfl rfl) ?_
  refine Lst.r (Ev.load (i := 0) rfl rfl Try.isAgg3 (v := iv x46.To) ((Move.get_To gh0).off (by rfl))) ?_
  refine Lst.r (Ev.fieldAddr (off' := 3) rfl Try.runUnderlying35 rfl Try.sizeOf3 rfl rfl) ?_
  refine Lst.r (Ev.load (i := 0) rfl rfl Try.isAgg3 (v := iv x46.N) ((Move.get_N gh0).off (by rfl))) ?_
  refine Lst.r (Ev.build (v := .agg (enc ({ Thing.zero with from_ := x46.From, to := x46.To, n := x46.N, mark := false } : Thing)).toArray) (pv := [(0, iv x46.From), (1, iv x46.To), (2, iv x46.N), (3, .bool false)]) ⟨rfl, rfl, ⟨rfl, rfl, ⟨rfl, rfl, ⟨rfl, rfl, trivial⟩⟩⟩⟩ (fun w => by kernel_rfl)) ?_
  refine Lst.buildSlice (α := Thing) (xs := ([({ Thing.zero with from_ := x46.From, to := x46.To, n := x46.N, mark := false } : Thing)] : List Thing)) (pv := [(0, .agg (enc ({ Thing.zero with from_ := x46.From, to := x46.To, n := x46.N, mark := false } : Thing)).toArray)]) rfl rfl (by decide) ⟨rfl, rfl, trivial⟩ (run_buildSlice (α := Thing) (z0 := Thing.zero) (xs := ([({ Thing.zero with from_ := x46.From, to := x46.To, n := x46.N, mark := false } : Thing)] : List Thing)) Try.runUnderlying52 Try.sizeOf54 Try.zeroValue54 rfl rfl rfl (by decide) rfl (fill_cons (cs := encs (List.replicate 1 Thing.zero)) (cs' := encs ((List.replicate 1 Thing.zero).set 0 ({ Thing.zero with from_ := x46.From, to := x46.To, n := x46.N, mark := false } : Thing))) (vs := enc ({ Thing.zero with from_ := x46.From, to := x46.To, n := x46.N, mark := false } : Thing)) rfl rfl (Enc.len _) ((Put.elemN (s := 4) (i := 0) (x := Thing.zero) (y := ({ Thing.zero with from_ := x46.From, to := x46.To, n := x46.N, mark := false } : Thing)) rfl rfl (Put.here ((Enc.len _).trans (Enc.len _).symm))).off rfl) fill_nil)) rfl rfl (by decide) (fun s64 _ => ?_)
  obtain ⟨u66, h67, H⟩ := bind_some H
  refine Lst.append (i := 2) (α := Thing) (xs := l38) (ys := ([({ Thing.zero with from_ := x46.From, to := x46.To, n := x46.N, mark := false } : Thing)] : List Thing)) rfl rfl (by decide) rfl rfl Try.runUnderlying52 Try.typeInfo54 rfl rfl rfl rfl rfl rfl (rdo 0 rfl rfl rfl) rfl (room_some h67) rfl (fun s68 => ?_)
  refine Lst.its (L' := (.own s64 54 4 (encs ([({ Thing.zero with from_ := x46.From, to := x46.To, n := x46.N, mark := false } : Thing)] : List Thing))) :: (.blk b49 (enc x46) 35) :: (.own s68 54 4 (encs (l38 ++ ([({ Thing.zero with from_ := x46.From, to := x46.To, n := x46.N, mark := false } : Thing)] : List Thing)))) :: (.blk b34 (enc s37) 52) :: (mitem b31 (fun x : Vector Int 2 => (.agg (enc x).toArray : Value)) (fun x : Int => (iv x : Value)) l40) :: (mitem b29 (fun x : Vector Int 2 => (.agg (enc x).toArray : Value)) (fun x : Int => (iv x : Value)) l41) :: (.blk b27 (enc s22) 22) :: (.own Sl.nil 3 1 (encs ([] : List Int))) :: (.own s22 3 1 (encs l42)) :: (.own s18 3 1 (encs ([(-1 : Int)] : List Int))) :: (.blk b16 (enc s11) 22) :: (.own Sl.nil 3 1 (encs ([] : List Int))) :: (.own s11 3 1 (encs p62)) :: (.blk b7 (enc (a0.length : Int)) 3) :: (.blk b5 (enc (PictureR.mk ({ Picture.zero with Have := ([] : List Int), Lanes := ([] : List (List Int)), Now := ([] : List Int) } : Picture) Sl.nil Sl.nil Sl.nil)) 28) :: (.own Sl.nil 3 1 (encs ([] : List Int))) :: (.own Sl.nil 22 1 (encs ([] : List (LR Int)))) :: (.own Sl.nil 3 1 (encs ([] : List Int))) :: L) rfl ?_
  refine Lst.store (i := 3) rfl rfl rfl rfl rfl Try.sizeOf52 (vs := [Sl.v s68]) rfl rfl rfl (cs' := enc s68) (Put.here (vs := [Sl.v s68]) rfl) (L' := (.own s64 54 4 (encs ([({ Thing.zero with from_ := x46.From, to := x46.To, n := x46.N, mark := false } : Thing)] : List Thing))) :: (.blk b49 (enc x46) 35) :: (.own s68 54 4 (encs (l38 ++ ([({ Thing.zero with from_ := x46.From, to := x46.To, n := x46.N, mark := false } : Thing)] : List Thing)))) :: (.blk b34 (enc s68) 52) :: (mitem b31 (fun x : Vector Int 2 => (.agg (enc x).toArray : Value)) (fun x : Int => (iv x : Value)) l40) :: (mitem b29 (fun x : Vector Int 2 => (.agg (enc x).toArray : Value)) (fun x : Int => (iv x : Value)) l41) :: (.blk b27 (enc s22) 22) :: (.own Sl.nil 3 1 (encs ([] : List Int))) :: (.own s22 3 1 (encs l42)) :: (.own s18 3 1 (encs ([(-1 : Int)] : List Int))) :: (.blk b16 (enc s11) 22) :: (.own Sl.nil 3 1 (encs ([] : List Int))) :: (.own s11 3 1 (encs p62)) :: (.blk b7 (enc (a0.length : Int)) 3) :: (.blk b5 (enc (PictureR.mk ({ Picture.zero with Have := ([] : List Int), Lanes := ([] : List (List Int)), Now := ([] : List Int) } : Picture) Sl.nil Sl.nil Sl.nil)) 28) :: (.own Sl.nil 3 1 (encs ([] : List Int))) :: (.own Sl.nil 22 1 (encs ([] : List (LR Int)))) :: (.own Sl.nil 3 1 (encs ([] : List Int))) :: L) rfl ?_
  refine Lst.nil ?_
  refine At.in_normal ?_
  refine At.in_normal ?_
  refine At.then ?_
  refine Cd.as (e' := [(4, pv b5 0), (5, pv b7 0), (6, pv b16 0), (7, pv b27 0), (8, .map (some b29)), (9, .map (some b31)), (10, pv b34 0), (11, .func (.func 18) #[] #[pv b27 0, pv b16 0, pv b7 0, pv b34 0]), (33, Sl.v s_a1), (34, iv (a1.length : Int)), (35, iv (i36 : Int))]) (L' := (.own s64 54 4 (encs ([({ Thing.zero with from_ := x46.From, to := x46.To, n := x46.N, mark := false } : Thing)] : List Thing))) :: (.blk b49 (enc x46) 35) :: (.own s68 54 4 (encs (l38 ++ ([({ Thing.zero with from_ := x46.From, to := x46.To, n := x46.N, mark := false } : Thing)] : List Thing)))) :: (.blk b34 (enc s68) 52) :: (mitem b31 (fun x : Vector Int 2 => (.agg (enc x).toArray : Value)) (fun x : Int => (iv x : Value)) l40) :: (mitem b29 (fun x : Vector Int 2 => (.agg (enc x).toArray : Value)) (fun x : Int => (iv x : Value)) l41) :: (.blk b27 (enc s22) 22) :: (.own Sl.nil 3 1 (encs ([] : List Int))) :: (.own s22 3 1 (encs l42)) :: (.own s18 3 1 (encs ([(-1 : Int)] : List Int))) :: (.blk b16 (enc s11) 22) :: (.own Sl.nil 3 1 (encs ([] : List Int))) :: (.own s11 3 1 (encs p62)) :: (.blk b7 (enc (a0.length : Int)) 3) :: (.blk b5 (enc (PictureR.mk ({ Picture.zero with Have := ([] : List Int), Lanes := ([] : List (List Int)), Now := ([] : List Int) } : Picture) Sl.nil Sl.nil Sl.nil)) 28) :: (.own Sl.nil 3 1 (encs ([] : List Int))) :: (.own Sl.nil 22 1 (encs ([] : List (LR Int)))) :: (.own Sl.nil 3 1 (encs ([] : List Int))) :: L) ⟨rfl, rfl, rfl, rfl, rfl, rfl, rfl, rfl, rfl, rfl, rfl, trivial⟩ rfl ?_
  refine Cd.region ?_
  refine Lst.r (Ev.incr (by omega) rfl rfl) ?_
  refine mv0 rfl ?_
  refine Lst.nil ?_
  refine At.less (L' := (.own s68 54 4 (encs (l38 ++ ([({ Thing.zero with from_ := x46.From, to := x46.To, n := x46.N, mark := false } : Thing)] : List Thing)))) :: (.blk b34 (enc s68) 52) :: (mitem b31 (fun x : Vector Int 2 => (.agg (enc x).toArray : Value)) (fun x : Int => (iv x : Value)) l40) :: (mitem b29 (fun x : Vector Int 2 => (.agg (enc x).toArray : Value)) (fun x : Int => (iv x : Value)) l41) :: (.blk b27 (enc s22) 22) :: (.own Sl.nil 3 1 (encs ([] : List Int))) :: (.own s22 3 1 (encs l42)) :: (.own s18 3 1 (encs ([(-1 : Int)] : List Int))) :: (.blk b16 (enc s11) 22) :: (.own Sl.nil 3 1 (encs ([] : List Int))) :: (.own s11 3 1 (encs p62)) :: (.blk b7 (enc (a0.length : Int)) 3) :: (.blk b5 (enc (PictureR.mk ({ Picture.zero with Have := ([] : List Int), Lanes := ([] : List (List Int)), Now := ([] : List Int) } : Picture) Sl.nil Sl.nil Sl.nil)) 28) :: (.own Sl.nil 3 1 (encs ([] : List Int))) :: (.own Sl.nil 22 1 (encs ([] : List (LR Int)))) :: (.own Sl.nil 3 1 (encs ([] : List Int))) :: L) (sc1 (sc1 (sk1 (sk1 (sk1 (sk1 (sk1 (sk1 (sk1 (sk1 (sk1 (sk1 (sk1 (sk1 (sk1 (sk1 (sk1 (sk1 (.refl _))))))))))))))))))) ?_
  exact At.meet (i36 + 1, k36, s68, l38 ++ ([({ Thing.zero with from_ := x46.From, to := x46.To, n := x46.N, mark := false } : Thing)] : List Thing), l40, l41, l42, p62) hF45 ⟨rfl, rfl, rfl, rfl, rfl, rfl, rfl, rfl, rfl, rfl, rfl, trivial⟩ rfl ⟨⟨hgo36 _ (some_inj H).symm, by omega⟩, Nat.lt_succ_self _⟩
 replace H := ite_f hb51 H
 refine Cd.condF rfl hb51 ?_
 refine sr0 ?_
 refine Lst.r (Ev.eql rfl rfl) ?_
 refine Lst.r (Ev.assign rfl) ?_
 refine nt0 ?_
 rcases (Bool.eq_false_or_eq_true (x46.Kind == (2 : Int))).symm with hb69 | hb69
 ·replace H := ite_f hb69 H
  refine Cd.condF rfl hb69 ?_
  refine sr0 ?_
  refine Lst.r (Ev.eql rfl rfl) ?_
  refine Lst.r (Ev.assign rfl) ?_
  refine nt0 ?_
  rcases (Bool.eq_false_or_eq_true (x46.Kind == (3 : Int))).symm with hb70 | hb70
  ·replace H := ite_f hb70 H
   refine Cd.condF rfl hb70 ?_
   refine Cd.skip ?_
   refine At.in_normal ?_
   refine At.in_normal ?_
   refine At.then ?_
   refine Cd.region ?_
   refine Lst.r (Ev.incr (by omega) rfl rfl) ?_
   refine mv0 rfl ?_
   refine Lst.nil ?_
   refine At.less (L' := (.own s37 54 4 (encs l38)) :: (.blk b34 (enc s37) 52) :: (mitem b31 (fun x : Vector Int 2 => (.agg (enc x).toArray : Value)) (fun x : Int => (iv x : Value)) l40) :: (mitem b29 (fun x : Vector Int 2 => (.agg (enc x).toArray : Value)) (fun x : Int => (iv x : Value)) l41) :: (.blk b27 (enc s22) 22) :: (.own Sl.nil 3 1 (encs ([] : List Int))) :: (.own s22 3 1 (encs l42)) :: (.own s18 3 1 (encs ([(-1 : Int)] : List Int))) :: (.blk b16 (enc s11) 22) :: (.own Sl.nil 3 1 (encs ([] : List Int))) :: (.own s11 3 1 (encs l43)) :: (.blk b7 (enc (a0.length : Int)) 3) :: (.blk b5 (enc (PictureR.mk ({ Picture.zero with Have := ([] : List Int), Lanes := ([] : List (List Int)), Now := ([] : List Int) } : Picture) Sl.nil Sl.nil Sl.nil)) 28) :: (.own Sl.nil 3 1 (encs ([] : List Int))) :: (.own Sl.nil 22 1 (encs ([] : List (LR Int)))) :: (.own Sl.nil 3 1 (encs ([] : List Int))) :: L) (sc1 (sk1 (sk1 (sk1 (sk1 (sk1 (sk1 (sk1 (sk1 (sk1 (sk1 (sk1 (sk1 (sk1 (sk1 (sk1 (sk1 (.refl _)))))))))))))))))) ?_
   exact At.meet (i36 + 1, k36, s37, l38, l40, l41, l42, l43) hF45 ⟨rfl, rfl, rfl, rfl, rfl, rfl, rfl, rfl, rfl, rfl, rfl, trivial⟩ rfl ⟨⟨hgo36 _ (some_inj H).symm, by omega⟩, Nat.lt_succ_self _⟩
  replace H := ite_t hb70 H
  refine Cd.condT rfl hb70 ?_
  refine Cd.region ?_
  refine mv0 rfl ?_
  refine Lst.r (Ev.fieldAddr (off' := 1) rfl Try.runUnderlying35 rfl Try.sizeOf3 rfl rfl) ?_
  refine Lst.r (Ev.load (i := 0) rfl rfl Try.isAgg3 (v := iv x46.From) ((Move.get_From gh0).off (by rfl))) ?_
  obtain ⟨r71, h72, H⟩ := bind_some H
  refine Lst.front (i := 2) rfl rfl ?_
  refine Lst.front (i := 2) rfl rfl ?_
  refine Lst.front (i := 12) rfl (L' := (.blk b7 (enc (a0.length : Int)) 3) :: (.own s37 54 4 (encs l38)) :: (.blk b34 (enc s37) 52) :: (.blk b49 (enc x46) 35) :: (mitem b31 (fun x : Vector Int 2 => (.agg (enc x).toArray : Value)) (fun x : Int => (iv x : Value)) l40) :: (mitem b29 (fun x : Vector Int 2 => (.agg (enc x).toArray : Value)) (fun x : Int => (iv x : Value)) l41) :: (.blk b27 (enc s22) 22) :: (.own Sl.nil 3 1 (encs ([] : List Int))) :: (.own s22 3 1 (encs l42)) :: (.own s18 3 1 (encs ([(-1 : Int)] : List Int))) :: (.blk b16 (enc s11) 22) :: (.own Sl.nil 3 1 (encs ([] : List Int))) :: (.own s11 3 1 (encs l43)) :: (.blk b5 (enc (PictureR.mk ({ Picture.zero with Have := ([] : List Int), Lanes := ([] : List (List Int)), Now := ([] : List Int) } : Picture) Sl.nil Sl.nil Sl.nil)) 28) :: (.own Sl.nil 3 1 (encs ([] : List Int))) :: (.own Sl.nil 22 1 (encs ([] : List (LR Int)))) :: (.own Sl.nil 3 1 (encs ([] : List Int))) :: L) rfl ?_
  refine Lst.front (i := 10) rfl rfl ?_
  refine Lst.front (i := 7) rfl rfl ?_
  refine Lst.front (i := 9) rfl (L' := (.own s22 3 1 (encs l42)) :: (.blk b27 (enc s22) 22) :: (.blk b16 (enc s11) 22) :: (.blk b7 (enc (a0.length : Int)) 3) :: (.own s37 54 4 (encs l38)) :: (.blk b34 (enc s37) 52) :: (.blk b49 (enc x46) 35) :: (mitem b31 (fun x : Vector Int 2 => (.agg (enc x).toArray : Value)) (fun x : Int => (iv x : Value)) l40) :: (mitem b29 (fun x : Vector Int 2 => (.agg (enc x).toArray : Value)) (fun x : Int => (iv x : Value)) l41) :: (.own Sl.nil 3 1 (encs ([] : List Int))) :: (.own s18 3 1 (encs ([(-1 : Int)] : List Int))) :: (.own Sl.nil 3 1 (encs ([] : List Int))) :: (.own s11 3 1 (encs l43)) :: (.blk b5 (enc (PictureR.mk ({ Picture.zero with Have := ([] : List Int), Lanes := ([] : List (List Int)), Now := ([] : List Int) } : Picture) Sl.nil Sl.nil Sl.nil)) 28) :: (.own Sl.nil 3 1 (encs ([] : List Int))) :: (.own Sl.nil 22 1 (encs ([] : List (LR Int)))) :: (.own Sl.nil 3 1 (encs ([] : List Int))) :: L) rfl ?_
  refine Lst.callV rfl rfl (by decide) (vs := [iv x46.From]) (cs := [pv b27 0, pv b16 0, pv b7 0, pv b34 0]) rfl ⟨rfl, trivial⟩ Try.call18 (partref_Picture_1_sim h72 w0 _ _ _ (.refl _) (rdo 6 rfl rfl rfl)) (fun F74 L' v hF75 hv => ?_)
  obtain ⟨s73, rfl, rfl⟩ := hv
  refine Lst.nil ?_
  refine At.in_normal ?_
  refine At.in_normal ?_
  refine At.then ?_
  refine Cd.as (e' := [(4, pv b5 0), (5, pv b7 0), (6, pv b16 0), (7, pv b27 0), (8, .map (some b29)), (9, .map (some b31)), (10, pv b34 0), (11, .func (.func 18) #[] #[pv b27 0, pv b16 0, pv b7 0, pv b34 0]), (33, Sl.v s_a1), (34, iv (a1.length : Int)), (35, iv (i36 : Int))]) (L' := (.own s22 3 1 (encs r71.1)) :: (.blk b27 (enc s22) 22) :: (.blk b16 (enc s11) 22) :: (.blk b7 (enc (a0.length : Int)) 3) :: (.own s73 54 4 (encs r71.2)) :: (.blk b34 (enc s73) 52) :: (.blk b49 (enc x46) 35) :: (mitem b31 (fun x : Vector Int 2 => (.agg (enc x).toArray : Value)) (fun x : Int => (iv x : Value)) l40) :: (mitem b29 (fun x : Vector Int 2 => (.agg (enc x).toArray : Value)) (fun x : Int => (iv x : Value)) l41) :: (.own Sl.nil 3 1 (encs ([] : List Int))) :: (.own s18 3 1 (encs ([(-1 : Int)] : List Int))) :: (.own Sl.nil 3 1 (encs ([] : List Int))) :: (.own s11 3 1 (encs l43)) :: (.blk b5 (enc (PictureR.mk ({ Picture.zero with Have := ([] : List Int), Lanes := ([] : List (List Int)), Now := ([] : List Int) } : Picture) Sl.nil Sl.nil Sl.nil)) 28) :: (.own Sl.nil 3 1 (encs ([] : List Int))) :: (.own Sl.nil 22 1 (encs ([] : List (LR Int)))) :: (.own Sl.nil 3 1 (encs ([] : List Int))) :: L) ⟨rfl, rfl, rfl, rfl, rfl, rfl, rfl, rfl, rfl, rfl, rfl, trivial⟩ rfl ?_
  refine Cd.region ?_
  refine Lst.r (Ev.incr (by omega) rfl rfl) ?_
  refine mv0 rfl ?_
  refine Lst.nil ?_
  refine At.front (i := 12) rfl rfl ?_
  refine At.front (i := 12) rfl rfl ?_
  refine At.front (i := 4) rfl (L' := (.blk b16 (enc s11) 22) :: (.own Sl.nil 3 1 (encs ([] : List Int))) :: (.own s11 3 1 (encs l43)) :: (.own s22 3 1 (encs r71.1)) :: (.blk b27 (enc s22) 22) :: (.blk b7 (enc (a0.length : Int)) 3) :: (.own s73 54 4 (encs r71.2)) :: (.blk b34 (enc s73) 52) :: (.blk b49 (enc x46) 35) :: (mitem b31 (fun x : Vector Int 2 => (.agg (enc x).toArray : Value)) (fun x : Int => (iv x : Value)) l40) :: (mitem b29 (fun x : Vector Int 2 => (.agg (enc x).toArray : Value)) (fun x : Int => (iv x : Value)) l41) :: (.own Sl.nil 3 1 (encs ([] : List Int))) :: (.own s18 3 1 (encs ([(-1 : Int)] : List Int))) :: (.blk b5 (enc (PictureR.mk ({ Picture.zero with Have := ([] : List Int), Lanes := ([] : List (List Int)), Now := ([] : List Int) } : Picture) Sl.nil Sl.nil Sl.nil)) 28) :: (.own Sl.nil 3 1 (encs ([] : List Int))) :: (.own Sl.nil 22 1 (encs ([] : List (LR Int)))) :: (.own Sl.nil 3 1 (encs ([] : List Int))) :: L) rfl ?_
  refine At.front (i := 12) rfl rfl ?_
  refine At.front (i := 4) rfl rfl ?_
  refine At.front (i := 12) rfl (L' := (.own Sl.nil 3 1 (encs ([] : List Int))) :: (.own s22 3 1 (encs r71.1)) :: (.own s18 3 1 (encs ([(-1 : Int)] : List Int))) :: (.blk b16 (enc s11) 22) :: (.own Sl.nil 3 1 (encs ([] : List Int))) :: (.own s11 3 1 (encs l43)) :: (.blk b27 (enc s22) 22) :: (.blk b7 (enc (a0.length : Int)) 3) :: (.own s73 54 4 (encs r71.2)) :: (.blk b34 (enc s73) 52) :: (.blk b49 (enc x46) 35) :: (mitem b31 (fun x : Vector Int 2 => (.agg (enc x).toArray : Value)) (fun x : Int => (iv x : Value)) l40) :: (mitem b29 (fun x : Vector Int 2 => (.agg (enc x).toArray : Value)) (fun x : Int => (iv x : Value)) l41) :: (.blk b5 (enc (PictureR.mk ({ Picture.zero with Have := ([] : List Int), Lanes := ([] : List (List Int)), Now := ([] : List Int) } : Picture) Sl.nil Sl.nil Sl.nil)) 28) :: (.own Sl.nil 3 1 (encs ([] : List Int))) :: (.own Sl.nil 22 1 (encs ([] : List (LR Int)))) :: (.own Sl.nil 3 1 (encs ([] : List Int))) :: L) rfl ?_
  refine At.front (i := 6) rfl rfl ?_
  refine At.front (i := 12) rfl rfl ?_
  refine At.front (i := 12) rfl (L' := (mitem b31 (fun x : Vector Int 2 => (.agg (enc x).toArray : Value)) (fun x : Int => (iv x : Value)) l40) :: (mitem b29 (fun x : Vector Int 2 => (.agg (enc x).toArray : Value)) (fun x : Int => (iv x : Value)) l41) :: (.blk b27 (enc s22) 22) :: (.own Sl.nil 3 1 (encs ([] : List Int))) :: (.own s22 3 1 (encs r71.1)) :: (.own s18 3 1 (encs ([(-1 : Int)] : List Int))) :: (.blk b16 (enc s11) 22) :: (.own Sl.nil 3 1 (encs ([] : List Int))) :: (.own s11 3 1 (encs l43)) :: (.blk b7 (enc (a0.length : Int)) 3) :: (.own s73 54 4 (encs r71.2)) :: (.blk b34 (enc s73) 52) :: (.blk b49 (enc x46) 35) :: (.blk b5 (enc (PictureR.mk ({ Picture.zero with Have := ([] : List Int), Lanes := ([] : List (List Int)), Now := ([] : List Int) } : Picture) Sl.nil Sl.nil Sl.nil)) 28) :: (.own Sl.nil 3 1 (encs ([] : List Int))) :: (.own Sl.nil 22 1 (encs ([] : List (LR Int)))) :: (.own Sl.nil 3 1 (encs ([] : List Int))) :: L) rfl ?_
  refine At.front (i := 11) rfl rfl ?_
  refine At.front (i := 11) rfl (L' := (.own s73 54 4 (encs r71.2)) :: (.blk b34 (enc s73) 52) :: (mitem b31 (fun x : Vector Int 2 => (.agg (enc x).toArray : Value)) (fun x : Int => (iv x : Value)) l40) :: (mitem b29 (fun x : Vector Int 2 => (.agg (enc x).toArray : Value)) (fun x : Int => (iv x : Value)) l41) :: (.blk b27 (enc s22) 22) :: (.own Sl.nil 3 1 (encs ([] : List Int))) :: (.own s22 3 1 (encs r71.1)) :: (.own s18 3 1 (encs ([(-1 : Int)] : List Int))) :: (.blk b16 (enc s11) 22) :: (.own Sl.nil 3 1 (encs ([] : List Int))) :: (.own s11 3 1 (encs l43)) :: (.blk b7 (enc (a0.length : Int)) 3) :: (.blk b49 (enc x46) 35) :: (.blk b5 (enc (PictureR.mk ({ Picture.zero with Have := ([] : List Int), Lanes := ([] : List (List Int)), Now := ([] : List Int) } : Picture) Sl.nil Sl.nil Sl.nil)) 28) :: (.own Sl.nil 3 1 (encs ([] : List Int))) :: (.own Sl.nil 22 1 (encs ([] : List (LR Int)))) :: (.own Sl.nil 3 1 (encs ([] : List Int))) :: L) rfl ?_
  refine At.less (L' := (.own s73 54 4 (encs r71.2)) :: (.blk b34 (enc s73) 52) :: (mitem b31 (fun x : Vector Int 2 => (.agg (enc x).toArray : Value)) (fun x : Int => (iv x : Value)) l40) :: (mitem b29 (fun x : Vector Int 2 => (.agg (enc x).toArray : Value)) (fun x : Int => (iv x : Value)) l41) :: (.blk b27 (enc s22) 22) :: (.own Sl.nil 3 1 (encs ([] : List Int))) :: (.own s22 3 1 (encs r71.1)) :: (.own s18 3 1 (encs ([(-1 : Int)] : List Int))) :: (.blk b16 (enc s11) 22) :: (.own Sl.nil 3 1 (encs ([] : List Int))) :: (.own s11 3 1 (encs l43)) :: (.blk b7 (enc (a0.length : Int)) 3) :: (.blk b5 (enc (PictureR.mk ({ Picture.zero with Have := ([] : List Int), Lanes := ([] : List (List Int)), Now := ([] : List Int) } : Picture) Sl.nil Sl.nil Sl.nil)) 28) :: (.own Sl.nil 3 1 (encs ([] : List Int))) :: (.own Sl.nil 22 1 (encs ([] : List (LR Int)))) :: (.own Sl.nil 3 1 (encs ([] : List Int))) :: L) (sk1 (sk1 (sk1 (sk1 (sk1 (sk1 (sk1 (sk1 (sk1 (sk1 (sk1 (sk1 (sc1 (sk1 (sk1 (sk1 (sk1 (.refl _)))))))))))))))))) ?_
  exact At.meet (i36 + 1, k36, s73, r71.2, l40, l41, r71.1, l43) (FLe.trans hF45 hF75) ⟨rfl, rfl, rfl, rfl, rfl, rfl, rfl, rfl, rfl, rfl, rfl, trivial⟩ rfl ⟨⟨hgo36 _ (some_inj H).symm, by omega⟩, Nat.lt_succ_self _⟩
 replace H := ite_t hb69 H
 refine Cd.condT rfl hb69 ?_
 refine sr0 ?_
 refine Lst.r (Ev.load (i := 2) rfl rfl Try.isAgg52 (v := Sl.v s37) gh0) ?_
 refine Lst.r (Ev.makeFunc (us := []) (vs := [pv b49 0]) trivial ⟨rfl, trivial⟩) ?_
 obtain ⟨r76, h77, H⟩ := bind_some H
 refine Lst.call1 rfl rfl (by decide) (vs := [Sl.v s37, .func (.func 20) #[] #[pv b49 0]]) ⟨rfl, rfl, trivial⟩ Try.call19 (slices_IndexFunc_partref_thing_partref_thing_Picture_2_sim h77 w0 _ _ _ (.refl _) (rdo 0 rfl rfl rfl)) ?_
 refine Lst.r (Ev.assign rfl) ?_
 refine nt0 ?_
 refine Cd.seq ?_
 refine sr0 ?_
 refine mv0 rfl ?_
 refine Lst.r (Ev.lss rfl rfl) ?_
 refine nt0 ?_
 rcases Bool.eq_false_or_eq_true (decide (r76 < (0 : Int))) with hb80 | hb80
 ·replace H := ite_t hb80 H
  refine Cd.condT rfl hb80 ?_
  refine Cd.exit ?_
  refine At.then_exit ?_
  refine At.in_other rfl ?_
  refine At.in_exit ?_
  refine At.then ?_
  refine Cd.as (e' := [(4, pv b5 0), (5, pv b7 0), (6, pv b16 0), (7, pv b27 0), (8, .map (some b29)), (9, .map (some b31)), (10, pv b34 0), (11, .func (.func 18) #[] #[pv b27 0, pv b16 0, pv b7 0, pv b34 0]), (33, Sl.v s_a1), (34, iv (a1.length : Int)), (35, iv (i36 : Int))]) (L' := (.blk b49 (enc x46) 35) :: (.own s37 54 4 (encs l38)) :: (.blk b34 (enc s37) 52) :: (mitem b31 (fun x : Vector Int 2 => (.agg (enc x).toArray : Value)) (fun x : Int => (iv x : Value)) l40) :: (mitem b29 (fun x : Vector Int 2 => (.agg (enc x).toArray : Value)) (fun x : Int => (iv x : Value)) l41) :: (.blk b27 (enc s22) 22) :: (.own Sl.nil 3 1 (encs ([] : List Int))) :: (.own s22 3 1 (encs l42)) :: (.own s18 3 1 (encs ([(-1 : Int)] : List Int))) :: (.blk b16 (enc s11) 22) :: (.own Sl.nil 3 1 (encs ([] : List Int))) :: (.own s11 3 1 (encs l43)) :: (.blk b7 (enc (a0.length : Int)) 3) :: (.blk b5 (enc (PictureR.mk ({ Picture.zero with Have := ([] : List Int), Lanes := ([] : List (List Int)), Now := ([] : List Int) } : Picture) Sl.nil Sl.nil Sl.nil)) 28) :: (.own Sl.nil 3 1 (encs ([] : List Int))) :: (.own Sl.nil 22 1 (encs ([] : List (LR Int)))) :: (.own Sl.nil 3 1 (encs ([] : List Int))) :: L) ⟨rfl, rfl, rfl, rfl, rfl, rfl, rfl, rfl, rfl, rfl, rfl, trivial⟩ rfl ?_
  refine Cd.region ?_
  refine Lst.r (Ev.incr (by omega) rfl rfl) ?_
  refine mv0 rfl ?_
  refine Lst.nil ?_
  refine At.less (L' := (.own s37 54 4 (encs l38)) :: (.blk b34 (enc s37) 52) :: (mitem b31 (fun x : Vector Int 2 => (.agg (enc x).toArray : Value)) (fun x : Int => (iv x : Value)) l40) :: (mitem b29 (fun x : Vector Int 2 => (.agg (enc x).toArray : Value)) (fun x : Int => (iv x : Value)) l41) :: (.blk b27 (enc s22) 22) :: (.own Sl.nil 3 1 (encs ([] : List Int))) :: (.own s22 3 1 (encs l42)) :: (.own s18 3 1 (encs ([(-1 : Int)] : List Int))) :: (.blk b16 (enc s11) 22) :: (.own Sl.nil 3 1 (encs ([] : List Int))) :: (.own s11 3 1 (encs l43)) :: (.blk b7 (enc (a0.length : Int)) 3) :: (.blk b5 (enc (PictureR.mk ({ Picture.zero with Have := ([] : List Int), Lanes := ([] : List (List Int)), Now := ([] : List Int) } : Picture) Sl.nil Sl.nil Sl.nil)) 28) :: (.own Sl.nil 3 1 (encs ([] : List Int))) :: (.own Sl.nil 22 1 (encs ([] : List (LR Int)))) :: (.own Sl.nil 3 1 (encs ([] : List Int))) :: L) (sc1 (sk1 (sk1 (sk1 (sk1 (sk1 (sk1 (sk1 (sk1 (sk1 (sk1 (sk1 (sk1 (sk1 (sk1 (sk1 (sk1 (.refl _)))))))))))))))))) ?_
  exact At.meet (i36 + 1, k36, s37, l38, l40, l41, l42, l43) hF45 ⟨rfl, rfl, rfl, rfl, rfl, rfl, rfl, rfl, rfl, rfl, rfl, trivial⟩ rfl ⟨⟨hgo36 _ (some_inj H).symm, by omega⟩, Nat.lt_succ_self _⟩
 replace H := ite_f hb80 H
 refine Cd.condF rfl hb80 ?_
 refine Cd.skip ?_
 refine At.then ?_
 refine sr0 ?_
 refine Lst.r (Ev.load (i := 2) rfl rfl Try.isAgg52 (v := Sl.v s37) gh0) ?_
 refine mv0 rfl ?_
 obtain ⟨x81, h82, H⟩ := bind_some H
 have g83 := lat_some h82
 refine Lst.r (Ev.indexS (α := Thing) (xs := l38) rfl rfl Try.runUnderlying52 Try.sizeOf54 rfl (by decide) (rdo 1 rfl rfl rfl) g83.1 g83.2.1) ?_
 refine Lst.r (Ev.loadSA (α := Thing) rfl (rdo 1 rfl rfl rfl) Try.isAgg54 Try.sizeOf54 (ch := enc x81) (Enc.len _) (by decide) ((Get.elemN (s := 4) (x := x81) rfl g83.2.2 gh0).off (by omega))) ?_
 refine Lst.alloc (cs := enc Thing.zero) rfl rfl (by decide) Try.zeroValue54 rfl (fun b84 => ?_)
 refine Lst.store (i := 0) rfl rfl rfl rfl rfl Try.sizeOf54 (vs := enc x81) rfl (Enc.len _) (Enc.one _) (cs' := enc x81) (Put.here ((Enc.len _).trans (Enc.len _).symm)) (L' := (.blk b84 (enc x81) 54) :: (.blk b49 (enc x46) 35) :: (.own s37 54 4 (encs l38)) :: (.blk b34 (enc s37) 52) :: (mitem b31 (fun x : Vector Int 2 => (.agg (enc x).toArray : Value)) (fun x : Int => (iv x : Value)) l40) :: (mitem b29 (fun x : Vector Int 2 => (.agg (enc x).toArray : Value)) (fun x : Int => (iv x : Value)) l41) :: (.blk b27 (enc s22) 22) :: (.own Sl.nil 3 1 (encs ([] : List Int))) :: (.own s22 3 1 (encs l42)) :: (.own s18 3 1 (encs ([(-1 : Int)] : List Int))) :: (.blk b16 (enc s11) 22) :: (.own Sl.nil 3 1 (encs ([] : List Int))) :: (.own s11 3 1 (encs l43)) :: (.blk b7 (enc (a0.length : Int)) 3) :: (.blk b5 (enc (PictureR.mk ({ Picture.zero with Have := ([] : List Int), Lanes := ([] : List (List Int)), Now := ([] : List Int) } : Picture) Sl.nil Sl.nil Sl.nil)) 28) :: (.own Sl.nil 3 1 (encs ([] : List Int))) :: (.own Sl.nil 22 1 (encs ([] : List (LR Int)))) :: (.own Sl.nil 3 1 (encs ([] : List Int))) :: L) rfl ?_
 refine nt0 ?_
 refine Cd.seq ?_
 refine Cd.as (e' := [(4, pv b5 0), (5, pv b7 0), (6, pv b16 0), (7, pv b27 0), (8, .map (some b29)), (9, .map (some b31)), (10, pv b34 0), (11, .func (.func 18) #[] #[pv b27 0, pv b16 0, pv b7 0, pv b34 0]), (33, Sl.v s_a1), (34, iv (a1.length : Int)), (35, iv (i36 : Int)), (13, pv b49 0), (14, iv r76), (15, pv b84 0)]) (L' := (.blk b84 (enc x81) 54) :: (.blk b49 (enc x46) 35) :: (.own s37 54 4 (encs l38)) :: (.blk b34 (enc s37) 52) :: (mitem b31 (fun x : Vector Int 2 => (.agg (enc x).toArray : Value)) (fun x : Int => (iv x : Value)) l40) :: (mitem b29 (fun x : Vector Int 2 => (.agg (enc x).toArray : Value)) (fun x : Int => (iv x : Value)) l41) :: (.blk b27 (enc s22) 22) :: (.own Sl.nil 3 1 (encs ([] : List Int))) :: (.own s22 3 1 (encs l42)) :: (.own s18 3 1 (encs ([(-1 : Int)] : List Int))) :: (.blk b16 (enc s11) 22) :: (.own Sl.nil 3 1 (encs ([] : List Int))) :: (.own s11 3 1 (encs l43)) :: (.blk b7 (enc (a0.length : Int)) 3) :: (.blk b5 (enc (PictureR.mk ({ Picture.zero with Have := ([] : List Int), Lanes := ([] : List (List Int)), Now := ([] : List Int) } : Picture) Sl.nil Sl.nil Sl.nil)) 28) :: (.own Sl.nil 3 1 (encs ([] : List Int))) :: (.own Sl.nil 22 1 (encs ([] : List (LR Int)))) :: (.own Sl.nil 3 1 (encs ([] : List Int))) :: L) ⟨rfl, rfl, rfl, rfl, rfl, rfl, rfl, rfl, rfl, rfl, rfl, rfl, rfl, rfl, trivial⟩ rfl ?_
 refine Cd.region ?_
 refine Lst.r (Ev.load (i := 3) rfl rfl Try.isAgg52 (v := Sl.v s37) gh0) ?_
 refine mv0 rfl ?_
 refine mv0 rfl ?_
 refine Lst.r (Ev.add rfl rfl) ?_
 obtain ⟨r86, h87, H⟩ := bind_some H
 refine Lst.front (i := 2) rfl (L' := (.own s37 54 4 (encs l38)) :: (.blk b84 (enc x81) 54) :: (.blk b49 (enc x46) 35) :: (.blk b34 (enc s37) 52) :: (mitem b31 (fun x : Vector Int 2 => (.agg (enc x).toArray : Value)) (fun x : Int => (iv x : Value)) l40) :: (mitem b29 (fun x : Vector Int 2 => (.agg (enc x).toArray : Value)) (fun x : Int => (iv x : Value)) l41) :: (.blk b27 (enc s22) 22) :: (.own Sl.nil 3 1 (encs ([] : List Int))) :: (.own s22 3 1 (encs l42)) :: (.own s18 3 1 (encs ([(-1 : Int)] : List Int))) :: (.blk b16 (enc s11) 22) :: (.own Sl.nil 3 1 (encs ([] : List Int))) :: (.own s11 3 1 (encs l43)) :: (.blk b7 (enc (a0.length : Int)) 3) :: (.blk b5 (enc (PictureR.mk ({ Picture.zero with Have := ([] : List Int), Lanes := ([] : List (List Int)), Now := ([] : List Int) } : Picture) Sl.nil Sl.nil Sl.nil)) 28) :: (.own Sl.nil 3 1 (encs ([] : List Int))) :: (.own Sl.nil 22 1 (encs ([] : List (LR Int)))) :: (.own Sl.nil 3 1 (encs ([] : List Int))) :: L) rfl ?_
 refine Lst.call rfl rfl (by decide) (vs := [Sl.v s37, iv r76, iv (w64 (r76 + (1 : Int)))]) ⟨rfl, rfl, rfl, trivial⟩ Try.call21 (slices_Delete_partref_thing_partref_thing_sim h87 w0 _ M _ (sc8 (sc8 (sc1 hM)))) (fun F90 L' v hF91 hv => ?_)
 obtain ⟨s88, rfl, rfl⟩ := hv
 refine Lst.store (i := 3) rfl rfl rfl rfl rfl Try.sizeOf52 (vs := [Sl.v s88]) rfl rfl rfl (cs' := enc s88) (Put.here (vs := [Sl.v s88]) rfl) (L' := (.own s88 54 4 (encs r86)) :: (.blk b84 (enc x81) 54) :: (.blk b49 (enc x46) 35) :: (.blk b34 (enc s88) 52) :: (mitem b31 (fun x : Vector Int 2 => (.agg (enc x).toArray : Value)) (fun x : Int => (iv x : Value)) l40) :: (mitem b29 (fun x : Vector Int 2 => (.agg (enc x).toArray : Value)) (fun x : Int => (iv x : Value)) l41) :: (.blk b27 (enc s22) 22) :: (.own Sl.nil 3 1 (encs ([] : List Int))) :: (.own s22 3 1 (encs l42)) :: (.own s18 3 1 (encs ([(-1 : Int)] : List Int))) :: (.blk b16 (enc s11) 22) :: (.own Sl.nil 3 1 (encs ([] : List Int))) :: (.own s11 3 1 (encs l43)) :: (.blk b7 (enc (a0.length : Int)) 3) :: (.blk b5 (enc (PictureR.mk ({ Picture.zero with Have := ([] : List Int), Lanes := ([] : List (List Int)), Now := ([] : List Int) } : Picture) Sl.nil Sl.nil Sl.nil)) 28) :: (.own Sl.nil 3 1 (encs ([] : List Int))) :: (.own Sl.nil 22 1 (encs ([] : List (LR Int)))) :: (.own Sl.nil 3 1 (encs ([] : List Int))) :: L) rfl ?_
 refine nsr ?_
 refine Lst.r (Ev.fieldAddr (off' := 1) rfl Try.runUnderlying35 rfl Try.sizeOf3 rfl rfl) ?_
 refine Lst.r (Ev.load (i := 2) rfl rfl Try.isAgg3 (v := iv x46.From) ((Move.get_From gh0).off (by rfl))) ?_
 refine Lst.r (Ev.fieldAddr (off' := 2) rfl Try.runUnderlying35 rfl Try.sizeOf3 rfl rfl) ?_
 refine Lst.r (Ev.load (i := 2) rfl rfl Try.isAgg3 (v := iv x46.To) ((Move.get_To gh0).off (by rfl))) ?_
 refine Lst.r (Ev.build (v := .agg (enc (#v[x46.From, x46.To] : Vector Int 2)).toArray) (pv := [(0, iv x46.From), (1, iv x46.To)]) ⟨rfl, rfl, ⟨rfl, rfl, trivial⟩⟩ (fun w => by kernel_rfl)) ?_
 refine Lst.alloc (cs := enc (Vector.replicate 2 (0 : Int))) rfl rfl (by decide) Try.zeroValue59 rfl (fun b92 => ?_)
 refine Lst.store (i := 0) rfl rfl rfl rfl rfl Try.sizeOf59 (vs := enc (#v[x46.From, x46.To] : Vector Int 2)) rfl (Enc.len _) (Enc.one _) (cs' := enc (#v[x46.From, x46.To] : Vector Int 2)) (Put.here ((Enc.len _).trans (Enc.len _).symm)) (L' := (.blk b92 (enc (#v[x46.From, x46.To] : Vector Int 2)) 59) :: (.own s88 54 4 (encs r86)) :: (.blk b84 (enc x81) 54) :: (.blk b49 (enc x46) 35) :: (.blk b34 (enc s88) 52) :: (mitem b31 (fun x : Vector Int 2 => (.agg (enc x).toArray : Value)) (fun x : Int => (iv x : Value)) l40) :: (mitem b29 (fun x : Vector Int 2 => (.agg (enc x).toArray : Value)) (fun x : Int => (iv x : Value)) l41) :: (.blk b27 (enc s22) 22) :: (.own Sl.nil 3 1 (encs ([] : List Int))) :: (.own s22 3 1 (encs l42)) :: (.own s18 3 1 (encs ([(-1 : Int)] : List Int))) :: (.blk b16 (enc s11) 22) :: (.own Sl.nil 3 1 (encs ([] : List Int))) :: (.own s11 3 1 (encs l43)) :: (.blk b7 (enc (a0.length : Int)) 3) :: (.blk b5 (enc (PictureR.mk ({ Picture.zero with Have := ([] : List Int), Lanes := ([] : List (List Int)), Now := ([] : List Int) } : Picture) Sl.nil Sl.nil Sl.nil)) 28) :: (.own Sl.nil 3 1 (encs ([] : List Int))) :: (.own Sl.nil 22 1 (encs ([] : List (LR Int)))) :: (.own Sl.nil 3 1 (encs ([] : List Int))) :: L) rfl ?_
 refine nt0 ?_
 refine Cd.seq ?_
 refine sr0 ?_
 refine Lst.r (Ev.fieldAddr (off' := 3) rfl Try.runUnderlying54 rfl Try.sizeOf4 rfl rfl) ?_
 refine Lst.r (Ev.load (i := 2) rfl rfl Try.isAgg4 (v := .bool x81.mark) ((Thing.get_mark gh0).off (by rfl))) ?_
 refine nt0 ?_
 rcases Bool.eq_false_or_eq_true x81.mark with hb94 | hb94
 ·replace H := ite_t hb94 H
  refine Cd.condT rfl hb94 ?_
  refine sr0 ?_
  refine mv0 rfl ?_
  refine Lst.r (Ev.fieldAddr (off' := 2) rfl Try.runUnderlying35 rfl Try.sizeOf3 rfl rfl) ?_
  refine Lst.r (Ev.load (i := 3) rfl rfl Try.isAgg3 (v := iv x46.To) ((Move.get_To gh0).off (by rfl))) ?_
  obtain ⟨r95, h96, H⟩ := bind_some H
  refine Lst.front (i := 4) rfl rfl ?_
  refine Lst.front (i := 2) rfl rfl ?_
  refine Lst.front (i := 14) rfl (L' := (.blk b7 (enc (a0.length : Int)) 3) :: (.own s88 54 4 (encs r86)) :: (.blk b34 (enc s88) 52) :: (.blk b92 (enc (#v[x46.From, x46.To] : Vector Int 2)) 59) :: (.blk b84 (enc x81) 54) :: (.blk b49 (enc x46) 35) :: (mitem b31 (fun x : Vector Int 2 => (.agg (enc x).toArray : Value)) (fun x : Int => (iv x : Value)) l40) :: (mitem b29 (fun x : Vector Int 2 => (.agg (enc x).toArray : Value)) (fun x : Int => (iv x : Value)) l41) :: (.blk b27 (enc s22) 22) :: (.own Sl.nil 3 1 (encs ([] : List Int))) :: (.own s22 3 1 (encs l42)) :: (.own s18 3 1 (encs ([(-1 : Int)] : List Int))) :: (.blk b16 (enc s11) 22) :: (.own Sl.nil 3 1 (encs ([] : List Int))) :: (.own s11 3 1 (encs l43)) :: (.blk b5 (enc (PictureR.mk ({ Picture.zero with Have := ([] : List Int), Lanes := ([] : List (List Int)), Now := ([] : List Int) } : Picture) Sl.nil Sl.nil Sl.nil)) 28) :: (.own Sl.nil 3 1 (encs ([] : List Int))) :: (.own Sl.nil 22 1 (encs ([] : List (LR Int)))) :: (.own Sl.nil 3 1 (encs ([] : List Int))) :: L) rfl ?_
  refine Lst.front (i := 12) rfl rfl ?_
  refine Lst.front (i := 9) rfl rfl ?_
  refine Lst.front (i := 11) rfl (L' := (.own s22 3 1 (encs l42)) :: (.blk b27 (enc s22) 22) :: (.blk b16 (enc s11) 22) :: (.blk b7 (enc (a0.length : Int)) 3) :: (.own s88 54 4 (encs r86)) :: (.blk b34 (enc s88) 52) :: (.blk b92 (enc (#v[x46.From, x46.To] : Vector Int 2)) 59) :: (.blk b84 (enc x81) 54) :: (.blk b49 (enc x46) 35) :: (mitem b31 (fun x : Vector Int 2 => (.agg (enc x).toArray : Value)) (fun x : Int => (iv x : Value)) l40) :: (mitem b29 (fun x : Vector Int 2 => (.agg (enc x).toArray : Value)) (fun x : Int => (iv x : Value)) l41) :: (.own Sl.nil 3 1 (encs ([] : List Int))) :: (.own s18 3 1 (encs ([(-1 : Int)] : List Int))) :: (.own Sl.nil 3 1 (encs ([] : List Int))) :: (.own s11 3 1 (encs l43)) :: (.blk b5 (enc (PictureR.mk ({ Picture.zero with Have := ([] : List Int), Lanes := ([] : List (List Int)), Now := ([] : List Int) } : Picture) Sl.nil Sl.nil Sl.nil)) 28) :: (.own Sl.nil 3 1 (encs ([] : List Int))) :: (.own Sl.nil 22 1 (encs ([] : List (LR Int)))) :: (.own Sl.nil 3 1 (encs ([] : List Int))) :: L) rfl ?_
  refine Lst.callV rfl rfl (by decide) (vs := [iv x46.To]) (cs := [pv b27 0, pv b16 0, pv b7 0, pv b34 0]) rfl ⟨rfl, trivial⟩ Try.call18 (partref_Picture_1_sim h96 w0 _ _ _ (.refl _) (rdo 8 rfl rfl rfl)) (fun F98 L' v hF99 hv => ?_)
  obtain ⟨s97, rfl, rfl⟩ := hv
  refine nt0 ?_
  refine Cd.seq ?_
  refine Cd.as (e' := [(4, pv b5 0), (5, pv b7 0), (6, pv b16 0), (7, pv b27 0), (8, .map (some b29)), (9, .map (some b31)), (10, pv b34 0), (11, .func (.func 18) #[] #[pv b27 0, pv b16 0, pv b7 0, pv b34 0]), (33, Sl.v s_a1), (34, iv (a1.length : Int)), (35, iv (i36 : Int)), (16, pv b92 0)]) (L' := (.own s22 3 1 (encs r95.1)) :: (.blk b27 (enc s22) 22) :: (.blk b16 (enc s11) 22) :: (.blk b7 (enc (a0.length : Int)) 3) :: (.own s97 54 4 (encs r95.2)) :: (.blk b34 (enc s97) 52) :: (.blk b92 (enc (#v[x46.From, x46.To] : Vector Int 2)) 59) :: (.blk b84 (enc x81) 54) :: (.blk b49 (enc x46) 35) :: (mitem b31 (fun x : Vector Int 2 => (.agg (enc x).toArray : Value)) (fun x : Int => (iv x : Value)) l40) :: (mitem b29 (fun x : Vector Int 2 => (.agg (enc x).toArray : Value)) (fun x : Int => (iv x : Value)) l41) :: (.own Sl.nil 3 1 (encs ([] : List Int))) :: (.own s18 3 1 (encs ([(-1 : Int)] : List Int))) :: (.own Sl.nil 3 1 (encs ([] : List Int))) :: (.own s11 3 1 (encs l43)) :: (.blk b5 (enc (PictureR.mk ({ Picture.zero with Have := ([] : List Int), Lanes := ([] : List (List Int)), Now := ([] : List Int) } : Picture) Sl.nil Sl.nil Sl.nil)) 28) :: (.own Sl.nil 3 1 (encs ([] : List Int))) :: (.own Sl.nil 22 1 (encs ([] : List (LR Int)))) :: (.own Sl.nil 3 1 (encs ([] : List Int))) :: L) ⟨rfl, rfl, rfl, rfl, rfl, rfl, rfl, rfl, rfl, rfl, rfl, rfl, trivial⟩ rfl ?_
  refine Cd.region ?_
  refine mv0 rfl ?_
  refine Lst.r (Ev.loadA (i := 6) rfl rfl Try.isAgg59 Try.sizeOf59 (ch := enc (#v[x46.From, x46.To] : Vector Int 2)) (Enc.len _) gh0) ?_
  obtain ⟨m100, h101, H⟩ := Let_some H
  refine Lst.mapUpdate (i := 10) (kf := (fun x : Vector Int 2 => (.agg (enc x).toArray : Value))) (vf := (fun x : Int => (iv x : Value))) (m := l41) (k := (#v[x46.From, x46.To] : Vector Int 2)) (v := (1 : Int)) rfl rfl rfl rfl rfl rfl (KeyOk.ints Try.runUnderlying59 Try.runUnderlying3 Try.sizeOf3 Try.isAgg3 (fun x y w => eq59 x y w)) Try.runUnderlying51 ?_
  refine Lst.its (L' := (.own s22 3 1 (encs r95.1)) :: (.blk b27 (enc s22) 22) :: (.blk b16 (enc s11) 22) :: (.blk b7 (enc (a0.length : Int)) 3) :: (.own s97 54 4 (encs r95.2)) :: (.blk b34 (enc s97) 52) :: (.blk b92 (enc (#v[x46.From, x46.To] : Vector Int 2)) 59) :: (.blk b84 (enc x81) 54) :: (.blk b49 (enc x46) 35) :: (mitem b31 (fun x : Vector Int 2 => (.agg (enc x).toArray : Value)) (fun x : Int => (iv x : Value)) l40) :: (mitem b29 (fun x : Vector Int 2 => (.agg (enc x).toArray : Value)) (fun x : Int => (iv x : Value)) m100) :: (.own Sl.nil 3 1 (encs ([] : List Int))) :: (.own s18 3 1 (encs ([(-1 : Int)] : List Int))) :: (.own Sl.nil 3 1 (encs ([] : List Int))) :: (.own s11 3 1 (encs l43)) :: (.blk b5 (enc (PictureR.mk ({ Picture.zero with Have := ([] : List Int), Lanes := ([] : List (List Int)), Now := ([] : List Int) } : Picture) Sl.nil Sl.nil Sl.nil)) 28) :: (.own Sl.nil 3 1 (encs ([] : List Int))) :: (.own Sl.nil 22 1 (encs ([] : List (LR Int)))) :: (.own Sl.nil 3 1 (encs ([] : List Int))) :: L) (by rw [← h101]; rfl) ?_
  refine nt0 ?_
  refine Cd.exit ?_
  refine At.then_exit ?_
  refine At.in_other rfl ?_
  refine At.in_exit ?_
  refine At.then ?_
  refine Cd.region ?_
  refine Lst.r (Ev.incr (by omega) rfl rfl) ?_
  refine mv0 rfl ?_
  refine Lst.nil ?_
  refine At.front (i := 14) rfl rfl ?_
  refine At.front (i := 14) rfl rfl ?_
  refine At.front (i := 4) rfl (L' := (.blk b16 (enc s11) 22) :: (.own Sl.nil 3 1 (encs ([] : List Int))) :: (.own s11 3 1 (encs l43)) :: (.own s22 3 1 (encs r95.1)) :: (.blk b27 (enc s22) 22) :: (.blk b7 (enc (a0.length : Int)) 3) :: (.own s97 54 4 (encs r95.2)) :: (.blk b34 (enc s97) 52) :: (.blk b92 (enc (#v[x46.From, x46.To] : Vector Int 2)) 59) :: (.blk b84 (enc x81) 54) :: (.blk b49 (enc x46) 35) :: (mitem b31 (fun x : Vector Int 2 => (.agg (enc x).toArray : Value)) (fun x : Int => (iv x : Value)) l40) :: (mitem b29 (fun x : Vector Int 2 => (.agg (enc x).toArray : Value)) (fun x : Int => (iv x : Value)) m100) :: (.own Sl.nil 3 1 (encs ([] : List Int))) :: (.own s18 3 1 (encs ([(-1 : Int)] : List Int))) :: (.blk b5 (enc (PictureR.mk ({ Picture.zero with Have := ([] : List Int), Lanes := ([] : List (List Int)), Now := ([] : List Int) } : Picture) Sl.nil Sl.nil Sl.nil)) 28) :: (.own Sl.nil 3 1 (encs ([] : List Int))) :: (.own Sl.nil 22 1 (encs ([] : List (LR Int)))) :: (.own Sl.nil 3 1 (encs ([] : List Int))) :: L) rfl ?_
  refine At.front (i := 14) rfl rfl ?_
  refine At.front (i := 4) rfl rfl ?_
  refine At.front (i := 14) rfl (L' := (.own Sl.nil 3 1 (encs ([] : List Int))) :: (.own s22 3 1 (encs r95.1)) :: (.own s18 3 1 (encs ([(-1 : Int)] : List Int))) :: (.blk b16 (enc s11) 22) :: (.own Sl.nil 3 1 (encs ([] : List Int))) :: (.own s11 3 1 (encs l43)) :: (.blk b27 (enc s22) 22) :: (.blk b7 (enc (a0.length : Int)) 3) :: (.own s97 54 4 (encs r95.2)) :: (.blk b34 (enc s97) 52) :: (.blk b92 (enc (#v[x46.From, x46.To] : Vector Int 2)) 59) :: (.blk b84 (enc x81) 54) :: (.blk b49 (enc x46) 35) :: (mitem b31 (fun x : Vector Int 2 => (.agg (enc x).toArray : Value)) (fun x : Int => (iv x : Value)) l40) :: (mitem b29 (fun x : Vector Int 2 => (.agg (enc x).toArray : Value)) (fun x : Int => (iv x : Value)) m100) :: (.blk b5 (enc (PictureR.mk ({ Picture.zero with Have := ([] : List Int), Lanes := ([] : List (List Int)), Now := ([] : List Int) } : Picture) Sl.nil Sl.nil Sl.nil)) 28) :: (.own Sl.nil 3 1 (encs ([] : List Int))) :: (.own Sl.nil 22 1 (encs ([] : List (LR Int)))) :: (.own Sl.nil 3 1 (encs ([] : List Int))) :: L) rfl ?_
  refine At.front (i := 6) rfl rfl ?_
  refine At.front (i := 14) rfl rfl ?_
  refine At.front (i := 14) rfl (L' := (mitem b31 (fun x : Vector Int 2 => (.agg (enc x).toArray : Value)) (fun x : Int => (iv x : Value)) l40) :: (mitem b29 (fun x : Vector Int 2 => (.agg (enc x).toArray : Value)) (fun x : Int => (iv x : Value)) m100) :: (.blk b27 (enc s22) 22) :: (.own Sl.nil 3 1 (encs ([] : List Int))) :: (.own s22 3 1 (encs r95.1)) :: (.own s18 3 1 (encs ([(-1 : Int)] : List Int))) :: (.blk b16 (enc s11) 22) :: (.own Sl.nil 3 1 (encs ([] : List Int))) :: (.own s11 3 1 (encs l43)) :: (.blk b7 (enc (a0.length : Int)) 3) :: (.own s97 54 4 (encs r95.2)) :: (.blk b34 (enc s97) 52) :: (.blk b92 (enc (#v[x46.From, x46.To] : Vector Int 2)) 59) :: (.blk b84 (enc x81) 54) :: (.blk b49 (enc x46) 35) :: (.blk b5 (enc (PictureR.mk ({ Picture.zero with Have := ([] : List Int), Lanes := ([] : List (List Int)), Now := ([] : List Int) } : Picture) Sl.nil Sl.nil Sl.nil)) 28) :: (.own Sl.nil 3 1 (encs ([] : List Int))) :: (.own Sl.nil 22 1 (encs ([] : List (LR Int)))) :: (.own Sl.nil 3 1 (encs ([] : List Int))) :: L) rfl ?_
  refine At.front (i := 11) rfl rfl ?_
  refine At.front (i := 11) rfl (L' := (.own s97 54 4 (encs r95.2)) :: (.blk b34 (enc s97) 52) :: (mitem b31 (fun x : Vector Int 2 => (.agg (enc x).toArray : Value)) (fun x : Int => (iv x : Value)) l40) :: (mitem b29 (fun x : Vector Int 2 => (.agg (enc x).toArray : Value)) (fun x : Int => (iv x : Value)) m100) :: (.blk b27 (enc s22) 22) :: (.own Sl.nil 3 1 (encs ([] : List Int))) :: (.own s22 3 1 (encs r95.1)) :: (.own s18 3 1 (encs ([(-1 : Int)] : List Int))) :: (.blk b16 (enc s11) 22) :: (.own Sl.nil 3 1 (encs ([] : List Int))) :: (.own s11 3 1 (encs l43)) :: (.blk b7 (enc (a0.length : Int)) 3) :: (.blk b92 (enc (#v[x46.From, x46.To] : Vector Int 2)) 59) :: (.blk b84 (enc x81) 54) :: (.blk b49 (enc x46) 35) :: (.blk b5 (enc (PictureR.mk ({ Picture.zero with Have := ([] : List Int), Lanes := ([] : List (List Int)), Now := ([] : List Int) } : Picture) Sl.nil Sl.nil Sl.nil)) 28) :: (.own Sl.nil 3 1 (encs ([] : List Int))) :: (.own Sl.nil 22 1 (encs ([] : List (LR Int)))) :: (.own Sl.nil 3 1 (encs ([] : List Int))) :: L) rfl ?_
  refine At.less (L' := (.own s97 54 4 (encs r95.2)) :: (.blk b34 (enc s97) 52) :: (mitem b31 (fun x : Vector Int 2 => (.agg (enc x).toArray : Value)) (fun x : Int => (iv x : Value)) l40) :: (mitem b29 (fun x : Vector Int 2 => (.agg (enc x).toArray : Value)) (fun x : Int => (iv x : Value)) m100) :: (.blk b27 (enc s22) 22) :: (.own Sl.nil 3 1 (encs ([] : List Int))) :: (.own s22 3 1 (encs r95.1)) :: (.own s18 3 1 (encs ([(-1 : Int)] : List Int))) :: (.blk b16 (enc s11) 22) :: (.own Sl.nil 3 1 (encs ([] : List Int))) :: (.own s11 3 1 (encs l43)) :: (.blk b7 (enc (a0.length : Int)) 3) :: (.blk b5 (enc (PictureR.mk ({ Picture.zero with Have := ([] : List Int), Lanes := ([] : List (List Int)), Now := ([] : List Int) } : Picture) Sl.nil Sl.nil Sl.nil)) 28) :: (.own Sl.nil 3 1 (encs ([] : List Int))) :: (.own Sl.nil 22 1 (encs ([] : List (LR Int)))) :: (.own Sl.nil 3 1 (encs ([] : List Int))) :: L) (sk1 (sk1 (sk1 (sk1 (sk1 (sk1 (sk1 (sk1 (sk1 (sk1 (sk1 (sk1 (sc1 (sc1 (sc1 (sk1 (sk1 (sk1 (sk1 (.refl _)))))))))))))))))))) ?_
  exact At.meet (i36 + 1, k36, s97, r95.2, l40, m100, r95.1, l43) (FLe.trans (FLe.trans hF45 hF91) hF99) ⟨rfl, rfl, rfl, rfl, rfl, rfl, rfl, rfl, rfl, rfl, rfl, trivial⟩ rfl ⟨⟨hgo36 _ (some_inj H).symm, by omega⟩, Nat.lt_succ_self _⟩
 replace H := ite_f hb94 H
 refine Cd.condF rfl hb94 ?_
 refine Cd.skip ?_
 refine At.then ?_
 refine Cd.seq ?_
 refine Cd.tail 9 (by kernel_rfl) (by kernel_rfl) ?_
 refine Qt.r (Ev.load (i := 11) rfl rfl Try.isAgg22 (v := Sl.v s11) gh0) ?_
 refine Qt.r (Ev.fieldAddr (off' := 2) rfl Try.runUnderlying35 rfl Try.sizeOf3 rfl rfl) ?_
 refine Qt.r (Ev.load (i := 3) rfl rfl Try.isAgg3 (v := iv x46.To) ((Move.get_To gh0).off (by rfl))) ?_
 obtain ⟨x102, h103, H⟩ := bind_some H
 have g104 := lat_some h103
 refine Qt.r (Ev.indexS (α := Int) (xs := l43) rfl rfl Try.runUnderlying22 Try.sizeOf3 rfl (by decide) (rdo 13 rfl rfl rfl) g104.1 g104.2.1) ?_
 refine Qt.r (Ev.loadS (α := Int) rfl (rdo 13 rfl rfl rfl) Try.isAgg3 (v := iv x102) ((Get.elemN (s := 1) (x := x102) rfl g104.2.2 gh0).off (by omega))) ?_
 refine Qt.r (Ev.fieldAddr (off' := 2) rfl Try.runUnderlying54 rfl Try.sizeOf3 rfl rfl) ?_
 refine Qt.r (Ev.load (i := 2) rfl rfl Try.isAgg3 (v := iv x81.n) ((Thing.get_n gh0).off (by rfl))) ?_
 refine Qt.r (Ev.add rfl rfl) ?_
 obtain ⟨x105, h106, H⟩ := bind_some H
 have g107 := lat_some h106
 refine Qt.r (Ev.indexS (α := Int) (xs := l43) rfl rfl Try.runUnderlying22 Try.sizeOf3 rfl (by decide) (rdo 13 rfl rfl rfl) g107.1 g107.2.1) ?_
 refine Qt.tail ?_
 obtain ⟨p108, h109, H⟩ := Let_some H
 refine Lst.storeS (i := 13) rfl rfl rfl rfl rfl Try.sizeOf3 (vs := [iv (w64 (x102 + x81.n))]) rfl rfl (by decide) rfl (xs' := encs p108) (by rw [← h109]; exact (Put.elemN (s := 1) (x := x105) rfl g107.2.2 (Put.here (vs := [iv (w64 (x102 + x81.n))]) rfl)).off (by omega)) (L' := (.blk b92 (enc (#v[x46.From, x46.To] : Vector Int 2)) 59) :: (.own s88 54 4 (encs r86)) :: (.blk b84 (enc x81) 54) :: (.blk b49 (enc x46) 35) :: (.blk b34 (enc s88) 52) :: (mitem b31 (fun x : Vector Int 2 => (.agg (enc x).toArray : Value)) (fun x : Int => (iv x : Value)) l40) :: (mitem b29 (fun x : Vector Int 2 => (.agg (enc x).toArray : Value)) (fun x : Int => (iv x : Value)) l41) :: (.blk b27 (enc s22) 22) :: (.own Sl.nil 3 1 (encs ([] : List Int))) :: (.own s22 3 1 (encs l42)) :: (.own s18 3 1 (encs ([(-1 : Int)] : List Int))) :: (.blk b16 (enc s11) 22) :: (.own Sl.nil 3 1 (encs ([] : List Int))) :: (.own s11 3 1 (encs p108)) :: (.blk b7 (enc (a0.length : Int)) 3) :: (.blk b5 (enc (PictureR.mk ({ Picture.zero with Have := ([] : List Int), Lanes := ([] : List (List Int)), Now := ([] : List Int) } : Picture) Sl.nil Sl.nil Sl.nil)) 28) :: (.own Sl.nil 3 1 (encs ([] : List Int))) :: (.own Sl.nil 22 1 (encs ([] : List (LR Int)))) :: (.own Sl.nil 3 1 (encs ([] : List Int))) :: L) rfl ?_
 refine nt0 ?_
 refine Cd.seq ?_
 refine Cd.as (e' := [(4, pv b5 0), (5, pv b7 0), (6, pv b16 0), (7, pv b27 0), (8, .map (some b29)), (9, .map (some b31)), (10, pv b34 0), (11, .func (.func 18) #[] #[pv b27 0, pv b16 0, pv b7 0, pv b34 0]), (33, Sl.v s_a1), (34, iv (a1.length : Int)), (35, iv (i36 : Int)), (13, pv b49 0), (15, pv b84 0), (16, pv b92 0)]) (L' := (.blk b92 (enc (#v[x46.From, x46.To] : Vector Int 2)) 59) :: (.own s88 54 4 (encs r86)) :: (.blk b84 (enc x81) 54) :: (.blk b49 (enc x46) 35) :: (.blk b34 (enc s88) 52) :: (mitem b31 (fun x : Vector Int 2 => (.agg (enc x).toArray : Value)) (fun x : Int => (iv x : Value)) l40) :: (mitem b29 (fun x : Vector Int 2 => (.agg (enc x).toArray : Value)) (fun x : Int => (iv x : Value)) l41) :: (.blk b27 (enc s22) 22) :: (.own Sl.nil 3 1 (encs ([] : List Int))) :: (.own s22 3 1 (encs l42)) :: (.own s18 3 1 (encs ([(-1 : Int)] : List Int))) :: (.blk b16 (enc s11) 22) :: (.own Sl.nil 3 1 (encs ([] : List Int))) :: (.own s11 3 1 (encs p108)) :: (.blk b7 (enc (a0.length : Int)) 3) :: (.blk b5 (enc (PictureR.mk ({ Picture.zero with Have := ([] : List Int), Lanes := ([] : List (List Int)), Now := ([] : List Int) } : Picture) Sl.nil Sl.nil Sl.nil)) 28) :: (.own Sl.nil 3 1 (encs ([] : List Int))) :: (.own Sl.nil 22 1 (encs ([] : List (LR Int)))) :: (.own Sl.nil 3 1 (encs ([] : List Int))) :: L) ⟨rfl, rfl, rfl, rfl, rfl, rfl, rfl, rfl, rfl, rfl, rfl, rfl, rfl, rfl, trivial⟩ rfl ?_
 refine Cd.region ?_
 refine Lst.r (Ev.load (i := 7) rfl rfl Try.isAgg22 (v := Sl.v s22) gh0) ?_
 refine Lst.r (Ev.fieldAddr (off' := 2) rfl Try.runUnderlying35 rfl Try.sizeOf3 rfl rfl) ?_
 refine Lst.r (Ev.load (i := 3) rfl rfl Try.isAgg3 (v := iv x46.To) ((Move.get_To gh0).off (by rfl))) ?_
 obtain ⟨x110, h111, H⟩ := bind_some H
 have g112 := lat_some h111
 refine Lst.r (Ev.indexS (α := Int) (xs := l42) rfl rfl Try.runUnderlying22 Try.sizeOf3 rfl (by decide) (rdo 9 rfl rfl rfl) g112.1 g112.2.1) ?_
 refine Lst.r (Ev.loadS (α := Int) rfl (rdo 9 rfl rfl rfl) Try.isAgg3 (v := iv x110) ((Get.elemN (s := 1) (x := x110) rfl g112.2.2 gh0).off (by omega))) ?_
 refine Lst.r (Ev.geq rfl rfl) ?_
 refine mv0 rfl ?_
 obtain ⟨o113, H, HKo113⟩ := bind_some H
 refine Lst.join (σ := Bool) 5 (fun y114 => [(4, pv b5 0), (5, pv b7 0), (6, pv b16 0), (7, pv b27 0), (8, .map (some b29)), (9, .map (some b31)), (10, pv b34 0), (11, .func (.func 18) #[] #[pv b27 0, pv b16 0, pv b7 0, pv b34 0]), (15, pv b84 0), (16, pv b92 0), (33, Sl.v s_a1), (34, iv (a1.length : Int)), (35, iv (i36 : Int)), (119, .bool y114)]) (fun y114 => (.blk b92 (enc (#v[x46.From, x46.To] : Vector Int 2)) 59) :: (.own s88 54 4 (encs r86)) :: (.blk b84 (enc x81) 54) :: (.blk b49 (enc x46) 35) :: (.blk b34 (enc s88) 52) :: (mitem b31 (fun x : Vector Int 2 => (.agg (enc x).toArray : Value)) (fun x : Int => (iv x : Value)) l40) :: (mitem b29 (fun x : Vector Int 2 => (.agg (enc x).toArray : Value)) (fun x : Int => (iv x : Value)) l41) :: (.blk b27 (enc s22) 22) :: (.own Sl.nil 3 1 (encs ([] : List Int))) :: (.own s22 3 1 (encs l42)) :: (.own s18 3 1 (encs ([(-1 : Int)] : List Int))) :: (.blk b16 (enc s11) 22) :: (.own Sl.nil 3 1 (encs ([] : List Int))) :: (.own s11 3 1 (encs p108)) :: (.blk b7 (enc (a0.length : Int)) 3) :: (.blk b5 (enc (PictureR.mk ({ Picture.zero with Have := ([] : List Int), Lanes := ([] : List (List Int)), Now := ([] : List Int) } : Picture) Sl.nil Sl.nil Sl.nil)) 28) :: (.own Sl.nil 3 1 (encs ([] : List Int))) :: (.own Sl.nil 22 1 (encs ([] : List (LR Int)))) :: (.own Sl.nil 3 1 (encs ([] : List Int))) :: L) (fun _ y114 => y114 = o113) ?_ ?_
 ·rcases (Bool.eq_false_or_eq_true (decide (x110 ≥ (0 : Int)))).symm with hb115 | hb115
  ·replace H := ite_f hb115 H
   refine Lst.skip rfl rfl rfl hb115 rfl (by decide) ?_
   refine Lst.skip rfl rfl rfl hb115 rfl (by decide) ?_
   refine Lst.skip rfl rfl rfl hb115 rfl (by decide) ?_
   refine Lst.skip rfl rfl rfl hb115 rfl (by decide) ?_
   refine Lst.r (Ev.pickF rfl hb115 rfl) ?_
   refine Lst.nil ?_
   exact At.meet false fl ⟨rfl, rfl, rfl, rfl, rfl, rfl, rfl, rfl, rfl, rfl, rfl, rfl, rfl, rfl, trivial⟩ rfl (some_inj H)
  replace H := ite_t hb115 H
  refine Lst.rG hb115 (Ev.move rfl) ?_
  refine Lst.rG hb115 (Ev.loadA (i := 0) rfl rfl Try.isAgg59 Try.sizeOf59 (ch := enc (#v[x46.From, x46.To] : Vector Int 2)) (Enc.len _) gh0) ?_
  refine Lst.rG hb115 (Ev.lookup (i := 6) (kf := (fun x : Vector Int 2 => (.agg (enc x).toArray : Value))) (vf := (fun x : Int => (iv x : Value))) (m := l41) (k := (#v[x46.From, x46.To] : Vector Int 2)) (z0 := (0 : Int)) rfl rfl rfl (KeyOk.ints Try.runUnderlying59 Try.runUnderlying3 Try.sizeOf3 Try.isAgg3 (fun x y w => eq59 x y w)) Try.runUnderlying51 Try.zeroValue3) ?_
  refine Lst.rG hb115 (Ev.eql rfl rfl) ?_
  refine Lst.r (Ev.pickT rfl hb115 rfl) ?_
  refine Lst.nil ?_
  exact At.meet (((mget l41 (#v[x46.From, x46.To] : Vector Int 2)).getD (0 : Int)) == (0 : Int)) fl ⟨rfl, rfl, rfl, rfl, rfl, rfl, rfl, rfl, rfl, rfl, rfl, rfl, rfl, rfl, trivial⟩ rfl (some_inj H)
 rintro F116 y114 hF117 hy
 subst hy
 refine Lst.as (e' := [(4, pv b5 0), (5, pv b7 0), (6, pv b16 0), (7, pv b27 0), (8, .map (some b29)), (9, .map (some b31)), (10, pv b34 0), (11, .func (.func 18) #[] #[pv b27 0, pv b16 0, pv b7 0, pv b34 0]), (15, pv b84 0), (16, pv b92 0), (33, Sl.v s_a1), (34, iv (a1.length : Int)), (35, iv (i36 : Int)), (119, .bool y114)]) (L' := (.blk b92 (enc (#v[x46.From, x46.To] : Vector Int 2)) 59) :: (.own s88 54 4 (encs r86)) :: (.blk b84 (enc x81) 54) :: (.blk b49 (enc x46) 35) :: (.blk b34 (enc s88) 52) :: (mitem b31 (fun x : Vector Int 2 => (.agg (enc x).toArray : Value)) (fun x : Int => (iv x : Value)) l40) :: (mitem b29 (fun x : Vector Int 2 => (.agg (enc x).toArray : Value)) (fun x : Int => (iv x : Value)) l41) :: (.blk b27 (enc s22) 22) :: (.own Sl.nil 3 1 (encs ([] : List Int))) :: (.own s22 3 1 (encs l42)) :: (.own s18 3 1 (encs ([(-1 : Int)] : List Int))) :: (.blk b16 (enc s11) 22) :: (.own Sl.nil 3 1 (encs ([] : List Int))) :: (.own s11 3 1 (encs p108)) :: (.blk b7 (enc (a0.length : Int)) 3) :: (.blk b5 (enc (PictureR.mk ({ Picture.zero with Have := ([] : List Int), Lanes := ([] : List (List Int)), Now := ([] : List Int) } : Picture) Sl.nil Sl.nil Sl.nil)) 28) :: (.own Sl.nil 3 1 (encs ([] : List Int))) :: (.own Sl.nil 22 1 (encs ([] : List (LR Int)))) :: (.own Sl.nil 3 1 (encs ([] : List Int))) :: L) ⟨rfl, rfl, rfl, rfl, rfl, rfl, rfl, rfl, rfl, rfl, rfl, rfl, rfl, rfl, trivial⟩ rfl ?_
 replace H := HKo113
 refine nt0 ?_
 rcases (Bool.eq_false_or_eq_true y114).symm with hb118 | hb118
 ·replace H := ite_f hb118 H
  refine Cd.condF rfl hb118 ?_
  refine Cd.skip ?_
  refine At.in_normal ?_
  refine At.in_normal ?_
  refine At.then ?_
  refine Cd.region ?_
  refine Lst.r (Ev.incr (by omega) rfl rfl) ?_
  refine mv0 rfl ?_
  refine Lst.nil ?_
  refine At.less (L' := (.own s88 54 4 (encs r86)) :: (.blk b34 (enc s88) 52) :: (mitem b31 (fun x : Vector Int 2 => (.agg (enc x).toArray : Value)) (fun x : Int => (iv x : Value)) l40) :: (mitem b29 (fun x : Vector Int 2 => (.agg (enc x).toArray : Value)) (fun x : Int => (iv x : Value)) l41) :: (.blk b27 (enc s22) 22) :: (.own Sl.nil 3 1 (encs ([] : List Int))) :: (.own s22 3 1 (encs l42)) :: (.own s18 3 1 (encs ([(-1 : Int)] : List Int))) :: (.blk b16 (enc s11) 22) :: (.own Sl.nil 3 1 (encs ([] : List Int))) :: (.own s11 3 1 (encs p108)) :: (.blk b7 (enc (a0.length : Int)) 3) :: (.blk b5 (enc (PictureR.mk ({ Picture.zero with Have := ([] : List Int), Lanes := ([] : List (List Int)), Now := ([] : List Int) } : Picture) Sl.nil Sl.nil Sl.nil)) 28) :: (.own Sl.nil 3 1 (encs ([] : List Int))) :: (.own Sl.nil 22 1 (encs ([] : List (LR Int)))) :: (.own Sl.nil 3 1 (encs ([] : List Int))) :: L) (sc1 (sk1 (sc1 (sc1 (sk1 (sk1 (sk1 (sk1 (sk1 (sk1 (sk1 (sk1 (sk1 (sk1 (sk1 (sk1 (sk1 (sk1 (sk1 (.refl _)))))))))))))))))))) ?_
  exact At.meet (i36 + 1, k36, s88, r86, l40, l41, l42, p108) (FLe.trans (FLe.trans hF45 hF91) hF117) ⟨rfl, rfl, rfl, rfl, rfl, rfl, rfl, rfl, rfl, rfl, rfl, trivial⟩ rfl ⟨⟨hgo36 _ (some_inj H).symm, by omega⟩, Nat.lt_succ_self _⟩
 replace H := ite_t hb118 H
 refine Cd.condT rfl hb118 ?_
 obtain ⟨o123, h124, H⟩ := Let_some H
 refine Cd.headMeet (σ := (List ((Vector Int 2) × Int)) × Nat) 8 (fun (l121, n122) => [(4, pv b5 0), (5, pv b7 0), (6, pv b16 0), (7, pv b27 0), (8, .map (some b29)), (9, .map (some b31)), (10, pv b34 0), (11, .func (.func 18) #[] #[pv b27 0, pv b16 0, pv b7 0, pv b34 0]), (33, Sl.v s_a1), (34, iv (a1.length : Int)), (35, iv (i36 : Int)), (120, .map (some b31)), (125, iv (w64 (((mget l40 (#v[x46.From, x46.To] : Vector Int 2)).getD (0 : Int)) + x81.n))), (127, .int .i64 (n122 : Int))]) (fun (l121, n122) => (.blk b92 (enc (#v[x46.From, x46.To] : Vector Int 2)) 59) :: (.own s88 54 4 (encs r86)) :: (.blk b84 (enc x81) 54) :: (.blk b49 (enc x46) 35) :: (.blk b34 (enc s88) 52) :: (mitemE b31 (fun x : Vector Int 2 => (.agg (enc x).toArray : Value)) (fun x : Int => (iv x : Value)) l121 (#v[x46.From, x46.To] : Vector Int 2) n122) :: (mitem b29 (fun x : Vector Int 2 => (.agg (enc x).toArray : Value)) (fun x : Int => (iv x : Value)) l41) :: (.blk b27 (enc s22) 22) :: (.own Sl.nil 3 1 (encs ([] : List Int))) :: (.own s22 3 1 (encs l42)) :: (.own s18 3 1 (encs ([(-1 : Int)] : List Int))) :: (.blk b16 (enc s11) 22) :: (.own Sl.nil 3 1 (encs ([] : List Int))) :: (.own s11 3 1 (encs p108)) :: (.blk b7 (enc (a0.length : Int)) 3) :: (.blk b5 (enc (PictureR.mk ({ Picture.zero with Have := ([] : List Int), Lanes := ([] : List (List Int)), Now := ([] : List Int) } : Picture) Sl.nil Sl.nil Sl.nil)) 28) :: (.own Sl.nil 3 1 (encs ([] : List Int))) :: (.own Sl.nil 22 1 (encs ([] : List (LR Int)))) :: (.own Sl.nil 3 1 (encs ([] : List Int))) :: L) (fun _ (l121, n122) => l121 = o123) (by kernel_rfl) (by kernel_rfl) (behind_sink (by kernel_rfl) (by kernel_rfl) (by kernel_rfl)) (by kernel_rfl) (fun hsel hlt => ?_) ?_
 ·refine HdJ.keep (fun w => St w0 F116 ((.blk b92 (enc (#v[x46.From, x46.To] : Vector Int 2)) 59) :: (.own s88 54 4 (encs r86)) :: (.blk b84 (enc x81) 54) :: (.blk b49 (enc x46) 35) :: (.blk b34 (enc s88) 52) :: (mitem b29 (fun x : Vector Int 2 => (.agg (enc x).toArray : Value)) (fun x : Int => (iv x : Value)) l41) :: (.blk b27 (enc s22) 22) :: (.own Sl.nil 3 1 (encs ([] : List Int))) :: (.own s22 3 1 (encs l42)) :: (.own s18 3 1 (encs ([(-1 : Int)] : List Int))) :: (.blk b16 (enc s11) 22) :: (.own Sl.nil 3 1 (encs ([] : List Int))) :: (.own s11 3 1 (encs p108)) :: (.blk b7 (enc (a0.length : Int)) 3) :: (.blk b5 (enc (PictureR.mk ({ Picture.zero with Have := ([] : List Int), Lanes := ([] : List (List Int)), Now := ([] : List Int) } : Picture) Sl.nil Sl.nil Sl.nil)) 28) :: (.own Sl.nil 3 1 (encs ([] : List Int))) :: (.own Sl.nil 22 1 (encs ([] : List (LR Int)))) :: (.own Sl.nil 3 1 (encs ([] : List Int))) :: L) w) (fun w h => trivial) ?_
  refine HdJ.ts hsel hlt 0 (sk1 (sk1 (sk1 (sk1 (sk1 (sc1 (sk1 (sk1 (sk1 (sk1 (sk1 (sk1 (sk1 (sk1 (sk1 (sk1 (sk1 (sk1 (sk1 (.refl _)))))))))))))))))))) rfl (Ev.move rfl) ?_
  refine HdJ.ts hsel hlt 1 (sk1 (sk1 (sk1 (sk1 (sk1 (sc1 (sk1 (sk1 (sk1 (sk1 (sk1 (sk1 (sk1 (sk1 (sk1 (sk1 (sk1 (sk1 (sk1 (.refl _)))))))))))))))))))) rfl (Ev.loadA (i := 0) rfl rfl Try.isAgg59 Try.sizeOf59 (ch := enc (#v[x46.From, x46.To] : Vector Int 2)) (Enc.len _) gh0) ?_
  refine HdJ.ts hsel hlt 3 (sk1 (sk1 (sk1 (sk1 (sk1 (sc1 (sk1 (sk1 (sk1 (sk1 (sk1 (sk1 (sk1 (sk1 (sk1 (sk1 (sk1 (sk1 (sk1 (.refl _)))))))))))))))))))) rfl (Ev.fieldAddr (off' := 2) rfl Try.runUnderlying54 rfl Try.sizeOf3 rfl rfl) ?_
  refine HdJ.ts hsel hlt 4 (sk1 (sk1 (sk1 (sk1 (sk1 (sc1 (sk1 (sk1 (sk1 (sk1 (sk1 (sk1 (sk1 (sk1 (sk1 (sk1 (sk1 (sk1 (sk1 (.refl _)))))))))))))))))))) rfl (Ev.load (i := 2) rfl rfl Try.isAgg3 (v := iv x81.n) ((Thing.get_n gh0).off (by rfl))) ?_
  refine HdJ.step [2, 6] (by kernel_rfl) rfl ?_
  refine HdStep.c (fun inv => ?_) ?_
  ·refine Lst.r (Ev.lookup (i := 5) (kf := (fun x : Vector Int 2 => (.agg (enc x).toArray : Value))) (vf := (fun x : Int => (iv x : Value))) (m := l40) (k := (#v[x46.From, x46.To] : Vector Int 2)) (z0 := (0 : Int)) rfl rfl rfl (KeyOk.ints Try.runUnderlying59 Try.runUnderlying3 Try.sizeOf3 Try.isAgg3 (fun x y w => eq59 x y w)) Try.runUnderlying51 Try.zeroValue3) ?_
   refine hds inv (sk1 (sk1 (sk1 (sk1 (sk1 (sc1 (sk1 (sk1 (sk1 (sk1 (sk1 (sk1 (sk1 (sk1 (sk1 (sk1 (sk1 (sk1 (sk1 (.refl _)))))))))))))))))))) ?_
   refine HdJ.ts hsel hlt 5 (sk1 (sk1 (sk1 (sk1 (sk1 (sc1 (sk1 (sk1 (sk1 (sk1 (sk1 (sk1 (sk1 (sk1 (sk1 (sk1 (sk1 (sk1 (sk1 (.refl _)))))))))))))))))))) rfl (Ev.add rfl rfl) ?_
   refine HdJ.o1 6 (fun inv => ?_)
   refine Lst.mapEntry (i := 5) (kf := (fun x : Vector Int 2 => (.agg (enc x).toArray : Value))) (vf := (fun x : Int => (iv x : Value))) (m := l40) (k := (#v[x46.From, x46.To] : Vector Int 2)) (z0 := (0 : Int)) rfl rfl (by decide) rfl rfl rfl (KeyOk.ints Try.runUnderlying59 Try.runUnderlying3 Try.sizeOf3 Try.isAgg3 (fun x y w => eq59 x y w)) Try.runUnderlying51 Try.zeroValue3 (fun n125 => ?_)
   refine Lst.its (L' := (.blk b92 (enc (#v[x46.From, x46.To] : Vector Int 2)) 59) :: (.own s88 54 4 (encs r86)) :: (.blk b84 (enc x81) 54) :: (.blk b49 (enc x46) 35) :: (.blk b34 (enc s88) 52) :: (mitemE b31 (fun x : Vector Int 2 => (.agg (enc x).toArray : Value)) (fun x : Int => (iv x : Value)) (mset l40 (#v[x46.From, x46.To] : Vector Int 2) ((mget l40 (#v[x46.From, x46.To] : Vector Int 2)).getD (0 : Int))) (#v[x46.From, x46.To] : Vector Int 2) n125) :: (mitem b29 (fun x : Vector Int 2 => (.agg (enc x).toArray : Value)) (fun x : Int => (iv x : Value)) l41) :: (.blk b27 (enc s22) 22) :: (.own Sl.nil 3 1 (encs ([] : List Int))) :: (.own s22 3 1 (encs l42)) :: (.own s18 3 1 (encs ([(-1 : Int)] : List Int))) :: (.blk b16 (enc s11) 22) :: (.own Sl.nil 3 1 (encs ([] : List Int))) :: (.own s11 3 1 (encs p108)) :: (.blk b7 (enc (a0.length : Int)) 3) :: (.blk b5 (enc (PictureR.mk ({ Picture.zero with Have := ([] : List Int), Lanes := ([] : List (List Int)), Now := ([] : List Int) } : Picture) Sl.nil Sl.nil Sl.nil)) 28) :: (.own Sl.nil 3 1 (encs ([] : List Int))) :: (.own Sl.nil 22 1 (encs ([] : List (LR Int)))) :: (.own Sl.nil 3 1 (encs ([] : List Int))) :: L) rfl ?_
   refine hds inv (sk1 (sk1 (sk1 (sk1 (sk1 (sc1 (sk1 (sk1 (sk1 (sk1 (sk1 (sk1 (sk1 (sk1 (sk1 (sk1 (sk1 (sk1 (sk1 (.refl _)))))))))))))))))))) ?_
   refine HdJ.keep (fun w => St w0 F116 ((.blk b92 (enc (#v[x46.From, x46.To] : Vector Int 2)) 59) :: (.own s88 54 4 (encs r86)) :: (.blk b84 (enc x81) 54) :: (.blk b49 (enc x46) 35) :: (.blk b34 (enc s88) 52) :: (mitemE b31 (fun x : Vector Int 2 => (.agg (enc x).toArray : Value)) (fun x : Int => (iv x : Value)) (mset l40 (#v[x46.From, x46.To] : Vector Int 2) ((mget l40 (#v[x46.From, x46.To] : Vector Int 2)).getD (0 : Int))) (#v[x46.From, x46.To] : Vector Int 2) n125) :: (mitem b29 (fun x : Vector Int 2 => (.agg (enc x).toArray : Value)) (fun x : Int => (iv x : Value)) l41) :: (.blk b27 (enc s22) 22) :: (.own Sl.nil 3 1 (encs ([] : List Int))) :: (.own s22 3 1 (encs l42)) :: (.own s18 3 1 (encs ([(-1 : Int)] : List Int))) :: (.blk b16 (enc s11) 22) :: (.own Sl.nil 3 1 (encs ([] : List Int))) :: (.own s11 3 1 (encs p108)) :: (.blk b7 (enc (a0.length : Int)) 3) :: (.blk b5 (enc (PictureR.mk ({ Picture.zero with Have := ([] : List Int), Lanes := ([] : List (List Int)), Now := ([] : List Int) } : Picture) Sl.nil Sl.nil Sl.nil)) 28) :: (.own Sl.nil 3 1 (encs ([] : List Int))) :: (.own Sl.nil 22 1 (encs ([] : List (LR Int)))) :: (.own Sl.nil 3 1 (encs ([] : List Int))) :: L) w) (fun w h => (h.weaken fl).sublist (sk1 (sk1 (sk1 (sk1 (sk1 (sc1 (sk1 (sk1 (sk1 (sk1 (sk1 (sk1 (sk1 (sk1 (sk1 (sk1 (sk1 (sk1 (sk1 (.refl _))))))))))))))))))))) ?_
   refine HdJ.ts hsel hlt 7 (sk1 (sk1 (sk1 (sk1 (sk1 (sk1 (sk1 (sk1 (sk1 (sk1 (sk1 (sk1 (sk1 (sk1 (sk1 (sk1 (sk1 (sk1 (sk1 (.refl _)))))))))))))))))))) rfl (Ev.extract rfl rfl) ?_
   refine HdJ.done (by kernel_rfl) ?_
   exact At.meetN (mset l40 (#v[x46.From, x46.To] : Vector Int 2) ((mget l40 (#v[x46.From, x46.To] : Vector Int 2)).getD (0 : Int)), n125) fl ⟨rfl, rfl, rfl, rfl, rfl, rfl, rfl, rfl, rfl, rfl, rfl, rfl, rfl, rfl, trivial⟩ rfl h124
  refine HdStep.c (fun inv => ?_) trivial
  refine Lst.mapEntry (i := 5) (kf := (fun x : Vector Int 2 => (.agg (enc x).toArray : Value))) (vf := (fun x : Int => (iv x : Value))) (m := l40) (k := (#v[x46.From, x46.To] : Vector Int 2)) (z0 := (0 : Int)) rfl rfl (by decide) rfl rfl rfl (KeyOk.ints Try.runUnderlying59 Try.runUnderlying3 Try.sizeOf3 Try.isAgg3 (fun x y w => eq59 x y w)) Try.runUnderlying51 Try.zeroValue3 (fun n126 => ?_)
  refine Lst.its (L' := (.blk b92 (enc (#v[x46.From, x46.To] : Vector Int 2)) 59) :: (.own s88 54 4 (encs r86)) :: (.blk b84 (enc x81) 54) :: (.blk b49 (enc x46) 35) :: (.blk b34 (enc s88) 52) :: (mitemE b31 (fun x : Vector Int 2 => (.agg (enc x).toArray : Value)) (fun x : Int => (iv x : Value)) (mset l40 (#v[x46.From, x46.To] : Vector Int 2) ((mget l40 (#v[x46.From, x46.To] : Vector Int 2)).getD (0 : Int))) (#v[x46.From, x46.To] : Vector Int 2) n126) :: (mitem b29 (fun x : Vector Int 2 => (.agg (enc x).toArray : Value)) (fun x : Int => (iv x : Value)) l41) :: (.blk b27 (enc s22) 22) :: (.own Sl.nil 3 1 (encs ([] : List Int))) :: (.own s22 3 1 (encs l42)) :: (.own s18 3 1 (encs ([(-1 : Int)] : List Int))) :: (.blk b16 (enc s11) 22) :: (.own Sl.nil 3 1 (encs ([] : List Int))) :: (.own s11 3 1 (encs p108)) :: (.blk b7 (enc (a0.length : Int)) 3) :: (.blk b5 (enc (PictureR.mk ({ Picture.zero with Have := ([] : List Int), Lanes := ([] : List (List Int)), Now := ([] : List Int) } : Picture) Sl.nil Sl.nil Sl.nil)) 28) :: (.own Sl.nil 3 1 (encs ([] : List Int))) :: (.own Sl.nil 22 1 (encs ([] : List (LR Int)))) :: (.own Sl.nil 3 1 (encs ([] : List Int))) :: L) rfl ?_
  refine hds inv (sk1 (sk1 (sk1 (sk1 (sk1 (sc1 (sk1 (sk1 (sk1 (sk1 (sk1 (sk1 (sk1 (sk1 (sk1 (sk1 (sk1 (sk1 (sk1 (.refl _)))))))))))))))))))) ?_
  refine HdJ.keep (fun w => St w0 F116 ((.blk b92 (enc (#v[x46.From, x46.To] : Vector Int 2)) 59) :: (.own s88 54 4 (encs r86)) :: (.blk b84 (enc x81) 54) :: (.blk b49 (enc x46) 35) :: (.blk b34 (enc s88) 52) :: (mitemE b31 (fun x : Vector Int 2 => (.agg (enc x).toArray : Value)) (fun x : Int => (iv x : Value)) (mset l40 (#v[x46.From, x46.To] : Vector Int 2) ((mget l40 (#v[x46.From, x46.To] : Vector Int 2)).getD (0 : Int))) (#v[x46.From, x46.To] : Vector Int 2) n126) :: (mitem b29 (fun x : Vector Int 2 => (.agg (enc x).toArray : Value)) (fun x : Int => (iv x : Value)) l41) :: (.blk b27 (enc s22) 22) :: (.own Sl.nil 3 1 (encs ([] : List Int))) :: (.own s22 3 1 (encs l42)) :: (.own s18 3 1 (encs ([(-1 : Int)] : List Int))) :: (.blk b16 (enc s11) 22) :: (.own Sl.nil 3 1 (encs ([] : List Int))) :: (.own s11 3 1 (encs p108)) :: (.blk b7 (enc (a0.length : Int)) 3) :: (.blk b5 (enc (PictureR.mk ({ Picture.zero with Have := ([] : List Int), Lanes := ([] : List (List Int)), Now := ([] : List Int) } : Picture) Sl.nil Sl.nil Sl.nil)) 28) :: (.own Sl.nil 3 1 (encs ([] : List Int))) :: (.own Sl.nil 22 1 (encs ([] : List (LR Int)))) :: (.own Sl.nil 3 1 (encs ([] : List Int))) :: L) w) (fun w h => (h.weaken fl).sublist (sk1 (sk1 (sk1 (sk1 (sk1 (sc1 (sk1 (sk1 (sk1 (sk1 (sk1 (sk1 (sk1 (sk1 (sk1 (sk1 (sk1 (sk1 (sk1 (.refl _))))))))))))))))))))) ?_
  refine HdJ.ts hsel hlt 2 (sk1 (sk1 (sk1 (sk1 (sk1 (sk1 (sk1 (sk1 (sk1 (sk1 (sk1 (sk1 (sk1 (sk1 (sk1 (sk1 (sk1 (sk1 (sk1 (.refl _)))))))))))))))))))) rfl (Ev.lookupE (i := 5) (kf := (fun x : Vector Int 2 => (.agg (enc x).toArray : Value))) (vf := (fun x : Int => (iv x : Value))) (m := l40) (k := (#v[x46.From, x46.To] : Vector Int 2)) (z0 := (0 : Int)) rfl rfl rfl (KeyOk.ints Try.runUnderlying59 Try.runUnderlying3 Try.sizeOf3 Try.isAgg3 (fun x y w => eq59 x y w)) Try.runUnderlying51 Try.zeroValue3) ?_
  refine HdJ.ts hsel hlt 5 (sk1 (sk1 (sk1 (sk1 (sk1 (sk1 (sk1 (sk1 (sk1 (sk1 (sk1 (sk1 (sk1 (sk1 (sk1 (sk1 (sk1 (sk1 (sk1 (.refl _)))))))))))))))))))) rfl (Ev.add rfl rfl) ?_
  refine HdJ.ts hsel hlt 7 (sk1 (sk1 (sk1 (sk1 (sk1 (sk1 (sk1 (sk1 (sk1 (sk1 (sk1 (sk1 (sk1 (sk1 (sk1 (sk1 (sk1 (sk1 (sk1 (.refl _)))))))))))))))))))) rfl (Ev.extract rfl rfl) ?_
  refine HdJ.done (by kernel_rfl) ?_
  exact At.meetN (mset l40 (#v[x46.From, x46.To] : Vector Int 2) ((mget l40 (#v[x46.From, x46.To] : Vector Int 2)).getD (0 : Int)), n126) fl ⟨rfl, rfl, rfl, rfl, rfl, rfl, rfl, rfl, rfl, rfl, rfl, rfl, rfl, rfl, trivial⟩ rfl h124
 rintro F127 ⟨l121, n122⟩ hF128 hy
 subst hy
 refine Lst.as (e' := [(4, pv b5 0), (5, pv b7 0), (6, pv b16 0), (7, pv b27 0), (8, .map (some b29)), (9, .map (some b31)), (10, pv b34 0), (11, .func (.func 18) #[] #[pv b27 0, pv b16 0, pv b7 0, pv b34 0]), (33, Sl.v s_a1), (34, iv (a1.length : Int)), (35, iv (i36 : Int)), (120, .map (some b31)), (125, iv (w64 (((mget l40 (#v[x46.From, x46.To] : Vector Int 2)).getD (0 : Int)) + x81.n))), (127, .int .i64 (n122 : Int))]) (L' := (.blk b92 (enc (#v[x46.From, x46.To] : Vector Int 2)) 59) :: (.own s88 54 4 (encs r86)) :: (.blk b84 (enc x81) 54) :: (.blk b49 (enc x46) 35) :: (.blk b34 (enc s88) 52) :: (mitemE b31 (fun x : Vector Int 2 => (.agg (enc x).toArray : Value)) (fun x : Int => (iv x : Value)) l121 (#v[x46.From, x46.To] : Vector Int 2) n122) :: (mitem b29 (fun x : Vector Int 2 => (.agg (enc x).toArray : Value)) (fun x : Int => (iv x : Value)) l41) :: (.blk b27 (enc s22) 22) :: (.own Sl.nil 3 1 (encs ([] : List Int))) :: (.own s22 3 1 (encs l42)) :: (.own s18 3 1 (encs ([(-1 : Int)] : List Int))) :: (.blk b16 (enc s11) 22) :: (.own Sl.nil 3 1 (encs ([] : List Int))) :: (.own s11 3 1 (encs p108)) :: (.blk b7 (enc (a0.length : Int)) 3) :: (.blk b5 (enc (PictureR.mk ({ Picture.zero with Have := ([] : List Int), Lanes := ([] : List (List Int)), Now := ([] : List Int) } : Picture) Sl.nil Sl.nil Sl.nil)) 28) :: (.own Sl.nil 3 1 (encs ([] : List Int))) :: (.own Sl.nil 22 1 (encs ([] : List (LR Int)))) :: (.own Sl.nil 3 1 (encs ([] : List Int))) :: L) ⟨rfl, rfl, rfl, rfl, rfl, rfl, rfl, rfl, rfl, rfl, rfl, rfl, rfl, rfl, trivial⟩ rfl ?_
 obtain ⟨m129, h130, H⟩ := Let_some H
 refine Lst.entryStore (i := 5) (kf := (fun x : Vector Int 2 => (.agg (enc x).toArray : Value))) (vf := (fun x : Int => (iv x : Value))) (m := l121) (k := (#v[x46.From, x46.To] : Vector Int 2)) (v := (w64 (((mget l40 (#v[x46.From, x46.To] : Vector Int 2)).getD (0 : Int)) + x81.n))) rfl rfl rfl rfl rfl rfl ?_
 refine Lst.its (L' := (.blk b92 (enc (#v[x46.From, x46.To] : Vector Int 2)) 59) :: (.own s88 54 4 (encs r86)) :: (.blk b84 (enc x81) 54) :: (.blk b49 (enc x46) 35) :: (.blk b34 (enc s88) 52) :: (mitem b31 (fun x : Vector Int 2 => (.agg (enc x).toArray : Value)) (fun x : Int => (iv x : Value)) m129) :: (mitem b29 (fun x : Vector Int 2 => (.agg (enc x).toArray : Value)) (fun x : Int => (iv x : Value)) l41) :: (.blk b27 (enc s22) 22) :: (.own Sl.nil 3 1 (encs ([] : List Int))) :: (.own s22 3 1 (encs l42)) :: (.own s18 3 1 (encs ([(-1 : Int)] : List Int))) :: (.blk b16 (enc s11) 22) :: (.own Sl.nil 3 1 (encs ([] : List Int))) :: (.own s11 3 1 (encs p108)) :: (.blk b7 (enc (a0.length : Int)) 3) :: (.blk b5 (enc (PictureR.mk ({ Picture.zero with Have := ([] : List Int), Lanes := ([] : List (List Int)), Now := ([] : List Int) } : Picture) Sl.nil Sl.nil Sl.nil)) 28) :: (.own Sl.nil 3 1 (encs ([] : List Int))) :: (.own Sl.nil 22 1 (encs ([] : List (LR Int)))) :: (.own Sl.nil 3 1 (encs ([] : List Int))) :: L) (by rw [← h130]; rfl) ?_
 refine Lst.nil ?_
 refine At.in_normal ?_
 refine At.in_normal ?_
 refine At.then ?_
 refine Cd.region ?_
 refine Lst.r (Ev.incr (by omega) rfl rfl) ?_
 refine mv0 rfl ?_
 refine Lst.nil ?_
 refine At.less (L' := (.own s88 54 4 (encs r86)) :: (.blk b34 (enc s88) 52) :: (mitem b31 (fun x : Vector Int 2 => (.agg (enc x).toArray : Value)) (fun x : Int => (iv x : Value)) m129) :: (mitem b29 (fun x : Vector Int 2 => (.agg (enc x).toArray : Value)) (fun x : Int => (iv x : Value)) l41) :: (.blk b27 (enc s22) 22) :: (.own Sl.nil 3 1 (encs ([] : List Int))) :: (.own s22 3 1 (encs l42)) :: (.own s18 3 1 (encs ([(-1 : Int)] : List Int))) :: (.blk b16 (enc s11) 22) :: (.own Sl.nil 3 1 (encs ([] : List Int))) :: (.own s11 3 1 (encs p108)) :: (.blk b7 (enc (a0.length : Int)) 3) :: (.blk b5 (enc (PictureR.mk ({ Picture.zero with Have := ([] : List Int), Lanes := ([] : List (List Int)), Now := ([] : List Int) } : Picture) Sl.nil Sl.nil Sl.nil)) 28) :: (.own Sl.nil 3 1 (encs ([] : List Int))) :: (.own Sl.nil 22 1 (encs ([] : List (LR Int)))) :: (.own Sl.nil 3 1 (encs ([] : List Int))) :: L) (sc1 (sk1 (sc1 (sc1 (sk1 (sk1 (sk1 (sk1 (sk1 (sk1 (sk1 (sk1 (sk1 (sk1 (sk1 (sk1 (sk1 (sk1 (sk1 (.refl _)))))))))))))))))))) ?_
 exact At.meet (i36 + 1, k36, s88, r86, m129, l41, l42, p108) (FLe.trans (FLe.trans (FLe.trans hF45 hF91) hF117) hF128) ⟨rfl, rfl, rfl, rfl, rfl, rfl, rfl, rfl, rfl, rfl, rfl, trivial⟩ rfl ⟨⟨hgo36 _ (some_inj H).symm, by omega⟩, Nat.lt_succ_self _⟩
set_option maxRecDepth 20000 in
theorem partlaw_SnapPlays_sim {fu : Nat} {a0 : List Int} {a1 : List Move} {s_a0 : Sl} {s_a1 : Sl} {r : Bool} (H : partlaw_SnapPlays fu a0 a1 = some r) (w0 : World) (F : Frz) (M L : List Item) (hM : M.Sublist L) (hs_a0 : Rd w0 F M s_a0 a0) (hs_a1 : Rd w0 F M s_a1 a1) : Ok Try.prog w0 3 [Sl.v s_a0, Sl.v s_a1] F (L) (Is (.bool r) (L)) := by
 unfold partlaw_SnapPlays at H
 refine Ok.enter (m := 2) (n := 41) Try.func3 rfl rfl rfl (by decide) ?_
 refine Cd.env (e' := [(0, Sl.v s_a0), (1, Sl.v s_a1)]) rfl ?_
 refine sr0 ?_
 refine Lst.r (Ev.assign rfl) ?_
 refine nsr ?_
 refine mv0 rfl ?_
 refine mv0 rfl ?_
 obtain ⟨r1, h2, H⟩ := bind_some H
 refine Lst.call1 rfl rfl (by decide) (vs := [Sl.v s_a0, Sl.v s_a1]) ⟨rfl, rfl, trivial⟩ Try.call4 (partref_MovesErr_sim h2 w0 _ M _ hM (hs_a0.mono fl (.refl _)) (hs_a1.mono fl (.refl _))) ?_
 refine Lst.r (Ev.assign rfl) ?_
 refine nsr ?_
 refine mv0 rfl ?_
 refine mv0 rfl ?_
 obtain ⟨r5, h6, H⟩ := bind_some H
 refine Lst.call rfl rfl (by decide) (vs := [Sl.v s_a0, Sl.v s_a1]) ⟨rfl, rfl, trivial⟩ Try.call5 (snap_Play_sim h6 w0 _ M _ hM (hs_a0.mono fl (.refl _)) (hs_a1.mono fl (.refl _))) (fun F16 L' v hF17 hv => ?_)
 obtain ⟨s7, s9, rs10, s14, rfl, rfl, f8, fm11, fa13, f15⟩ := hv
 refine mv0 rfl ?_
 refine Lst.r (Ev.extract rfl rfl) ?_
 refine Lst.r (Ev.extract rfl rfl) ?_
 refine Lst.addNil 3 1 ?_
 have ha20 : All LR.rel w0 F16 [] ([] : List (LR Int)) := All.nil
 have ha20m : List.map LR.v ([] : List (LR Int)) = ([] : List (List Int)) := rfl
 refine Lst.addNil 22 1 ?_
 refine Lst.addNil 3 1 ?_
 refine Lst.alloc (cs := enc (PictureR.mk ({ Picture.zero with Have := ([] : List Int), Lanes := ([] : List (List Int)), Now := ([] : List Int) } : Picture) Sl.nil Sl.nil Sl.nil)) rfl rfl (by decide) Try.zeroValue28 rfl (fun b22 => ?_)
 refine Lst.store (i := 0) rfl rfl rfl rfl rfl Try.sizeOf28 (vs := enc (PictureR.mk r5.1 s7 s9 s14)) rfl (Enc.len _) (Enc.one _) (cs' := enc (PictureR.mk r5.1 s7 s9 s14)) (Put.here ((Enc.len _).trans (Enc.len _).symm)) (L' := (.blk b22 (enc (PictureR.mk r5.1 s7 s9 s14)) 28) :: (.own Sl.nil 3 1 (encs ([] : List Int))) :: (.own Sl.nil 22 1 (encs ([] : List (LR Int)))) :: (.own Sl.nil 3 1 (encs ([] : List Int))) :: (.own s9 22 1 (encs rs10)) :: L) rfl ?_
 refine Lst.r (Ev.assign rfl) ?_
 refine nt0 ?_
 refine Cd.seq ?_
 refine sr0 ?_
 refine mv0 rfl ?_
 refine mv0 rfl ?_
 obtain ⟨r24, h25, H⟩ := bind_some H
 refine Lst.call1 rfl rfl (by decide) (vs := [Sl.v s_a0, Sl.v s_a1]) ⟨rfl, rfl, trivial⟩ Try.call6 (snap_Check_sim h25 w0 _ M _ (sc4 (sc1 hM)) (hs_a0.mono hF17 (.refl _)) (hs_a1.mono hF17 (.refl _))) ?_
 refine mv0 rfl ?_
 refine Lst.r (Ev.neq rfl rfl) ?_
 refine nt0 ?_
 rcases Bool.eq_false_or_eq_true (r24 != r1) with hb28 | hb28
 ·replace H := ite_t hb28 H
  refine Cd.condT rfl hb28 ?_
  refine Cd.seq ?_
  refine Cd.as (e' := []) (L' := (.blk b22 (enc (PictureR.mk r5.1 s7 s9 s14)) 28) :: (.own Sl.nil 3 1 (encs ([] : List Int))) :: (.own Sl.nil 22 1 (encs ([] : List (LR Int)))) :: (.own Sl.nil 3 1 (encs ([] : List Int))) :: (.own s9 22 1 (encs rs10)) :: L) trivial rfl ?_
  refine Cd.region ?_
  refine Lst.r (Ev.assign rfl) ?_
  refine nt0 ?_
  obtain rfl := some_inj H
  refine Cd.ret ?_
  refine At.then_ret ?_
  exact At.ret1 rfl (Res.tmp rfl) hF17 (sc1 (sc1 (sc1 (sc1 (sc1 (.refl _)))))) ⟨rfl, rfl⟩
 replace H := ite_f hb28 H
 refine Cd.condF rfl hb28 ?_
 refine Cd.skip ?_
 refine At.then ?_
 refine Cd.seq ?_
 refine Cd.seq ?_
 refine Cd.as (e' := [(0, Sl.v s_a0), (1, Sl.v s_a1), (5, iv r1), (6, pv b22 0), (7, iv r5.2)]) (L' := (.blk b22 (enc (PictureR.mk r5.1 s7 s9 s14)) 28) :: (.own Sl.nil 3 1 (encs ([] : List Int))) :: (.own Sl.nil 22 1 (encs ([] : List (LR Int)))) :: (.own Sl.nil 3 1 (encs ([] : List Int))) :: (.own s9 22 1 (encs rs10)) :: L) ⟨rfl, rfl, rfl, rfl, rfl, trivial⟩ rfl ?_
 refine Cd.region ?_
 refine mv0 rfl ?_
 refine Lst.r (Ev.neq rfl rfl) ?_
 refine nt0 ?_
 rcases Bool.eq_false_or_eq_true (r1 != (0 : Int)) with hb29 | hb29
 ·replace H := ite_t hb29 H
  refine Cd.condT rfl hb29 ?_
  refine sr0 ?_
  refine Lst.r (Ev.loadA (i := 0) rfl rfl Try.isAgg28 Try.sizeOf28 (ch := enc (PictureR.mk r5.1 s7 s9 s14)) (Enc.len _) gh0) ?_
  refine Lst.r (Ev.build (v := .agg (enc (PictureR.mk Picture.zero Sl.nil Sl.nil Sl.nil)).toArray) (pv := []) trivial (fun w => by kernel_rfl)) ?_
  obtain ⟨r30, h31, H⟩ := bind_some H
  refine Lst.call1 rfl rfl (by decide) (vs := [.agg (enc (PictureR.mk r5.1 s7 s9 s14)).toArray, .agg (enc (PictureR.mk Picture.zero Sl.nil Sl.nil Sl.nil)).toArray]) ⟨rfl, rfl, trivial⟩ Try.call7 (partref_SamePicture_sim h31 w0 _ _ _ (.refl _) (f8.mono fl (sc4 (sc1 hM))) fm11 (rdo 4 rfl rfl rfl) (All.monoLR fa13 fl (sc4 (sc1 hM))) (f15.mono fl (sc4 (sc1 hM))) Rd.nil rfl Rd.nil All.nil Rd.nil) ?_
  refine mv0 rfl ?_
  obtain ⟨o34, H, HKo34⟩ := bind_some H
  refine Lst.join (σ := Bool) 4 (fun y35 => [(31, .bool y35)]) (fun y35 => (.blk b22 (enc (PictureR.mk r5.1 s7 s9 s14)) 28) :: (.own Sl.nil 3 1 (encs ([] : List Int))) :: (.own Sl.nil 22 1 (encs ([] : List (LR Int)))) :: (.own Sl.nil 3 1 (encs ([] : List Int))) :: (.own s9 22 1 (encs rs10)) :: L) (fun _ y35 => y35 = o34) ?_ ?_
  ·rcases (Bool.eq_false_or_eq_true r30).symm with hb36 | hb36
   ·replace H := ite_f hb36 H
    refine Lst.skip rfl rfl rfl hb36 rfl (by decide) ?_
    refine Lst.skip rfl rfl rfl hb36 rfl (by decide) ?_
    refine Lst.skip rfl rfl rfl hb36 rfl (by decide) ?_
    refine Lst.r (Ev.pickF rfl hb36 rfl) ?_
    refine Lst.nil ?_
    exact At.meet false fl ⟨rfl, trivial⟩ rfl (some_inj H)
   replace H := ite_t hb36 H
   refine Lst.rG hb36 (Ev.move rfl) ?_
   refine Lst.rG hb36 (Ev.move rfl) ?_
   refine Lst.rG hb36 (Ev.eql rfl rfl) ?_
   refine Lst.r (Ev.pickT rfl hb36 rfl) ?_
   refine Lst.nil ?_
   exact At.meet (r5.2 == r1) fl ⟨rfl, trivial⟩ rfl (some_inj H)
  rintro F37 y35 hF38 hy
  subst hy
  refine Lst.as (e' := [(31, .bool y35)]) (L' := (.blk b22 (enc (PictureR.mk r5.1 s7 s9 s14)) 28) :: (.own Sl.nil 3 1 (encs ([] : List Int))) :: (.own Sl.nil 22 1 (encs ([] : List (LR Int)))) :: (.own Sl.nil 3 1 (encs ([] : List Int))) :: (.own s9 22 1 (encs rs10)) :: L) ⟨rfl, trivial⟩ rfl ?_
  replace H := HKo34
  refine Lst.r (Ev.assign rfl) ?_
  refine nt0 ?_
  obtain rfl := some_inj H
  refine Cd.ret ?_
  refine At.then_ret ?_
  exact At.ret1 rfl (Res.tmp rfl) (FLe.trans hF17 hF38) (sc1 (sc1 (sc1 (sc1 (sc1 (.refl _)))))) ⟨rfl, rfl⟩
 replace H := ite_f hb29 H
 refine Cd.condF rfl hb29 ?_
 refine Cd.skip ?_
 refine At.then ?_
 refine Cd.seq ?_
 obtain ⟨r39, h40, H⟩ := bind_some H
 obtain ⟨o63, h64, H⟩ := Let_some H
 refine Cd.headMeet (σ := Picture × Sl × (List Int) × Sl × (List (List Int)) × (List (LR Int)) × Sl × (List Int)) 4 (fun (y53, s54, l55, s56, l57, rs58, s61, l62) => [(7, iv r5.2), (32, .agg (enc (PictureR.mk ({ y53 with Have := r5.1.Have, Lanes := r5.1.Lanes, Now := r5.1.Now } : Picture) s7 s9 s14)).toArray), (35, .agg (enc (PictureR.mk ({ r39 with Have := l55, Lanes := l57, Now := l62 } : Picture) s54 s56 s61)).toArray)]) (fun (y53, s54, l55, s56, l57, rs58, s61, l62) => (.own s54 3 1 (encs l55)) :: (.own s56 22 1 (encs rs58)) :: (.own s61 3 1 (encs l62)) :: (.blk b22 (enc (PictureR.mk r5.1 s7 s9 s14)) 28) :: (.own Sl.nil 3 1 (encs ([] : List Int))) :: (.own Sl.nil 22 1 (encs ([] : List (LR Int)))) :: (.own Sl.nil 3 1 (encs ([] : List Int))) :: (.own s9 22 1 (encs rs10)) :: L) (fun Fx (y53, s54, l55, s56, l57, rs58, s61, l62) => (y53, l55, l57, l62) = o63 ∧ rs58.map LR.v = l57 ∧ All LR.rel w0 Fx M rs58) (by kernel_rfl) (by kernel_rfl) (behind_sink (by kernel_rfl) (by kernel_rfl) (by kernel_rfl)) (by kernel_rfl) (fun hsel hlt => ?_) ?_
 ·refine HdJ.keep (fun w => St w0 F16 ((.blk b22 (enc (PictureR.mk r5.1 s7 s9 s14)) 28) :: (.own Sl.nil 3 1 (encs ([] : List Int))) :: (.own Sl.nil 22 1 (encs ([] : List (LR Int)))) :: (.own Sl.nil 3 1 (encs ([] : List Int))) :: (.own s9 22 1 (encs rs10)) :: L) w) (fun w h => trivial) ?_
  refine HdJ.ts hsel hlt 0 (sk1 (sk1 (sk1 (sk1 (sk1 (.refl _)))))) rfl (Ev.loadA (i := 0) rfl rfl Try.isAgg28 Try.sizeOf28 (ch := enc (PictureR.mk r5.1 s7 s9 s14)) (Enc.len _) gh0) ?_
  refine HdJ.ts hsel hlt 1 (sk1 (sk1 (sk1 (sk1 (sk1 (.refl _)))))) rfl (Ev.move rfl) ?_
  refine HdJ.ts hsel hlt 2 (sk1 (sk1 (sk1 (sk1 (sk1 (.refl _)))))) rfl (Ev.move rfl) ?_
  refine HdJ.o1 3 (fun inv => ?_)
  refine Lst.call rfl rfl (by decide) (vs := [Sl.v s_a0, Sl.v s_a1]) ⟨rfl, rfl, trivial⟩ Try.call8 (partref_Picture_sim h40 w0 _ M _ (sc4 (sc1 hM)) (hs_a0.mono hF17 (.refl _)) (hs_a1.mono hF17 (.refl _))) (fun F71 L' v hF72 hv => ?_)
  obtain ⟨s65, s66, rs67, s70, rfl, rfl, fm68, fa69⟩ := hv
  refine Lst.nil ?_
  refine At.hd inv (fun w h => (h.weaken hF72).sublist (sc1 (sc1 (sc1 (sk1 (sk1 (sk1 (sk1 (sk1 (.refl _)))))))))) ?_
  refine HdJ.done (by kernel_rfl) ?_
  exact At.meetN (r5.1, s65, r39.Have, s66, r39.Lanes, rs67, s70, r39.Now) hF72 ⟨rfl, rfl, rfl, trivial⟩ rfl ⟨h64, fm68, (All.monoLR fa69 fl (.refl _))⟩
 rintro F73 ⟨y53, s54, l55, s56, l57, rs58, s61, l62⟩ hF74 ⟨hy, fm59, fa60⟩
 subst hy
 try dsimp only at H
 refine Lst.as (e' := [(7, iv r5.2), (32, .agg (enc (PictureR.mk ({ y53 with Have := r5.1.Have, Lanes := r5.1.Lanes, Now := r5.1.Now } : Picture) s7 s9 s14)).toArray), (35, .agg (enc (PictureR.mk ({ r39 with Have := l55, Lanes := l57, Now := l62 } : Picture) s54 s56 s61)).toArray)]) (L' := (.own s54 3 1 (encs l55)) :: (.own s56 22 1 (encs rs58)) :: (.own s61 3 1 (encs l62)) :: (.blk b22 (enc (PictureR.mk r5.1 s7 s9 s14)) 28) :: (.own Sl.nil 3 1 (encs ([] : List Int))) :: (.own Sl.nil 22 1 (encs ([] : List (LR Int)))) :: (.own Sl.nil 3 1 (encs ([] : List Int))) :: (.own s9 22 1 (encs rs10)) :: L) ⟨rfl, rfl, rfl, trivial⟩ rfl ?_
 obtain ⟨r75, h76, H⟩ := bind_some H
 refine Lst.call1 rfl rfl (by decide) (vs := [.agg (enc (PictureR.mk ({ y53 with Have := r5.1.Have, Lanes := r5.1.Lanes, Now := r5.1.Now } : Picture) s7 s9 s14)).toArray, .agg (enc (PictureR.mk ({ r39 with Have := l55, Lanes := l57, Now := l62 } : Picture) s54 s56 s61)).toArray]) ⟨rfl, rfl, trivial⟩ Try.call7 (partref_SamePicture_sim h76 w0 _ _ _ (.refl _) (f8.mono hF74 (sc8 hM)) fm11 (rdo 7 rfl rfl rfl) (All.monoLR fa13 hF74 (sc8 hM)) (f15.mono hF74 (sc8 hM)) (rdo 0 rfl rfl rfl) fm59 (rdo 1 rfl rfl rfl) (All.monoLR fa60 fl (sc8 hM)) (rdo 2 rfl rfl rfl)) ?_
 refine mv0 rfl ?_
 obtain ⟨o79, H, HKo79⟩ := bind_some H
 refine Lst.join (σ := Bool) 3 (fun y80 => [(40, .bool y80)]) (fun y80 => (.own s54 3 1 (encs l55)) :: (.own s56 22 1 (encs rs58)) :: (.own s61 3 1 (encs l62)) :: (.blk b22 (enc (PictureR.mk r5.1 s7 s9 s14)) 28) :: (.own Sl.nil 3 1 (encs ([] : List Int))) :: (.own Sl.nil 22 1 (encs ([] : List (LR Int)))) :: (.own Sl.nil 3 1 (encs ([] : List Int))) :: (.own s9 22 1 (encs rs10)) :: L) (fun _ y80 => y80 = o79) ?_ ?_
 ·rcases (Bool.eq_false_or_eq_true r75).symm with hb81 | hb81
  ·replace H := ite_f hb81 H
   refine Lst.skip rfl rfl rfl hb81 rfl (by decide) ?_
   refine Lst.skip rfl rfl rfl hb81 rfl (by decide) ?_
   refine Lst.r (Ev.pickF rfl hb81 rfl) ?_
   refine Lst.nil ?_
   exact At.meet false fl ⟨rfl, trivial⟩ rfl (some_inj H)
  replace H := ite_t hb81 H
  refine Lst.rG hb81 (Ev.move rfl) ?_
  refine Lst.rG hb81 (Ev.eql rfl rfl) ?_
  refine Lst.r (Ev.pickT rfl hb81 rfl) ?_
  refine Lst.nil ?_
  exact At.meet (r5.2 == (0 : Int)) fl ⟨rfl, trivial⟩ rfl (some_inj H)
 rintro F82 y80 hF83 hy
 subst hy
 refine Lst.as (e' := [(40, .bool y80)]) (L' := (.own s54 3 1 (encs l55)) :: (.own s56 22 1 (encs rs58)) :: (.own s61 3 1 (encs l62)) :: (.blk b22 (enc (PictureR.mk r5.1 s7 s9 s14)) 28) :: (.own Sl.nil 3 1 (encs ([] : List Int))) :: (.own Sl.nil 22 1 (encs ([] : List (LR Int)))) :: (.own Sl.nil 3 1 (encs ([] : List Int))) :: (.own s9 22 1 (encs rs10)) :: L) ⟨rfl, trivial⟩ rfl ?_
 replace H := HKo79
 refine Lst.r (Ev.assign rfl) ?_
 refine nt0 ?_
 obtain rfl := some_inj H
 refine Cd.ret ?_
 exact At.ret1 rfl (Res.tmp rfl) (FLe.trans (FLe.trans hF17 hF74) hF83) (sc1 (sc1 (sc1 (sc1 (sc1 (sc1 (sc1 (sc1 (.refl _))))))))) ⟨rfl, rfl⟩
end Go.Proofs.Ytnkfphbggemlbaa
