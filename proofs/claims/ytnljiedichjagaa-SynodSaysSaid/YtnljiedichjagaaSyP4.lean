/-
  The functions compute their specs; printed by a program.
-/
import Derived.Test.YtnljiedichjagaaSyP3
namespace Go.Proofs.Ytnljiedichjagaa
open Go.RowKit Enc
set_option linter.unusedVariables false
set_option linter.unusedSimpArgs false
set_option maxHeartbeats 2000000 in
set_option maxRecDepth 20000 in
theorem partref_SynodStep_sim {fu : Nat} {a0 : Synod} {a1 : Act} {s_a0_0 : Sl} {s_a0_1 : Sl} {r : Synod × Int} (H : partref_SynodStep fu a0 a1 = some r) (w0 : World) (F : Frz) (M L : List Item) (hM : M.Sublist L) (hs_a0_0 : Rd w0 F M s_a0_0 a0.Voters) (hs_a0_1 : Rd w0 F M s_a0_1 a0.Rounds) : Ok Try.prog w0 29 [.agg (enc (SynodR.mk a0 s_a0_0 s_a0_1)).toArray, .agg (enc a1).toArray] F (L) (fun _ L' v => ∃ (s1 : Sl) (s3 : Sl), v = .tuple #[.agg (enc (SynodR.mk r.1 s1 s3)).toArray, iv r.2] ∧ L' = (.own s1 93 3 (encs r.1.Voters)) :: (.own s3 91 6 (encs r.1.Rounds)) :: L) := by
 unfold partref_SynodStep at H
 refine Ok.enter (m := 2) (n := 171) Try.func29 rfl rfl rfl (by decide) ?_
 refine Cd.env (e' := [(0, .agg (enc (SynodR.mk a0 s_a0_0 s_a0_1)).toArray), (1, .agg (enc a1).toArray)]) rfl ?_
 refine Cd.seq ?_
 refine Cd.region ?_
 refine Lst.box rfl rfl (by decide) rfl (cs := enc (SynodR.mk a0 s_a0_0 s_a0_1)) rfl (fun b1 => ?_)
 refine Lst.box rfl rfl (by decide) rfl (cs := enc a1) rfl (fun b3 => ?_)
 refine Lst.addNil 93 3 ?_
 refine Lst.addNil 91 6 ?_
 refine Lst.alloc (cs := enc (SynodR.mk ({ Synod.zero with Voters := ([] : List Voter), Rounds := ([] : List Round) } : Synod) Sl.nil Sl.nil)) rfl rfl (by decide) Try.zeroValue44 rfl (fun b7 => ?_)
 refine Lst.r (Ev.assign rfl) ?_
 refine Lst.nil ?_
 refine At.then ?_
 refine Cd.seq ?_
 refine Cd.region ?_
 refine Lst.r (Ev.fieldAddr (off' := 1) rfl Try.runUnderlying44 rfl Try.sizeOf42 rfl rfl) ?_
 refine Lst.r (Ev.load (i := 4) rfl rfl Try.isAgg42 (v := Sl.v s_a0_1) ((SynodR.get_Rounds (Get.here _)).off (by rfl))) ?_
 refine Lst.r (Ev.makeFunc (us := []) (vs := [pv b3 0]) trivial ⟨rfl, trivial⟩) ?_
 obtain ⟨r9, h10, H⟩ := bind_some H
 refine Lst.front (i := 3) rfl (L' := (.blk b3 (enc a1) 46) :: (.blk b7 (enc (SynodR.mk ({ Synod.zero with Voters := ([] : List Voter), Rounds := ([] : List Round) } : Synod) Sl.nil Sl.nil)) 44) :: (.own Sl.nil 91 6 (encs ([] : List Round))) :: (.own Sl.nil 93 3 (encs ([] : List Voter))) :: (.blk b1 (enc (SynodR.mk a0 s_a0_0 s_a0_1)) 44) :: L) rfl ?_
 refine Lst.call1 rfl rfl (by decide) (vs := [Sl.v s_a0_1, .func (.func 75) #[] #[pv b3 0]]) ⟨rfl, rfl, trivial⟩ Try.call74 (slices_IndexFunc_api_Round_api_Round_SynodStep_1_sim h10 w0 _ M _ (sc4 hM) (hs_a0_1.mono (FLe.refl _) (.refl _))) ?_
 refine Lst.r (Ev.assign rfl) ?_
 refine Lst.nil ?_
 refine At.then ?_
 refine Cd.seq ?_
 obtain ⟨r13, h14, H⟩ := bind_some H
 obtain ⟨r19, h20, H⟩ := bind_some H
 obtain ⟨o39, h40, H⟩ := Let_some H
 refine Cd.headMeet (σ := Nat × Sl × (List Round) × Sl × (List Voter) × Sl × (List Round) × Sl × (List Voter)) 8 (fun (b30, s31, l32, s33, l34, s35, l36, s37, l38) => [(2, pv b1 0), (3, pv b3 0), (4, pv b7 0), (6, iv r9), (7, pv b30 0), (21, .agg (enc (SynodR.mk ({ Synod.zero with Voters := l38, Rounds := l36 } : Synod) s37 s35)).toArray)]) (fun (b30, s31, l32, s33, l34, s35, l36, s37, l38) => (.blk b30 (enc (SynodR.mk ({ Synod.zero with Voters := l34, Rounds := l32 } : Synod) s33 s31)) 44) :: (.own s31 91 6 (encs l32)) :: (.own s33 93 3 (encs l34)) :: (.own s35 91 6 (encs l36)) :: (.own s37 93 3 (encs l38)) :: (.blk b3 (enc a1) 46) :: (.blk b7 (enc (SynodR.mk ({ Synod.zero with Voters := ([] : List Voter), Rounds := ([] : List Round) } : Synod) Sl.nil Sl.nil)) 44) :: (.own Sl.nil 91 6 (encs ([] : List Round))) :: (.own Sl.nil 93 3 (encs ([] : List Voter))) :: (.blk b1 (enc (SynodR.mk a0 s_a0_0 s_a0_1)) 44) :: L) (fun _ (b30, s31, l32, s33, l34, s35, l36, s37, l38) => (l32, l34, l36, l38) = o39) (by kernel_rfl) (by kernel_rfl) (behind_sink (by kernel_rfl) (by kernel_rfl) (by kernel_rfl)) (by kernel_rfl) (fun hsel hlt => ?_) ?_
 ·refine HdJ.keep (fun w => St w0 F ((.blk b3 (enc a1) 46) :: (.blk b7 (enc (SynodR.mk ({ Synod.zero with Voters := ([] : List Voter), Rounds := ([] : List Round) } : Synod) Sl.nil Sl.nil)) 44) :: (.own Sl.nil 91 6 (encs ([] : List Round))) :: (.own Sl.nil 93 3 (encs ([] : List Voter))) :: (.blk b1 (enc (SynodR.mk a0 s_a0_0 s_a0_1)) 44) :: L) w) (fun w h => trivial) ?_
  refine HdJ.tk hsel hlt 0 (fun w h => h.sublist (sk1 (sk1 (sk1 (sk1 (sk1 (.refl _))))))) rfl (Ev.fieldAddr (off' := 0) rfl Try.runUnderlying44 rfl Try.sizeOf41 rfl rfl) ?_
  refine HdJ.tk hsel hlt 1 (fun w h => h.sublist (sk1 (sk1 (sk1 (sk1 (sk1 (.refl _))))))) rfl (Ev.load (i := 4) rfl rfl Try.isAgg41 (v := Sl.v s_a0_0) ((SynodR.get_Voters (Get.here _)).off (by rfl))) ?_
  refine HdJ.tk hsel hlt 3 (fun w h => h.sublist (sk1 (sk1 (sk1 (sk1 (sk1 (.refl _))))))) rfl (Ev.fieldAddr (off' := 1) rfl Try.runUnderlying44 rfl Try.sizeOf42 rfl rfl) ?_
  refine HdJ.tk hsel hlt 4 (fun w h => h.sublist (sk1 (sk1 (sk1 (sk1 (sk1 (.refl _))))))) rfl (Ev.load (i := 4) rfl rfl Try.isAgg42 (v := Sl.v s_a0_1) ((SynodR.get_Rounds (Get.here _)).off (by rfl))) ?_
  refine HdJ.step [2, 7] (by kernel_rfl) rfl ?_
  refine HdStep.c (fun inv => ?_) ?_
  ·refine Lst.call rfl rfl (by decide) (vs := [Sl.v s_a0_0]) ⟨rfl, trivial⟩ Try.call63 (slices_Clone_api_Voter_api_Voter_sim h14 w0 _ M _ (sc4 (sc1 hM)) (hs_a0_0.mono (FLe.refl _) (.refl _))) (fun F42 L' v hF43 hv => ?_)
   obtain ⟨s41, rfl, rfl⟩ := hv
   refine Lst.nil ?_
   refine At.hd inv (fun w h => (h.weaken hF43).sublist (sc1 (sk1 (sk1 (sk1 (sk1 (sk1 (.refl _)))))))) ?_
   refine HdJ.step [5, 7] (by kernel_rfl) rfl ?_
   refine HdStep.c (fun inv => ?_) ?_
   ·refine Lst.call rfl rfl (by decide) (vs := [Sl.v s_a0_1]) ⟨rfl, trivial⟩ Try.call64 (slices_Clone_api_Round_api_Round_sim h20 w0 _ M _ (sc4 (sc2 hM)) (hs_a0_1.mono hF43 (.refl _))) (fun F45 L' v hF46 hv => ?_)
    obtain ⟨s44, rfl, rfl⟩ := hv
    refine Lst.nil ?_
    refine At.hd inv (fun w h => (h.weaken (FLe.trans hF43 hF46)).sublist (sc1 (sc1 (sk1 (sk1 (sk1 (sk1 (sk1 (.refl _))))))))) ?_
    refine HdJ.keep (fun w => St w0 F45 ((.own s44 91 6 (encs r19)) :: (.own s41 93 3 (encs r13)) :: (.blk b3 (enc a1) 46) :: (.blk b7 (enc (SynodR.mk ({ Synod.zero with Voters := ([] : List Voter), Rounds := ([] : List Round) } : Synod) Sl.nil Sl.nil)) 44) :: (.own Sl.nil 91 6 (encs ([] : List Round))) :: (.own Sl.nil 93 3 (encs ([] : List Voter))) :: (.blk b1 (enc (SynodR.mk a0 s_a0_0 s_a0_1)) 44) :: L) w) (fun w h => (h.weaken (FLe.trans hF43 hF46)).sublist (sc1 (sc1 (sk1 (sk1 (sk1 (sk1 (sk1 (.refl _))))))))) ?_
    refine HdJ.tk hsel hlt 6 (fun w h => h.sublist (sk1 (sk1 (sk1 (sk1 (sk1 (sk1 (sk1 (.refl _))))))))) rfl (Ev.build (v := .agg (enc (SynodR.mk ({ Synod.zero with Voters := r13, Rounds := r19 } : Synod) s41 s44)).toArray) (pv := [(0, Sl.v s41), (1, Sl.v s44)]) ⟨rfl, rfl, ⟨rfl, rfl, trivial⟩⟩ (run_buildStruct (places := #[(0, 1), (1, 1)]) Try.zeroValue44 (zs := enc (SynodR.mk Synod.zero Sl.nil Sl.nil)) rfl Try.runUnderlying44 (fun w => by kernel_rfl) (fill_cons (cs := enc (SynodR.mk Synod.zero Sl.nil Sl.nil)) (cs' := enc (SynodR.mk ({ Synod.zero with Voters := r13 } : Synod) s41 Sl.nil)) (vs := [Sl.v s41]) rfl rfl rfl ((SynodR.put_Voters (p := (SynodR.mk Synod.zero Sl.nil Sl.nil)) (y := s41) (Put.here (vs := [Sl.v s41]) rfl)).off rfl) (fill_cons (cs := enc (SynodR.mk ({ Synod.zero with Voters := r13 } : Synod) s41 Sl.nil)) (cs' := enc (SynodR.mk ({ Synod.zero with Voters := r13, Rounds := r19 } : Synod) s41 s44)) (vs := [Sl.v s44]) rfl rfl rfl ((SynodR.put_Rounds (p := (SynodR.mk ({ Synod.zero with Voters := r13 } : Synod) s41 Sl.nil)) (y := s44) (Put.here (vs := [Sl.v s44]) rfl)).off rfl) fill_nil)))) ?_
    refine HdJ.step [7] (by kernel_rfl) rfl ?_
    refine HdStep.c (fun inv => ?_) ?_
    ·refine Lst.addNil 93 3 ?_
     refine Lst.addNil 91 6 ?_
     refine Lst.alloc (cs := enc (SynodR.mk ({ Synod.zero with Voters := ([] : List Voter), Rounds := ([] : List Round) } : Synod) Sl.nil Sl.nil)) rfl rfl (by decide) Try.zeroValue44 rfl (fun b47 => ?_)
     refine Lst.nil ?_
     refine At.hd inv (fun w h => (h.weaken (FLe.refl _)).sublist (sc1 (sc1 (sc1 (sk1 (sk1 (sk1 (sk1 (sk1 (sk1 (sk1 (.refl _)))))))))))) ?_
     refine HdJ.done (by kernel_rfl) ?_
     exact At.meetN (b47, Sl.nil, ([] : List Round), Sl.nil, ([] : List Voter), s44, r19, s41, r13) (FLe.trans hF43 hF46) ⟨rfl, rfl, rfl, rfl, rfl, rfl, trivial⟩ rfl h40
    exact trivial
   refine HdStep.c (fun inv => ?_) ?_
   ·refine Lst.addNil 93 3 ?_
    refine Lst.addNil 91 6 ?_
    refine Lst.alloc (cs := enc (SynodR.mk ({ Synod.zero with Voters := ([] : List Voter), Rounds := ([] : List Round) } : Synod) Sl.nil Sl.nil)) rfl rfl (by decide) Try.zeroValue44 rfl (fun b48 => ?_)
    refine Lst.nil ?_
    refine At.hd inv (fun w h => (h.weaken hF43).sublist (sc1 (sc1 (sc1 (sc1 (sk1 (sk1 (sk1 (sk1 (sk1 (.refl _))))))))))) ?_
    refine HdJ.step [5] (by kernel_rfl) rfl ?_
    refine HdStep.c (fun inv => ?_) ?_
    ·refine Lst.call rfl rfl (by decide) (vs := [Sl.v s_a0_1]) ⟨rfl, trivial⟩ Try.call64 (slices_Clone_api_Round_api_Round_sim h20 w0 _ M _ (sc8 (sc1 hM)) (hs_a0_1.mono hF43 (.refl _))) (fun F50 L' v hF51 hv => ?_)
     obtain ⟨s49, rfl, rfl⟩ := hv
     refine Lst.nil ?_
     refine At.hd inv (fun w h => (h.weaken (FLe.trans hF43 hF51)).sublist (sc1 (sc1 (sc1 (sc1 (sc1 (sk1 (sk1 (sk1 (sk1 (sk1 (.refl _)))))))))))) ?_
     refine HdJ.keep (fun w => St w0 F50 ((.own s49 91 6 (encs r19)) :: (.blk b48 (enc (SynodR.mk ({ Synod.zero with Voters := ([] : List Voter), Rounds := ([] : List Round) } : Synod) Sl.nil Sl.nil)) 44) :: (.own Sl.nil 91 6 (encs ([] : List Round))) :: (.own Sl.nil 93 3 (encs ([] : List Voter))) :: (.own s41 93 3 (encs r13)) :: (.blk b3 (enc a1) 46) :: (.blk b7 (enc (SynodR.mk ({ Synod.zero with Voters := ([] : List Voter), Rounds := ([] : List Round) } : Synod) Sl.nil Sl.nil)) 44) :: (.own Sl.nil 91 6 (encs ([] : List Round))) :: (.own Sl.nil 93 3 (encs ([] : List Voter))) :: (.blk b1 (enc (SynodR.mk a0 s_a0_0 s_a0_1)) 44) :: L) w) (fun w h => (h.weaken (FLe.trans hF43 hF51)).sublist (sc1 (sc1 (sc1 (sc1 (sc1 (sk1 (sk1 (sk1 (sk1 (sk1 (.refl _)))))))))))) ?_
     refine HdJ.tk hsel hlt 6 (fun w h => h.sublist (sk1 (sk1 (sk1 (sk1 (sk1 (sk1 (sk1 (sk1 (sk1 (sk1 (.refl _)))))))))))) rfl (Ev.build (v := .agg (enc (SynodR.mk ({ Synod.zero with Voters := r13, Rounds := r19 } : Synod) s41 s49)).toArray) (pv := [(0, Sl.v s41), (1, Sl.v s49)]) ⟨rfl, rfl, ⟨rfl, rfl, trivial⟩⟩ (run_buildStruct (places := #[(0, 1), (1, 1)]) Try.zeroValue44 (zs := enc (SynodR.mk Synod.zero Sl.nil Sl.nil)) rfl Try.runUnderlying44 (fun w => by kernel_rfl) (fill_cons (cs := enc (SynodR.mk Synod.zero Sl.nil Sl.nil)) (cs' := enc (SynodR.mk ({ Synod.zero with Voters := r13 } : Synod) s41 Sl.nil)) (vs := [Sl.v s41]) rfl rfl rfl ((SynodR.put_Voters (p := (SynodR.mk Synod.zero Sl.nil Sl.nil)) (y := s41) (Put.here (vs := [Sl.v s41]) rfl)).off rfl) (fill_cons (cs := enc (SynodR.mk ({ Synod.zero with Voters := r13 } : Synod) s41 Sl.nil)) (cs' := enc (SynodR.mk ({ Synod.zero with Voters := r13, Rounds := r19 } : Synod) s41 s49)) (vs := [Sl.v s49]) rfl rfl rfl ((SynodR.put_Rounds (p := (SynodR.mk ({ Synod.zero with Voters := r13 } : Synod) s41 Sl.nil)) (y := s49) (Put.here (vs := [Sl.v s49]) rfl)).off rfl) fill_nil)))) ?_
     refine HdJ.done (by kernel_rfl) ?_
     refine At.front (i := 3) rfl rfl ?_
     refine At.front (i := 3) rfl rfl ?_
     refine At.front (i := 3) rfl (L' := (.blk b48 (enc (SynodR.mk ({ Synod.zero with Voters := ([] : List Voter), Rounds := ([] : List Round) } : Synod) Sl.nil Sl.nil)) 44) :: (.own Sl.nil 91 6 (encs ([] : List Round))) :: (.own Sl.nil 93 3 (encs ([] : List Voter))) :: (.own s49 91 6 (encs r19)) :: (.own s41 93 3 (encs r13)) :: (.blk b3 (enc a1) 46) :: (.blk b7 (enc (SynodR.mk ({ Synod.zero with Voters := ([] : List Voter), Rounds := ([] : List Round) } : Synod) Sl.nil Sl.nil)) 44) :: (.own Sl.nil 91 6 (encs ([] : List Round))) :: (.own Sl.nil 93 3 (encs ([] : List Voter))) :: (.blk b1 (enc (SynodR.mk a0 s_a0_0 s_a0_1)) 44) :: L) rfl ?_
     exact At.meetN (b48, Sl.nil, ([] : List Round), Sl.nil, ([] : List Voter), s49, r19, s41, r13) (FLe.trans hF43 hF51) ⟨rfl, rfl, rfl, rfl, rfl, rfl, trivial⟩ rfl h40
    exact trivial
   exact trivial
  refine HdStep.c (fun inv => ?_) ?_
  ·refine Lst.addNil 93 3 ?_
   refine Lst.addNil 91 6 ?_
   refine Lst.alloc (cs := enc (SynodR.mk ({ Synod.zero with Voters := ([] : List Voter), Rounds := ([] : List Round) } : Synod) Sl.nil Sl.nil)) rfl rfl (by decide) Try.zeroValue44 rfl (fun b52 => ?_)
   refine Lst.nil ?_
   refine At.hd inv (fun w h => (h.weaken (FLe.refl _)).sublist (sc1 (sc1 (sc1 (sk1 (sk1 (sk1 (sk1 (sk1 (.refl _)))))))))) ?_
   refine HdJ.step [2] (by kernel_rfl) rfl ?_
   refine HdStep.c (fun inv => ?_) ?_
   ·refine Lst.call rfl rfl (by decide) (vs := [Sl.v s_a0_0]) ⟨rfl, trivial⟩ Try.call63 (slices_Clone_api_Voter_api_Voter_sim h14 w0 _ M _ (sc8 hM) (hs_a0_0.mono (FLe.refl _) (.refl _))) (fun F54 L' v hF55 hv => ?_)
    obtain ⟨s53, rfl, rfl⟩ := hv
    refine Lst.nil ?_
    refine At.hd inv (fun w h => (h.weaken hF55).sublist (sc1 (sc1 (sc1 (sc1 (sk1 (sk1 (sk1 (sk1 (sk1 (.refl _))))))))))) ?_
    refine HdJ.step [5] (by kernel_rfl) rfl ?_
    refine HdStep.c (fun inv => ?_) ?_
    ·refine Lst.call rfl rfl (by decide) (vs := [Sl.v s_a0_1]) ⟨rfl, trivial⟩ Try.call64 (slices_Clone_api_Round_api_Round_sim h20 w0 _ M _ (sc8 (sc1 hM)) (hs_a0_1.mono hF55 (.refl _))) (fun F57 L' v hF58 hv => ?_)
     obtain ⟨s56, rfl, rfl⟩ := hv
     refine Lst.nil ?_
     refine At.hd inv (fun w h => (h.weaken (FLe.trans hF55 hF58)).sublist (sc1 (sc1 (sc1 (sc1 (sc1 (sk1 (sk1 (sk1 (sk1 (sk1 (.refl _)))))))))))) ?_
     refine HdJ.keep (fun w => St w0 F57 ((.own s56 91 6 (encs r19)) :: (.own s53 93 3 (encs r13)) :: (.blk b52 (enc (SynodR.mk ({ Synod.zero with Voters := ([] : List Voter), Rounds := ([] : List Round) } : Synod) Sl.nil Sl.nil)) 44) :: (.own Sl.nil 91 6 (encs ([] : List Round))) :: (.own Sl.nil 93 3 (encs ([] : List Voter))) :: (.blk b3 (enc a1) 46) :: (.blk b7 (enc (SynodR.mk ({ Synod.zero with Voters := ([] : List Voter), Rounds := ([] : List Round) } : Synod) Sl.nil Sl.nil)) 44) :: (.own Sl.nil 91 6 (encs ([] : List Round))) :: (.own Sl.nil 93 3 (encs ([] : List Voter))) :: (.blk b1 (enc (SynodR.mk a0 s_a0_0 s_a0_1)) 44) :: L) w) (fun w h => (h.weaken (FLe.trans hF55 hF58)).sublist (sc1 (sc1 (sc1 (sc1 (sc1 (sk1 (sk1 (sk1 (sk1 (sk1 (.refl _)))))))))))) ?_
     refine HdJ.tk hsel hlt 6 (fun w h => h.sublist (sk1 (sk1 (sk1 (sk1 (sk1 (sk1 (sk1 (sk1 (sk1 (sk1 (.refl _)))))))))))) rfl (Ev.build (v := .agg (enc (SynodR.mk ({ Synod.zero with Voters := r13, Rounds := r19 } : Synod) s53 s56)).toArray) (pv := [(0, Sl.v s53), (1, Sl.v s56)]) ⟨rfl, rfl, ⟨rfl, rfl, trivial⟩⟩ (run_buildStruct (places := #[(0, 1), (1, 1)]) Try.zeroValue44 (zs := enc (SynodR.mk Synod.zero Sl.nil Sl.nil)) rfl Try.runUnderlying44 (fun w => by kernel_rfl) (fill_cons (cs := enc (SynodR.mk Synod.zero Sl.nil Sl.nil)) (cs' := enc (SynodR.mk ({ Synod.zero with Voters := r13 } : Synod) s53 Sl.nil)) (vs := [Sl.v s53]) rfl rfl rfl ((SynodR.put_Voters (p := (SynodR.mk Synod.zero Sl.nil Sl.nil)) (y := s53) (Put.here (vs := [Sl.v s53]) rfl)).off rfl) (fill_cons (cs := enc (SynodR.mk ({ Synod.zero with Voters := r13 } : Synod) s53 Sl.nil)) (cs' := enc (SynodR.mk ({ Synod.zero with Voters := r13, Rounds := r19 } : Synod) s53 s56)) (vs := [Sl.v s56]) rfl rfl rfl ((SynodR.put_Rounds (p := (SynodR.mk ({ Synod.zero with Voters := r13 } : Synod) s53 Sl.nil)) (y := s56) (Put.here (vs := [Sl.v s56]) rfl)).off rfl) fill_nil)))) ?_
     refine HdJ.done (by kernel_rfl) ?_
     refine At.front (i := 4) rfl rfl ?_
     refine At.front (i := 4) rfl rfl ?_
     refine At.front (i := 4) rfl (L' := (.blk b52 (enc (SynodR.mk ({ Synod.zero with Voters := ([] : List Voter), Rounds := ([] : List Round) } : Synod) Sl.nil Sl.nil)) 44) :: (.own Sl.nil 91 6 (encs ([] : List Round))) :: (.own Sl.nil 93 3 (encs ([] : List Voter))) :: (.own s56 91 6 (encs r19)) :: (.own s53 93 3 (encs r13)) :: (.blk b3 (enc a1) 46) :: (.blk b7 (enc (SynodR.mk ({ Synod.zero with Voters := ([] : List Voter), Rounds := ([] : List Round) } : Synod) Sl.nil Sl.nil)) 44) :: (.own Sl.nil 91 6 (encs ([] : List Round))) :: (.own Sl.nil 93 3 (encs ([] : List Voter))) :: (.blk b1 (enc (SynodR.mk a0 s_a0_0 s_a0_1)) 44) :: L) rfl ?_
     exact At.meetN (b52, Sl.nil, ([] : List Round), Sl.nil, ([] : List Voter), s56, r19, s53, r13) (FLe.trans hF55 hF58) ⟨rfl, rfl, rfl, rfl, rfl, rfl, trivial⟩ rfl h40
    exact trivial
   exact trivial
  exact trivial
 rintro F59 ⟨b30, s31, l32, s33, l34, s35, l36, s37, l38⟩ hF60 hy
 subst hy
 refine Lst.as (e' := [(2, pv b1 0), (3, pv b3 0), (4, pv b7 0), (6, iv r9), (7, pv b30 0), (21, .agg (enc (SynodR.mk ({ Synod.zero with Voters := l38, Rounds := l36 } : Synod) s37 s35)).toArray)]) (L' := (.blk b30 (enc (SynodR.mk ({ Synod.zero with Voters := l34, Rounds := l32 } : Synod) s33 s31)) 44) :: (.own s31 91 6 (encs l32)) :: (.own s33 93 3 (encs l34)) :: (.own s35 91 6 (encs l36)) :: (.own s37 93 3 (encs l38)) :: (.blk b3 (enc a1) 46) :: (.blk b7 (enc (SynodR.mk ({ Synod.zero with Voters := ([] : List Voter), Rounds := ([] : List Round) } : Synod) Sl.nil Sl.nil)) 44) :: (.own Sl.nil 91 6 (encs ([] : List Round))) :: (.own Sl.nil 93 3 (encs ([] : List Voter))) :: (.blk b1 (enc (SynodR.mk a0 s_a0_0 s_a0_1)) 44) :: L) ⟨rfl, rfl, rfl, rfl, rfl, rfl, trivial⟩ rfl ?_
 refine Lst.store (i := 0) rfl rfl rfl rfl rfl Try.sizeOf44 (vs := enc (SynodR.mk ({ Synod.zero with Voters := l38, Rounds := l36 } : Synod) s37 s35)) rfl (Enc.len _) (Enc.one _) (cs' := enc (SynodR.mk ({ Synod.zero with Voters := l38, Rounds := l36 } : Synod) s37 s35)) (Put.here ((Enc.len _).trans (Enc.len _).symm)) (L' := (.blk b30 (enc (SynodR.mk ({ Synod.zero with Voters := l38, Rounds := l36 } : Synod) s37 s35)) 44) :: (.own s31 91 6 (encs l32)) :: (.own s33 93 3 (encs l34)) :: (.own s35 91 6 (encs l36)) :: (.own s37 93 3 (encs l38)) :: (.blk b3 (enc a1) 46) :: (.blk b7 (enc (SynodR.mk ({ Synod.zero with Voters := ([] : List Voter), Rounds := ([] : List Round) } : Synod) Sl.nil Sl.nil)) 44) :: (.own Sl.nil 91 6 (encs ([] : List Round))) :: (.own Sl.nil 93 3 (encs ([] : List Voter))) :: (.blk b1 (enc (SynodR.mk a0 s_a0_0 s_a0_1)) 44) :: L) rfl ?_
 refine Lst.nil ?_
 refine At.then ?_
 refine Cd.seq ?_
 refine Cd.seq ?_
 refine Cd.region ?_
 refine Lst.r (Ev.fieldAddr (off' := 0) rfl Try.runUnderlying46 rfl Try.sizeOf3 rfl rfl) ?_
 refine Lst.r (Ev.load (i := 5) rfl rfl Try.isAgg3 (v := iv a1.Kind) ((Act.get_Kind (Get.here _)).off (by rfl))) ?_
 refine Lst.r (Ev.eql rfl rfl) ?_
 refine Lst.nil ?_
 refine At.then ?_
 rcases Bool.eq_false_or_eq_true (a1.Kind == (1 : Int)) with hb61 | hb61
 ·replace H := ite_t hb61 H
  refine Cd.condT rfl hb61 ?_
  refine Cd.seq ?_
  refine Cd.seq ?_
  refine Cd.region ?_
  refine Lst.r (Ev.move rfl) ?_
  refine Lst.r (Ev.geq rfl rfl) ?_
  refine Lst.nil ?_
  refine At.then ?_
  rcases Bool.eq_false_or_eq_true (decide (r9 ≥ (0 : Int))) with hb62 | hb62
  ·replace H := ite_t hb62 H
   refine Cd.condT rfl hb62 ?_
   refine Cd.seq ?_
   refine Cd.region ?_
   refine Lst.r (Ev.build (v := .agg (enc (SynodR.mk Synod.zero Sl.nil Sl.nil)).toArray) (pv := []) trivial (fun w => by kernel_rfl)) ?_
   refine Lst.store (i := 6) rfl rfl rfl rfl rfl Try.sizeOf44 (vs := enc (SynodR.mk Synod.zero Sl.nil Sl.nil)) rfl (Enc.len _) (Enc.one _) (cs' := enc (SynodR.mk Synod.zero Sl.nil Sl.nil)) (Put.here ((Enc.len _).trans (Enc.len _).symm)) (L' := (.blk b30 (enc (SynodR.mk ({ Synod.zero with Voters := l38, Rounds := l36 } : Synod) s37 s35)) 44) :: (.own s31 91 6 (encs l32)) :: (.own s33 93 3 (encs l34)) :: (.own s35 91 6 (encs l36)) :: (.own s37 93 3 (encs l38)) :: (.blk b3 (enc a1) 46) :: (.blk b7 (enc (SynodR.mk Synod.zero Sl.nil Sl.nil)) 44) :: (.own Sl.nil 91 6 (encs ([] : List Round))) :: (.own Sl.nil 93 3 (encs ([] : List Voter))) :: (.blk b1 (enc (SynodR.mk a0 s_a0_0 s_a0_1)) 44) :: L) rfl ?_
   refine Lst.r (Ev.assign rfl) ?_
   refine Lst.nil ?_
   refine At.then ?_
   obtain rfl := some_inj H
   refine Cd.ret ?_
   refine At.then_ret ?_
   refine At.then_ret ?_
   refine At.addNil 93 3 ?_
   refine At.addNil 91 6 ?_
   refine At.front (i := 1) rfl (L' := (.own Sl.nil 93 3 (encs ([] : List Voter))) :: (.own Sl.nil 91 6 (encs ([] : List Round))) :: (.blk b30 (enc (SynodR.mk ({ Synod.zero with Voters := l38, Rounds := l36 } : Synod) s37 s35)) 44) :: (.own s31 91 6 (encs l32)) :: (.own s33 93 3 (encs l34)) :: (.own s35 91 6 (encs l36)) :: (.own s37 93 3 (encs l38)) :: (.blk b3 (enc a1) 46) :: (.blk b7 (enc (SynodR.mk ({ Synod.zero with Voters := ([] : List Voter), Rounds := ([] : List Round) } : Synod) Sl.nil Sl.nil)) 44) :: (.own Sl.nil 91 6 (encs ([] : List Round))) :: (.own Sl.nil 93 3 (encs ([] : List Voter))) :: (.blk b1 (enc (SynodR.mk a0 s_a0_0 s_a0_1)) 44) :: L) rfl ?_
   exact At.ret2 rfl (Res.cellA (i := 8) rfl rfl Try.isAgg44 Try.sizeOf44 (Enc.len _)) (Res.tmp rfl) hF60 (sk1 (sk1 (sc1 (sc1 (sc1 (sc1 (sc1 (sc1 (sc1 (sc1 (sc1 (sc1 (.refl _))))))))))))) ⟨Sl.nil, Sl.nil, rfl, rfl⟩
  replace H := ite_f hb62 H
  refine Cd.condF rfl hb62 ?_
  refine Cd.skip ?_
  refine At.then ?_
  refine Cd.seq ?_
  refine Cd.seq ?_
  refine Cd.region ?_
  refine Lst.r (Ev.fieldAddr (off' := 1) rfl Try.runUnderlying44 rfl Try.sizeOf42 rfl rfl) ?_
  refine Lst.r (Ev.load (i := 9) rfl rfl Try.isAgg42 (v := Sl.v s_a0_1) ((SynodR.get_Rounds (Get.here _)).off (by rfl))) ?_
  refine Lst.r (Ev.lenS (α := Round) (xs := a0.Rounds) (by decide) rfl rfl Try.runUnderlying42 (hs_a0_1.mono hF60 (sc8 (sc2 hM)))) ?_
  refine Lst.r (Ev.eql rfl rfl) ?_
  refine Lst.nil ?_
  refine At.then ?_
  rcases Bool.eq_false_or_eq_true ((a0.Rounds.length : Int) == (30 : Int)) with hb65 | hb65
  ·replace H := ite_t hb65 H
   refine Cd.condT rfl hb65 ?_
   refine Cd.seq ?_
   refine Cd.region ?_
   refine Lst.r (Ev.build (v := .agg (enc (SynodR.mk Synod.zero Sl.nil Sl.nil)).toArray) (pv := []) trivial (fun w => by kernel_rfl)) ?_
   refine Lst.store (i := 6) rfl rfl rfl rfl rfl Try.sizeOf44 (vs := enc (SynodR.mk Synod.zero Sl.nil Sl.nil)) rfl (Enc.len _) (Enc.one _) (cs' := enc (SynodR.mk Synod.zero Sl.nil Sl.nil)) (Put.here ((Enc.len _).trans (Enc.len _).symm)) (L' := (.blk b30 (enc (SynodR.mk ({ Synod.zero with Voters := l38, Rounds := l36 } : Synod) s37 s35)) 44) :: (.own s31 91 6 (encs l32)) :: (.own s33 93 3 (encs l34)) :: (.own s35 91 6 (encs l36)) :: (.own s37 93 3 (encs l38)) :: (.blk b3 (enc a1) 46) :: (.blk b7 (enc (SynodR.mk Synod.zero Sl.nil Sl.nil)) 44) :: (.own Sl.nil 91 6 (encs ([] : List Round))) :: (.own Sl.nil 93 3 (encs ([] : List Voter))) :: (.blk b1 (enc (SynodR.mk a0 s_a0_0 s_a0_1)) 44) :: L) rfl ?_
   refine Lst.r (Ev.assign rfl) ?_
   refine Lst.nil ?_
   refine At.then ?_
   obtain rfl := some_inj H
   refine Cd.ret ?_
   refine At.then_ret ?_
   refine At.then_ret ?_
   refine At.addNil 93 3 ?_
   refine At.addNil 91 6 ?_
   refine At.front (i := 1) rfl (L' := (.own Sl.nil 93 3 (encs ([] : List Voter))) :: (.own Sl.nil 91 6 (encs ([] : List Round))) :: (.blk b30 (enc (SynodR.mk ({ Synod.zero with Voters := l38, Rounds := l36 } : Synod) s37 s35)) 44) :: (.own s31 91 6 (encs l32)) :: (.own s33 93 3 (encs l34)) :: (.own s35 91 6 (encs l36)) :: (.own s37 93 3 (encs l38)) :: (.blk b3 (enc a1) 46) :: (.blk b7 (enc (SynodR.mk ({ Synod.zero with Voters := ([] : List Voter), Rounds := ([] : List Round) } : Synod) Sl.nil Sl.nil)) 44) :: (.own Sl.nil 91 6 (encs ([] : List Round))) :: (.own Sl.nil 93 3 (encs ([] : List Voter))) :: (.blk b1 (enc (SynodR.mk a0 s_a0_0 s_a0_1)) 44) :: L) rfl ?_
   exact At.ret2 rfl (Res.cellA (i := 8) rfl rfl Try.isAgg44 Try.sizeOf44 (Enc.len _)) (Res.tmp rfl) hF60 (sk1 (sk1 (sc1 (sc1 (sc1 (sc1 (sc1 (sc1 (sc1 (sc1 (sc1 (sc1 (.refl _))))))))))))) ⟨Sl.nil, Sl.nil, rfl, rfl⟩
  replace H := ite_f hb65 H
  refine Cd.condF rfl hb65 ?_
  refine Cd.skip ?_
  refine At.then ?_
  refine Cd.seq ?_
  refine Cd.region ?_
  refine Lst.r (Ev.fieldAddr (off' := 1) rfl Try.runUnderlying44 rfl Try.sizeOf42 rfl rfl) ?_
  refine Lst.r (Ev.load (i := 0) rfl rfl Try.isAgg42 (v := Sl.v s35) ((SynodR.get_Rounds (Get.here _)).off (by rfl))) ?_
  refine Lst.r (Ev.fieldAddr (off' := 1) rfl Try.runUnderlying46 rfl Try.sizeOf3 rfl rfl) ?_
  refine Lst.r (Ev.load (i := 5) rfl rfl Try.isAgg3 (v := iv a1.Ballot) ((Act.get_Ballot (Get.here _)).off (by rfl))) ?_
  refine Lst.r (Ev.fieldAddr (off' := 3) rfl Try.runUnderlying46 rfl Try.sizeOf9 rfl rfl) ?_
  refine Lst.r (Ev.load (i := 5) rfl rfl Try.isAgg9 (v := Str.v a1.Text) ((Act.get_Text (Get.here _)).off (by rfl))) ?_
  refine Lst.r (Ev.build (v := .agg (enc ({ Round.zero with Ballot := a1.Ballot, Text := a1.Text } : Round)).toArray) (pv := [(0, iv a1.Ballot), (5, Str.v a1.Text)]) ⟨rfl, rfl, ⟨rfl, rfl, trivial⟩⟩ (fun w => by kernel_rfl)) ?_
  refine Lst.buildSlice (α := Round) (xs := ([({ Round.zero with Ballot := a1.Ballot, Text := a1.Text } : Round)] : List Round)) (pv := [(0, .agg (enc ({ Round.zero with Ballot := a1.Ballot, Text := a1.Text } : Round)).toArray)]) rfl rfl (by decide) ⟨rfl, rfl, trivial⟩ (run_buildSlice (α := Round) (z0 := Round.zero) (xs := ([({ Round.zero with Ballot := a1.Ballot, Text := a1.Text } : Round)] : List Round)) Try.runUnderlying42 Try.sizeOf91 Try.zeroValue91 rfl rfl rfl (by decide) rfl (fill_cons (cs := encs (List.replicate 1 Round.zero)) (cs' := encs ((List.replicate 1 Round.zero).set 0 ({ Round.zero with Ballot := a1.Ballot, Text := a1.Text } : Round))) (vs := enc ({ Round.zero with Ballot := a1.Ballot, Text := a1.Text } : Round)) rfl rfl (Enc.len _) ((Put.elemN (s := 6) (i := 0) (x := Round.zero) (y := ({ Round.zero with Ballot := a1.Ballot, Text := a1.Text } : Round)) rfl rfl (Put.here ((Enc.len _).trans (Enc.len _).symm))).off rfl) fill_nil)) rfl rfl (by decide) (fun s68 _ => ?_)
  obtain ⟨u70, h71, H⟩ := bind_some H
  refine Lst.append (i := 4) (α := Round) (xs := l36) (ys := ([({ Round.zero with Ballot := a1.Ballot, Text := a1.Text } : Round)] : List Round)) rfl rfl (by decide) rfl rfl Try.runUnderlying42 Try.typeInfo91 rfl rfl rfl rfl rfl rfl (Rd.own (i := 0) rfl rfl rfl) rfl (room_some h71) rfl (fun s72 => ?_)
  refine Lst.its (L' := (.own s68 91 6 (encs ([({ Round.zero with Ballot := a1.Ballot, Text := a1.Text } : Round)] : List Round))) :: (.blk b30 (enc (SynodR.mk ({ Synod.zero with Voters := l38, Rounds := l36 } : Synod) s37 s35)) 44) :: (.own s31 91 6 (encs l32)) :: (.own s33 93 3 (encs l34)) :: (.own s72 91 6 (encs (l36 ++ ([({ Round.zero with Ballot := a1.Ballot, Text := a1.Text } : Round)] : List Round)))) :: (.own s37 93 3 (encs l38)) :: (.blk b3 (enc a1) 46) :: (.blk b7 (enc (SynodR.mk ({ Synod.zero with Voters := ([] : List Voter), Rounds := ([] : List Round) } : Synod) Sl.nil Sl.nil)) 44) :: (.own Sl.nil 91 6 (encs ([] : List Round))) :: (.own Sl.nil 93 3 (encs ([] : List Voter))) :: (.blk b1 (enc (SynodR.mk a0 s_a0_0 s_a0_1)) 44) :: L) rfl ?_
  refine Lst.r (Ev.fieldAddr (off' := 1) rfl Try.runUnderlying44 rfl Try.sizeOf42 rfl rfl) ?_
  refine Lst.store (i := 1) rfl rfl rfl rfl rfl Try.sizeOf42 (vs := [Sl.v s72]) rfl rfl rfl (cs' := enc (SynodR.mk ({ Synod.zero with Voters := l38, Rounds := l36 ++ ([({ Round.zero with Ballot := a1.Ballot, Text := a1.Text } : Round)] : List Round) } : Synod) s37 s72)) ((SynodR.put_Rounds (Put.here (vs := [Sl.v s72]) rfl)).off (by rfl)) (L' := (.own s68 91 6 (encs ([({ Round.zero with Ballot := a1.Ballot, Text := a1.Text } : Round)] : List Round))) :: (.blk b30 (enc (SynodR.mk ({ Synod.zero with Voters := l38, Rounds := l36 ++ ([({ Round.zero with Ballot := a1.Ballot, Text := a1.Text } : Round)] : List Round) } : Synod) s37 s72)) 44) :: (.own s31 91 6 (encs l32)) :: (.own s33 93 3 (encs l34)) :: (.own s72 91 6 (encs (l36 ++ ([({ Round.zero with Ballot := a1.Ballot, Text := a1.Text } : Round)] : List Round)))) :: (.own s37 93 3 (encs l38)) :: (.blk b3 (enc a1) 46) :: (.blk b7 (enc (SynodR.mk ({ Synod.zero with Voters := ([] : List Voter), Rounds := ([] : List Round) } : Synod) Sl.nil Sl.nil)) 44) :: (.own Sl.nil 91 6 (encs ([] : List Round))) :: (.own Sl.nil 93 3 (encs ([] : List Voter))) :: (.blk b1 (enc (SynodR.mk a0 s_a0_0 s_a0_1)) 44) :: L) rfl ?_
  refine Lst.nil ?_
  refine At.then ?_
  refine Cd.seq ?_
  refine Cd.as (e' := [(4, pv b7 0), (7, pv b30 0)]) (L' := (.own s68 91 6 (encs ([({ Round.zero with Ballot := a1.Ballot, Text := a1.Text } : Round)] : List Round))) :: (.blk b30 (enc (SynodR.mk ({ Synod.zero with Voters := l38, Rounds := l36 ++ ([({ Round.zero with Ballot := a1.Ballot, Text := a1.Text } : Round)] : List Round) } : Synod) s37 s72)) 44) :: (.own s31 91 6 (encs l32)) :: (.own s33 93 3 (encs l34)) :: (.own s72 91 6 (encs (l36 ++ ([({ Round.zero with Ballot := a1.Ballot, Text := a1.Text } : Round)] : List Round)))) :: (.own s37 93 3 (encs l38)) :: (.blk b3 (enc a1) 46) :: (.blk b7 (enc (SynodR.mk ({ Synod.zero with Voters := ([] : List Voter), Rounds := ([] : List Round) } : Synod) Sl.nil Sl.nil)) 44) :: (.own Sl.nil 91 6 (encs ([] : List Round))) :: (.own Sl.nil 93 3 (encs ([] : List Voter))) :: (.blk b1 (enc (SynodR.mk a0 s_a0_0 s_a0_1)) 44) :: L) ⟨rfl, rfl, trivial⟩ rfl ?_
  refine Cd.region ?_
  refine Lst.r (Ev.loadA (i := 1) rfl rfl Try.isAgg44 Try.sizeOf44 (ch := enc (SynodR.mk ({ Synod.zero with Voters := l38, Rounds := l36 ++ ([({ Round.zero with Ballot := a1.Ballot, Text := a1.Text } : Round)] : List Round) } : Synod) s37 s72)) (Enc.len _) (Get.here _)) ?_
  refine Lst.store (i := 7) rfl rfl rfl rfl rfl Try.sizeOf44 (vs := enc (SynodR.mk ({ Synod.zero with Voters := l38, Rounds := l36 ++ ([({ Round.zero with Ballot := a1.Ballot, Text := a1.Text } : Round)] : List Round) } : Synod) s37 s72)) rfl (Enc.len _) (Enc.one _) (cs' := enc (SynodR.mk ({ Synod.zero with Voters := l38, Rounds := l36 ++ ([({ Round.zero with Ballot := a1.Ballot, Text := a1.Text } : Round)] : List Round) } : Synod) s37 s72)) (Put.here ((Enc.len _).trans (Enc.len _).symm)) (L' := (.own s68 91 6 (encs ([({ Round.zero with Ballot := a1.Ballot, Text := a1.Text } : Round)] : List Round))) :: (.blk b30 (enc (SynodR.mk ({ Synod.zero with Voters := l38, Rounds := l36 ++ ([({ Round.zero with Ballot := a1.Ballot, Text := a1.Text } : Round)] : List Round) } : Synod) s37 s72)) 44) :: (.own s31 91 6 (encs l32)) :: (.own s33 93 3 (encs l34)) :: (.own s72 91 6 (encs (l36 ++ ([({ Round.zero with Ballot := a1.Ballot, Text := a1.Text } : Round)] : List Round)))) :: (.own s37 93 3 (encs l38)) :: (.blk b3 (enc a1) 46) :: (.blk b7 (enc (SynodR.mk ({ Synod.zero with Voters := l38, Rounds := l36 ++ ([({ Round.zero with Ballot := a1.Ballot, Text := a1.Text } : Round)] : List Round) } : Synod) s37 s72)) 44) :: (.own Sl.nil 91 6 (encs ([] : List Round))) :: (.own Sl.nil 93 3 (encs ([] : List Voter))) :: (.blk b1 (enc (SynodR.mk a0 s_a0_0 s_a0_1)) 44) :: L) rfl ?_
  refine Lst.r (Ev.assign rfl) ?_
  refine Lst.nil ?_
  refine At.then ?_
  obtain rfl := some_inj H
  refine Cd.ret ?_
  refine At.then_ret ?_
  refine At.front (i := 5) rfl (L' := (.own s37 93 3 (encs l38)) :: (.own s68 91 6 (encs ([({ Round.zero with Ballot := a1.Ballot, Text := a1.Text } : Round)] : List Round))) :: (.blk b30 (enc (SynodR.mk ({ Synod.zero with Voters := l38, Rounds := l36 ++ ([({ Round.zero with Ballot := a1.Ballot, Text := a1.Text } : Round)] : List Round) } : Synod) s37 s72)) 44) :: (.own s31 91 6 (encs l32)) :: (.own s33 93 3 (encs l34)) :: (.own s72 91 6 (encs (l36 ++ ([({ Round.zero with Ballot := a1.Ballot, Text := a1.Text } : Round)] : List Round)))) :: (.blk b3 (enc a1) 46) :: (.blk b7 (enc (SynodR.mk ({ Synod.zero with Voters := l38, Rounds := l36 ++ ([({ Round.zero with Ballot := a1.Ballot, Text := a1.Text } : Round)] : List Round) } : Synod) s37 s72)) 44) :: (.own Sl.nil 91 6 (encs ([] : List Round))) :: (.own Sl.nil 93 3 (encs ([] : List Voter))) :: (.blk b1 (enc (SynodR.mk a0 s_a0_0 s_a0_1)) 44) :: L) rfl ?_
  exact At.ret2 rfl (Res.cellA (i := 7) rfl rfl Try.isAgg44 Try.sizeOf44 (Enc.len _)) (Res.tmp rfl) hF60 (sk1 (sc1 (sc1 (sc1 (sc1 (sk1 (sc1 (sc1 (sc1 (sc1 (sc1 (.refl _)))))))))))) ⟨s37, s72, rfl, rfl⟩
 replace H := ite_f hb61 H
 refine Cd.condF rfl hb61 ?_
 refine Cd.skip ?_
 refine At.then ?_
 refine Cd.seq ?_
 refine Cd.seq ?_
 refine Cd.region ?_
 refine Lst.r (Ev.move rfl) ?_
 refine Lst.r (Ev.lss rfl rfl) ?_
 refine Lst.nil ?_
 refine At.then ?_
 rcases Bool.eq_false_or_eq_true (decide (r9 < (0 : Int))) with hb73 | hb73
 ·replace H := ite_t hb73 H
  refine Cd.condT rfl hb73 ?_
  refine Cd.seq ?_
  refine Cd.region ?_
  refine Lst.r (Ev.build (v := .agg (enc (SynodR.mk Synod.zero Sl.nil Sl.nil)).toArray) (pv := []) trivial (fun w => by kernel_rfl)) ?_
  refine Lst.store (i := 6) rfl rfl rfl rfl rfl Try.sizeOf44 (vs := enc (SynodR.mk Synod.zero Sl.nil Sl.nil)) rfl (Enc.len _) (Enc.one _) (cs' := enc (SynodR.mk Synod.zero Sl.nil Sl.nil)) (Put.here ((Enc.len _).trans (Enc.len _).symm)) (L' := (.blk b30 (enc (SynodR.mk ({ Synod.zero with Voters := l38, Rounds := l36 } : Synod) s37 s35)) 44) :: (.own s31 91 6 (encs l32)) :: (.own s33 93 3 (encs l34)) :: (.own s35 91 6 (encs l36)) :: (.own s37 93 3 (encs l38)) :: (.blk b3 (enc a1) 46) :: (.blk b7 (enc (SynodR.mk Synod.zero Sl.nil Sl.nil)) 44) :: (.own Sl.nil 91 6 (encs ([] : List Round))) :: (.own Sl.nil 93 3 (encs ([] : List Voter))) :: (.blk b1 (enc (SynodR.mk a0 s_a0_0 s_a0_1)) 44) :: L) rfl ?_
  refine Lst.r (Ev.assign rfl) ?_
  refine Lst.nil ?_
  refine At.then ?_
  obtain rfl := some_inj H
  refine Cd.ret ?_
  refine At.then_ret ?_
  refine At.addNil 93 3 ?_
  refine At.addNil 91 6 ?_
  refine At.front (i := 1) rfl (L' := (.own Sl.nil 93 3 (encs ([] : List Voter))) :: (.own Sl.nil 91 6 (encs ([] : List Round))) :: (.blk b30 (enc (SynodR.mk ({ Synod.zero with Voters := l38, Rounds := l36 } : Synod) s37 s35)) 44) :: (.own s31 91 6 (encs l32)) :: (.own s33 93 3 (encs l34)) :: (.own s35 91 6 (encs l36)) :: (.own s37 93 3 (encs l38)) :: (.blk b3 (enc a1) 46) :: (.blk b7 (enc (SynodR.mk ({ Synod.zero with Voters := ([] : List Voter), Rounds := ([] : List Round) } : Synod) Sl.nil Sl.nil)) 44) :: (.own Sl.nil 91 6 (encs ([] : List Round))) :: (.own Sl.nil 93 3 (encs ([] : List Voter))) :: (.blk b1 (enc (SynodR.mk a0 s_a0_0 s_a0_1)) 44) :: L) rfl ?_
  exact At.ret2 rfl (Res.cellA (i := 8) rfl rfl Try.isAgg44 Try.sizeOf44 (Enc.len _)) (Res.tmp rfl) hF60 (sk1 (sk1 (sc1 (sc1 (sc1 (sc1 (sc1 (sc1 (sc1 (sc1 (sc1 (sc1 (.refl _))))))))))))) ⟨Sl.nil, Sl.nil, rfl, rfl⟩
 replace H := ite_f hb73 H
 refine Cd.condF rfl hb73 ?_
 refine Cd.skip ?_
 refine At.then ?_
 refine Cd.seq ?_
 refine Cd.quiet (by kernel_rfl) (by kernel_rfl) ?_
 refine Qt.r (Ev.fieldAddr (off' := 1) rfl Try.runUnderlying44 rfl Try.sizeOf42 rfl rfl) ?_
 refine Qt.r (Ev.load (i := 0) rfl rfl Try.isAgg42 (v := Sl.v s35) ((SynodR.get_Rounds (Get.here _)).off (by rfl))) ?_
 refine Qt.r (Ev.move rfl) ?_
 obtain ⟨x76, h77, H⟩ := bind_some H
 have g78 := lat_some h77
 refine Qt.r (Ev.indexS (α := Round) (xs := l36) rfl rfl Try.runUnderlying42 Try.sizeOf91 rfl (by decide) (Rd.own (i := 3) rfl rfl rfl) g78.1 g78.2.1) ?_
 refine Qt.r (Ev.fieldAddr (off' := 0) rfl Try.runUnderlying44 rfl Try.sizeOf41 rfl rfl) ?_
 refine Qt.r (Ev.load (i := 0) rfl rfl Try.isAgg41 (v := Sl.v s37) ((SynodR.get_Voters (Get.here _)).off (by rfl))) ?_
 refine Qt.r (Ev.fieldAddr (off' := 2) rfl Try.runUnderlying46 rfl Try.sizeOf3 rfl rfl) ?_
 refine Qt.r (Ev.load (i := 5) rfl rfl Try.isAgg3 (v := iv a1.Who) ((Act.get_Who (Get.here _)).off (by rfl))) ?_
 obtain ⟨x79, h80, H⟩ := bind_some H
 have g81 := lat_some h80
 refine Qt.r (Ev.indexS (α := Voter) (xs := l38) rfl rfl Try.runUnderlying41 Try.sizeOf93 rfl (by decide) (Rd.own (i := 4) rfl rfl rfl) g81.1 g81.2.1) ?_
 refine Qt.r (Ev.assign rfl) ?_
 refine Qt.r (Ev.assign rfl) ?_
 refine Qt.done ?_
 refine At.then ?_
 refine Cd.seq ?_
 refine Cd.as (e' := [(2, pv b1 0), (3, pv b3 0), (4, pv b7 0), (7, pv b30 0), (8, Sl.at s35 (r9.toNat * 6)), (9, Sl.at s37 (a1.Who.toNat * 3))]) (L' := (.blk b30 (enc (SynodR.mk ({ Synod.zero with Voters := l38, Rounds := l36 } : Synod) s37 s35)) 44) :: (.own s31 91 6 (encs l32)) :: (.own s33 93 3 (encs l34)) :: (.own s35 91 6 (encs l36)) :: (.own s37 93 3 (encs l38)) :: (.blk b3 (enc a1) 46) :: (.blk b7 (enc (SynodR.mk ({ Synod.zero with Voters := ([] : List Voter), Rounds := ([] : List Round) } : Synod) Sl.nil Sl.nil)) 44) :: (.own Sl.nil 91 6 (encs ([] : List Round))) :: (.own Sl.nil 93 3 (encs ([] : List Voter))) :: (.blk b1 (enc (SynodR.mk a0 s_a0_0 s_a0_1)) 44) :: L) ⟨rfl, rfl, rfl, rfl, rfl, rfl, trivial⟩ rfl ?_
 refine Cd.region ?_
 refine Lst.r (Ev.fieldAddr (off' := 2) rfl Try.runUnderlying46 rfl Try.sizeOf3 rfl rfl) ?_
 refine Lst.r (Ev.load (i := 5) rfl rfl Try.isAgg3 (v := iv a1.Who) ((Act.get_Who (Get.here _)).off (by rfl))) ?_
 obtain ⟨n82, h83, H⟩ := bind_some H
 refine Lst.r (Ev.shlU8 (i := (1 : BitVec 8)) (m := n82) rfl (congrArg some (congrArg (Value.int .i64) (cnt_some h83)))) ?_
 refine Lst.r (Ev.assign rfl) ?_
 refine Lst.nil ?_
 refine At.then ?_
 obtain ⟨o88, H, HKo88⟩ := bind_some H
 refine Cd.join (σ := Synod × (List Round) × (List Voter)) (fun (y85, l86, l87) => [(4, pv b7 0), (7, pv b30 0)]) (fun (y85, l86, l87) => (.blk b30 (enc (SynodR.mk ({ y85 with Voters := l87, Rounds := l86 } : Synod) s37 s35)) 44) :: (.own s31 91 6 (encs l32)) :: (.own s33 93 3 (encs l34)) :: (.own s35 91 6 (encs l86)) :: (.own s37 93 3 (encs l87)) :: (.blk b3 (enc a1) 46) :: (.blk b7 (enc (SynodR.mk ({ Synod.zero with Voters := ([] : List Voter), Rounds := ([] : List Round) } : Synod) Sl.nil Sl.nil)) 44) :: (.own Sl.nil 91 6 (encs ([] : List Round))) :: (.own Sl.nil 93 3 (encs ([] : List Voter))) :: (.blk b1 (enc (SynodR.mk a0 s_a0_0 s_a0_1)) 44) :: L) (fun _ (y85, l86, l87) => (y85, l86, l87) = o88) ?_ ?_
 ·refine Cd.block ?_
  refine Cd.seq ?_
  refine Cd.quiet (by kernel_rfl) (by kernel_rfl) ?_
  refine Qt.r (Ev.fieldAddr (off' := 0) rfl Try.runUnderlying46 rfl Try.sizeOf3 rfl rfl) ?_
  refine Qt.r (Ev.load (i := 5) rfl rfl Try.isAgg3 (v := iv a1.Kind) ((Act.get_Kind (Get.here _)).off (by rfl))) ?_
  refine Qt.r (Ev.eql rfl rfl) ?_
  refine Qt.r (Ev.move rfl) ?_
  obtain ⟨o89, H, HKo89⟩ := bind_some H
  refine Qt.join (σ := Bool) 8 (fun y90 => [(2, pv b1 0), (3, pv b3 0), (4, pv b7 0), (7, pv b30 0), (8, Sl.at s35 (r9.toNat * 6)), (9, Sl.at s37 (a1.Who.toNat * 3)), (10, .int .u8 ((1 : BitVec 8) <<< n82).toNat), (71, .bool y90)]) (fun y90 => y90 = o89) ?_ ?_
  ·rcases (Bool.eq_false_or_eq_true (a1.Kind == (2 : Int))).symm with hb91 | hb91
   ·replace H := ite_f hb91 H
    refine Qt.skip rfl rfl rfl hb91 rfl (by decide) ?_
    refine Qt.skip rfl rfl rfl hb91 rfl (by decide) ?_
    refine Qt.skip rfl rfl rfl hb91 rfl (by decide) ?_
    refine Qt.skip rfl rfl rfl hb91 rfl (by decide) ?_
    refine Qt.skip rfl rfl rfl hb91 rfl (by decide) ?_
    refine Qt.skip rfl rfl rfl hb91 rfl (by decide) ?_
    refine Qt.skip rfl rfl rfl hb91 rfl (by decide) ?_
    refine Qt.r (Ev.pickF rfl hb91 rfl) ?_
    exact Qt.meet false ⟨rfl, rfl, rfl, rfl, rfl, rfl, rfl, rfl, trivial⟩ (some_inj H)
   replace H := ite_t hb91 H
   refine Qt.rG hb91 (Ev.move rfl) ?_
   refine Qt.rG hb91 (Ev.nilCheckS (α := Voter) rfl (Rd.own (i := 4) rfl rfl rfl) ((Get.elemN (s := 3) (x := x79) rfl g81.2.2 (Get.here _)).off (by omega)) rfl) ?_
   refine Qt.rG hb91 (Ev.fieldS (α := Voter) (f' := a1.Who.toNat * 3 + 0) rfl (Rd.own (i := 4) rfl rfl rfl) ((Get.elemN (s := 3) (x := x79) rfl g81.2.2 (Get.here _)).off (by omega)) rfl Try.runUnderlying93 rfl Try.sizeOf3 rfl rfl rfl) ?_
   refine Qt.rG hb91 (Ev.loadS (α := Voter) rfl (Rd.own (i := 4) rfl rfl rfl) Try.isAgg3 (v := iv x79.Promised) ((Get.elemN (s := 3) (x := x79) rfl g81.2.2 (Voter.get_Promised (Get.here _))).off (by omega))) ?_
   refine Qt.rG hb91 (Ev.fieldAddr (off' := 1) rfl Try.runUnderlying46 rfl Try.sizeOf3 rfl rfl) ?_
   refine Qt.rG hb91 (Ev.load (i := 5) rfl rfl Try.isAgg3 (v := iv a1.Ballot) ((Act.get_Ballot (Get.here _)).off (by rfl))) ?_
   refine Qt.rG hb91 (Ev.lss rfl rfl) ?_
   refine Qt.r (Ev.pickT rfl hb91 rfl) ?_
   exact Qt.meet (decide (x79.Promised < a1.Ballot)) ⟨rfl, rfl, rfl, rfl, rfl, rfl, rfl, rfl, trivial⟩ (some_inj H)
  rintro y90 hy
  subst hy
  refine Qt.as (e' := [(2, pv b1 0), (3, pv b3 0), (4, pv b7 0), (7, pv b30 0), (8, Sl.at s35 (r9.toNat * 6)), (9, Sl.at s37 (a1.Who.toNat * 3)), (10, .int .u8 ((1 : BitVec 8) <<< n82).toNat), (71, .bool y90)]) ⟨rfl, rfl, rfl, rfl, rfl, rfl, rfl, rfl, trivial⟩ ?_
  replace H := HKo89
  refine Qt.r (Ev.assign rfl) ?_
  refine Qt.done ?_
  refine At.then ?_
  rcases Bool.eq_false_or_eq_true y90 with hb92 | hb92
  ·replace H := ite_t hb92 H
   refine Cd.condT rfl hb92 ?_
   refine Cd.seq ?_
   refine Cd.region ?_
   refine Lst.r (Ev.move rfl) ?_
   refine Lst.r (Ev.fieldAddr (off' := 1) rfl Try.runUnderlying46 rfl Try.sizeOf3 rfl rfl) ?_
   refine Lst.r (Ev.load (i := 5) rfl rfl Try.isAgg3 (v := iv a1.Ballot) ((Act.get_Ballot (Get.here _)).off (by rfl))) ?_
   refine Lst.r (Ev.nilCheckS (α := Voter) rfl (Rd.own (i := 4) rfl rfl rfl) ((Get.elemN (s := 3) (x := x79) rfl g81.2.2 (Get.here _)).off (by omega)) rfl) ?_
   refine Lst.r (Ev.fieldS (α := Voter) (f' := a1.Who.toNat * 3 + 0) rfl (Rd.own (i := 4) rfl rfl rfl) ((Get.elemN (s := 3) (x := x79) rfl g81.2.2 (Get.here _)).off (by omega)) rfl Try.runUnderlying93 rfl Try.sizeOf3 rfl rfl rfl) ?_
   obtain ⟨p93, h94, H⟩ := Let_some H
   refine Lst.storeS (i := 4) rfl rfl rfl rfl rfl Try.sizeOf3 (vs := [iv a1.Ballot]) rfl rfl (by decide) rfl (xs' := encs p93) (by rw [← h94]; exact (Put.elemN (s := 3) (x := x79) rfl g81.2.2 (Voter.put_Promised (Put.here (vs := [iv a1.Ballot]) rfl))).off (by omega)) (L' := (.blk b30 (enc (SynodR.mk ({ Synod.zero with Voters := p93, Rounds := l36 } : Synod) s37 s35)) 44) :: (.own s31 91 6 (encs l32)) :: (.own s33 93 3 (encs l34)) :: (.own s35 91 6 (encs l36)) :: (.own s37 93 3 (encs p93)) :: (.blk b3 (enc a1) 46) :: (.blk b7 (enc (SynodR.mk ({ Synod.zero with Voters := ([] : List Voter), Rounds := ([] : List Round) } : Synod) Sl.nil Sl.nil)) 44) :: (.own Sl.nil 91 6 (encs ([] : List Round))) :: (.own Sl.nil 93 3 (encs ([] : List Voter))) :: (.blk b1 (enc (SynodR.mk a0 s_a0_0 s_a0_1)) 44) :: L) rfl ?_
   refine Lst.nil ?_
   refine At.then ?_
   refine Cd.seq ?_
   refine Cd.seq ?_
   refine Cd.region ?_
   refine Lst.r (Ev.move rfl) ?_
   refine Lst.r (Ev.nilCheckS (α := Round) rfl (Rd.own (i := 3) rfl rfl rfl) ((Get.elemN (s := 6) (x := x76) rfl g78.2.2 (Get.here _)).off (by omega)) rfl) ?_
   refine Lst.r (Ev.fieldS (α := Round) (f' := r9.toNat * 6 + 4) rfl (Rd.own (i := 3) rfl rfl rfl) ((Get.elemN (s := 6) (x := x76) rfl g78.2.2 (Get.here _)).off (by omega)) rfl Try.runUnderlying91 rfl Try.sizeOf4 rfl rfl rfl) ?_
   refine Lst.r (Ev.loadS (α := Round) rfl (Rd.own (i := 3) rfl rfl rfl) Try.isAgg4 (v := .bool x76.Asked) ((Get.elemN (s := 6) (x := x76) rfl g78.2.2 (Round.get_Asked (Get.here _))).off (by omega))) ?_
   refine Lst.nil ?_
   refine At.then ?_
   rcases Bool.eq_false_or_eq_true x76.Asked with hb95 | hb95
   ·replace H := ite_t hb95 H
    refine Cd.condT rfl hb95 ?_
    refine Cd.exit ?_
    refine At.then_exit ?_
    refine At.in_exit ?_
    exact At.meet (({ Synod.zero with Voters := p93, Rounds := l36 } : Synod), l36, p93) (FLe.refl _) ⟨rfl, rfl, trivial⟩ rfl (some_inj H)
   replace H := ite_f hb95 H
   refine Cd.condF rfl hb95 ?_
   refine Cd.skip ?_
   refine At.then ?_
   refine Cd.seq ?_
   refine Cd.region ?_
   refine Lst.r (Ev.move rfl) ?_
   refine Lst.r (Ev.nilCheckS (α := Round) rfl (Rd.own (i := 3) rfl rfl rfl) ((Get.elemN (s := 6) (x := x76) rfl g78.2.2 (Get.here _)).off (by omega)) rfl) ?_
   refine Lst.r (Ev.fieldS (α := Round) (f' := r9.toNat * 6 + 2) rfl (Rd.own (i := 3) rfl rfl rfl) ((Get.elemN (s := 6) (x := x76) rfl g78.2.2 (Get.here _)).off (by omega)) rfl Try.runUnderlying91 rfl Try.sizeOf5 rfl rfl rfl) ?_
   refine Lst.r (Ev.loadS (α := Round) rfl (Rd.own (i := 3) rfl rfl rfl) Try.isAgg5 (v := .int .u8 x76.Promised.toNat) ((Get.elemN (s := 6) (x := x76) rfl g78.2.2 (Round.get_Promised (Get.here _))).off (by omega))) ?_
   refine Lst.r (Ev.move rfl) ?_
   refine Lst.r (Ev.orU8 (i := x76.Promised) (j := (1 : BitVec 8) <<< n82) rfl rfl) ?_
   refine Lst.r (Ev.nilCheckS (α := Round) rfl (Rd.own (i := 3) rfl rfl rfl) ((Get.elemN (s := 6) (x := x76) rfl g78.2.2 (Get.here _)).off (by omega)) rfl) ?_
   refine Lst.r (Ev.fieldS (α := Round) (f' := r9.toNat * 6 + 2) rfl (Rd.own (i := 3) rfl rfl rfl) ((Get.elemN (s := 6) (x := x76) rfl g78.2.2 (Get.here _)).off (by omega)) rfl Try.runUnderlying91 rfl Try.sizeOf5 rfl rfl rfl) ?_
   obtain ⟨p96, h97, H⟩ := Let_some H
   refine Lst.storeS (i := 3) rfl rfl rfl rfl rfl Try.sizeOf5 (vs := [.int .u8 (x76.Promised ||| ((1 : BitVec 8) <<< n82)).toNat]) rfl rfl (by decide) rfl (xs' := encs p96) (by rw [← h97]; exact (Put.elemN (s := 6) (x := x76) rfl g78.2.2 (Round.put_Promised (Put.here (vs := [.int .u8 (x76.Promised ||| ((1 : BitVec 8) <<< n82)).toNat]) rfl))).off (by omega)) (L' := (.blk b30 (enc (SynodR.mk ({ Synod.zero with Voters := p93, Rounds := p96 } : Synod) s37 s35)) 44) :: (.own s31 91 6 (encs l32)) :: (.own s33 93 3 (encs l34)) :: (.own s35 91 6 (encs p96)) :: (.own s37 93 3 (encs p93)) :: (.blk b3 (enc a1) 46) :: (.blk b7 (enc (SynodR.mk ({ Synod.zero with Voters := ([] : List Voter), Rounds := ([] : List Round) } : Synod) Sl.nil Sl.nil)) 44) :: (.own Sl.nil 91 6 (encs ([] : List Round))) :: (.own Sl.nil 93 3 (encs ([] : List Voter))) :: (.blk b1 (enc (SynodR.mk a0 s_a0_0 s_a0_1)) 44) :: L) rfl ?_
   refine Lst.nil ?_
   refine At.then ?_
   refine Cd.seq ?_
   refine Cd.as (e' := [(4, pv b7 0), (7, pv b30 0), (8, Sl.at s35 (r9.toNat * 6)), (9, Sl.at s37 (a1.Who.toNat * 3))]) (L' := (.blk b30 (enc (SynodR.mk ({ Synod.zero with Voters := p93, Rounds := p96 } : Synod) s37 s35)) 44) :: (.own s31 91 6 (encs l32)) :: (.own s33 93 3 (encs l34)) :: (.own s35 91 6 (encs p96)) :: (.own s37 93 3 (encs p93)) :: (.blk b3 (enc a1) 46) :: (.blk b7 (enc (SynodR.mk ({ Synod.zero with Voters := ([] : List Voter), Rounds := ([] : List Round) } : Synod) Sl.nil Sl.nil)) 44) :: (.own Sl.nil 91 6 (encs ([] : List Round))) :: (.own Sl.nil 93 3 (encs ([] : List Voter))) :: (.blk b1 (enc (SynodR.mk a0 s_a0_0 s_a0_1)) 44) :: L) ⟨rfl, rfl, rfl, rfl, trivial⟩ rfl ?_
   refine Cd.quiet (by kernel_rfl) (by kernel_rfl) ?_
   refine Qt.r (Ev.move rfl) ?_
   obtain ⟨x98, h99, H⟩ := bind_some H
   have g100 := lat_some h99
   refine Qt.r (Ev.nilCheckS (α := Voter) rfl (Rd.own (i := 4) rfl rfl rfl) ((Get.elemN (s := 3) (x := x98) rfl g100.2.2 (Get.here _)).off (by omega)) rfl) ?_
   refine Qt.r (Ev.fieldS (α := Voter) (f' := a1.Who.toNat * 3 + 1) rfl (Rd.own (i := 4) rfl rfl rfl) ((Get.elemN (s := 3) (x := x98) rfl g100.2.2 (Get.here _)).off (by omega)) rfl Try.runUnderlying93 rfl Try.sizeOf3 rfl rfl rfl) ?_
   refine Qt.r (Ev.loadS (α := Voter) rfl (Rd.own (i := 4) rfl rfl rfl) Try.isAgg3 (v := iv x98.Voted) ((Get.elemN (s := 3) (x := x98) rfl g100.2.2 (Voter.get_Voted (Get.here _))).off (by omega))) ?_
   refine Qt.r (Ev.move rfl) ?_
   obtain ⟨x101, h102, H⟩ := bind_some H
   have g103 := lat_some h102
   refine Qt.r (Ev.nilCheckS (α := Round) rfl (Rd.own (i := 3) rfl rfl rfl) ((Get.elemN (s := 6) (x := x101) rfl g103.2.2 (Get.here _)).off (by omega)) rfl) ?_
   refine Qt.r (Ev.fieldS (α := Round) (f' := r9.toNat * 6 + 1) rfl (Rd.own (i := 3) rfl rfl rfl) ((Get.elemN (s := 6) (x := x101) rfl g103.2.2 (Get.here _)).off (by omega)) rfl Try.runUnderlying91 rfl Try.sizeOf3 rfl rfl rfl) ?_
   refine Qt.r (Ev.loadS (α := Round) rfl (Rd.own (i := 3) rfl rfl rfl) Try.isAgg3 (v := iv x101.Best) ((Get.elemN (s := 6) (x := x101) rfl g103.2.2 (Round.get_Best (Get.here _))).off (by omega))) ?_
   refine Qt.r (Ev.gtr rfl rfl) ?_
   refine Qt.done ?_
   refine At.then ?_
   rcases (Bool.eq_false_or_eq_true (decide (x98.Voted > x101.Best))).symm with hb104 | hb104
   ·replace H := ite_f hb104 H
    refine Cd.condF rfl hb104 ?_
    refine Cd.skip ?_
    refine At.in_normal ?_
    exact At.meet (({ Synod.zero with Voters := p93, Rounds := p96 } : Synod), p96, p93) (FLe.refl _) ⟨rfl, rfl, trivial⟩ rfl (some_inj H)
   replace H := ite_t hb104 H
   refine Cd.condT rfl hb104 ?_
   obtain ⟨x105, h106, H⟩ := bind_some H
   obtain ⟨x108, h109, H⟩ := bind_some H
   obtain ⟨x111, h112, H⟩ := bind_some H
   obtain ⟨p114, h115, H⟩ := Let_some H
   obtain ⟨o118, h119, H⟩ := Let_some H
   refine Cd.headMeet (σ := (List Round)) 13 (fun l117 => [(4, pv b7 0), (7, pv b30 0), (99, Sl.at s35 (r9.toNat * 6)), (107, Str.v x108.Text)]) (fun l117 => (.blk b30 (enc (SynodR.mk ({ Synod.zero with Voters := p93, Rounds := l117 } : Synod) s37 s35)) 44) :: (.own s31 91 6 (encs l32)) :: (.own s33 93 3 (encs l34)) :: (.own s35 91 6 (encs l117)) :: (.own s37 93 3 (encs p93)) :: (.blk b3 (enc a1) 46) :: (.blk b7 (enc (SynodR.mk ({ Synod.zero with Voters := ([] : List Voter), Rounds := ([] : List Round) } : Synod) Sl.nil Sl.nil)) 44) :: (.own Sl.nil 91 6 (encs ([] : List Round))) :: (.own Sl.nil 93 3 (encs ([] : List Voter))) :: (.blk b1 (enc (SynodR.mk a0 s_a0_0 s_a0_1)) 44) :: L) (fun _ l117 => l117 = o118) (by kernel_rfl) (by kernel_rfl) (behind_sink (by kernel_rfl) (by kernel_rfl) (by kernel_rfl)) (by kernel_rfl) (fun hsel hlt => ?_) ?_
   ·refine HdJ.keep (fun w => St w0 F59 ((.own s31 91 6 (encs l32)) :: (.own s33 93 3 (encs l34)) :: (.own s37 93 3 (encs p93)) :: (.blk b3 (enc a1) 46) :: (.blk b7 (enc (SynodR.mk ({ Synod.zero with Voters := ([] : List Voter), Rounds := ([] : List Round) } : Synod) Sl.nil Sl.nil)) 44) :: (.own Sl.nil 91 6 (encs ([] : List Round))) :: (.own Sl.nil 93 3 (encs ([] : List Voter))) :: (.blk b1 (enc (SynodR.mk a0 s_a0_0 s_a0_1)) 44) :: L) w) (fun w h => trivial) ?_
    refine HdJ.tk hsel hlt 0 (fun w h => h.sublist (sc1 (sk1 (sk1 (sc1 (sk1 (sk1 (sk1 (sk1 (sk1 (sk1 (.refl _)))))))))))) rfl (Ev.move rfl) ?_
    refine HdJ.tk hsel hlt 1 (fun w h => h.sublist (sc1 (sk1 (sk1 (sc1 (sk1 (sk1 (sk1 (sk1 (sk1 (sk1 (.refl _)))))))))))) rfl (Ev.move rfl) ?_
    refine HdJ.tk hsel hlt 2 (fun w h => h.sublist (sc1 (sk1 (sk1 (sc1 (sk1 (sk1 (sk1 (sk1 (sk1 (sk1 (.refl _)))))))))))) rfl (Ev.move rfl) ?_
    have g120 := lat_some h106
    refine HdJ.tk hsel hlt 3 (fun w h => h.sublist (sc1 (sk1 (sk1 (sc1 (sk1 (sk1 (sk1 (sk1 (sk1 (sk1 (.refl _)))))))))))) rfl (Ev.nilCheckS (α := Voter) rfl (Rd.own (i := 2) rfl rfl rfl) ((Get.elemN (s := 3) (x := x105) rfl g120.2.2 (Get.here _)).off (by omega)) rfl) ?_
    refine HdJ.tk hsel hlt 4 (fun w h => h.sublist (sc1 (sk1 (sk1 (sc1 (sk1 (sk1 (sk1 (sk1 (sk1 (sk1 (.refl _)))))))))))) rfl (Ev.fieldS (α := Voter) (f' := a1.Who.toNat * 3 + 1) rfl (Rd.own (i := 2) rfl rfl rfl) ((Get.elemN (s := 3) (x := x105) rfl g120.2.2 (Get.here _)).off (by omega)) rfl Try.runUnderlying93 rfl Try.sizeOf3 rfl rfl rfl) ?_
    refine HdJ.tk hsel hlt 5 (fun w h => h.sublist (sc1 (sk1 (sk1 (sc1 (sk1 (sk1 (sk1 (sk1 (sk1 (sk1 (.refl _)))))))))))) rfl (Ev.loadS (α := Voter) rfl (Rd.own (i := 2) rfl rfl rfl) Try.isAgg3 (v := iv x105.Voted) ((Get.elemN (s := 3) (x := x105) rfl g120.2.2 (Voter.get_Voted (Get.here _))).off (by omega))) ?_
    refine HdJ.tk hsel hlt 6 (fun w h => h.sublist (sc1 (sk1 (sk1 (sc1 (sk1 (sk1 (sk1 (sk1 (sk1 (sk1 (.refl _)))))))))))) rfl (Ev.move rfl) ?_
    have g121 := lat_some h109
    refine HdJ.tk hsel hlt 7 (fun w h => h.sublist (sc1 (sk1 (sk1 (sc1 (sk1 (sk1 (sk1 (sk1 (sk1 (sk1 (.refl _)))))))))))) rfl (Ev.nilCheckS (α := Voter) rfl (Rd.own (i := 2) rfl rfl rfl) ((Get.elemN (s := 3) (x := x108) rfl g121.2.2 (Get.here _)).off (by omega)) rfl) ?_
    refine HdJ.tk hsel hlt 8 (fun w h => h.sublist (sc1 (sk1 (sk1 (sc1 (sk1 (sk1 (sk1 (sk1 (sk1 (sk1 (.refl _)))))))))))) rfl (Ev.fieldS (α := Voter) (f' := a1.Who.toNat * 3 + 2) rfl (Rd.own (i := 2) rfl rfl rfl) ((Get.elemN (s := 3) (x := x108) rfl g121.2.2 (Get.here _)).off (by omega)) rfl Try.runUnderlying93 rfl Try.sizeOf9 rfl rfl rfl) ?_
    refine HdJ.tk hsel hlt 9 (fun w h => h.sublist (sc1 (sk1 (sk1 (sc1 (sk1 (sk1 (sk1 (sk1 (sk1 (sk1 (.refl _)))))))))))) rfl (Ev.loadS (α := Voter) rfl (Rd.own (i := 2) rfl rfl rfl) Try.isAgg9 (v := Str.v x108.Text) ((Get.elemN (s := 3) (x := x108) rfl g121.2.2 (Voter.get_Text (Get.here _))).off (by omega))) ?_
    refine HdJ.step [10] (by kernel_rfl) rfl ?_
    refine HdStep.c (fun inv => ?_) ?_
    ·have g122 := lat_some h112
     refine Lst.r (Ev.nilCheckS (α := Round) rfl (Rd.own (i := 3) rfl rfl rfl) ((Get.elemN (s := 6) (x := x111) rfl g122.2.2 (Get.here _)).off (by omega)) rfl) ?_
     refine Lst.nil ?_
     refine At.hd inv (fun w h => (h.weaken (FLe.refl _)).sublist (sc1 (sk1 (sk1 (sc1 (sk1 (sk1 (sk1 (sk1 (sk1 (sk1 (.refl _)))))))))))) ?_
     refine HdJ.step [11] (by kernel_rfl) rfl ?_
     refine HdStep.c (fun inv => ?_) ?_
     ·refine Lst.r (Ev.fieldS (α := Round) (f' := r9.toNat * 6 + 1) rfl (Rd.own (i := 3) rfl rfl rfl) ((Get.elemN (s := 6) (x := x111) rfl g122.2.2 (Get.here _)).off (by omega)) rfl Try.runUnderlying91 rfl Try.sizeOf3 rfl rfl rfl) ?_
      refine Lst.nil ?_
      refine At.hd inv (fun w h => (h.weaken (FLe.refl _)).sublist (sc1 (sk1 (sk1 (sc1 (sk1 (sk1 (sk1 (sk1 (sk1 (sk1 (.refl _)))))))))))) ?_
      refine HdJ.step [12] (by kernel_rfl) rfl ?_
      refine HdStep.c (fun inv => ?_) ?_
      ·refine Lst.storeS (i := 3) rfl rfl rfl rfl rfl Try.sizeOf3 (vs := [iv x105.Voted]) rfl rfl (by decide) rfl (xs' := encs p114) (by rw [← h115]; exact (Put.elemN (s := 6) (x := x111) rfl g122.2.2 (Round.put_Best (Put.here (vs := [iv x105.Voted]) rfl))).off (by omega)) (L' := (.blk b30 (enc (SynodR.mk ({ Synod.zero with Voters := p93, Rounds := p114 } : Synod) s37 s35)) 44) :: (.own s31 91 6 (encs l32)) :: (.own s33 93 3 (encs l34)) :: (.own s35 91 6 (encs p114)) :: (.own s37 93 3 (encs p93)) :: (.blk b3 (enc a1) 46) :: (.blk b7 (enc (SynodR.mk ({ Synod.zero with Voters := ([] : List Voter), Rounds := ([] : List Round) } : Synod) Sl.nil Sl.nil)) 44) :: (.own Sl.nil 91 6 (encs ([] : List Round))) :: (.own Sl.nil 93 3 (encs ([] : List Voter))) :: (.blk b1 (enc (SynodR.mk a0 s_a0_0 s_a0_1)) 44) :: L) rfl ?_
       refine Lst.nil ?_
       refine At.hd inv (fun w h => (h.weaken (FLe.refl _)).sublist (sc1 (sk1 (sk1 (sc1 (sk1 (sk1 (sk1 (sk1 (sk1 (sk1 (.refl _)))))))))))) ?_
       refine HdJ.done (by kernel_rfl) ?_
       exact At.meetN p114 (FLe.refl _) ⟨rfl, rfl, rfl, rfl, trivial⟩ rfl h119
      exact trivial
     exact trivial
    exact trivial
   rintro F123 l117 hF124 hy
   subst hy
   refine Lst.as (e' := [(4, pv b7 0), (7, pv b30 0), (99, Sl.at s35 (r9.toNat * 6)), (107, Str.v x108.Text)]) (L' := (.blk b30 (enc (SynodR.mk ({ Synod.zero with Voters := p93, Rounds := l117 } : Synod) s37 s35)) 44) :: (.own s31 91 6 (encs l32)) :: (.own s33 93 3 (encs l34)) :: (.own s35 91 6 (encs l117)) :: (.own s37 93 3 (encs p93)) :: (.blk b3 (enc a1) 46) :: (.blk b7 (enc (SynodR.mk ({ Synod.zero with Voters := ([] : List Voter), Rounds := ([] : List Round) } : Synod) Sl.nil Sl.nil)) 44) :: (.own Sl.nil 91 6 (encs ([] : List Round))) :: (.own Sl.nil 93 3 (encs ([] : List Voter))) :: (.blk b1 (enc (SynodR.mk a0 s_a0_0 s_a0_1)) 44) :: L) ⟨rfl, rfl, rfl, rfl, trivial⟩ rfl ?_
   obtain ⟨x125, h126, H⟩ := bind_some H
   have g127 := lat_some h126
   refine Lst.r (Ev.nilCheckS (α := Round) rfl (Rd.own (i := 3) rfl rfl rfl) ((Get.elemN (s := 6) (x := x125) rfl g127.2.2 (Get.here _)).off (by omega)) rfl) ?_
   refine Lst.r (Ev.fieldS (α := Round) (f' := r9.toNat * 6 + 5) rfl (Rd.own (i := 3) rfl rfl rfl) ((Get.elemN (s := 6) (x := x125) rfl g127.2.2 (Get.here _)).off (by omega)) rfl Try.runUnderlying91 rfl Try.sizeOf9 rfl rfl rfl) ?_
   obtain ⟨p128, h129, H⟩ := Let_some H
   refine Lst.storeS (i := 3) rfl rfl rfl rfl rfl Try.sizeOf9 (vs := [Str.v x108.Text]) rfl rfl (by decide) rfl (xs' := encs p128) (by rw [← h129]; exact (Put.elemN (s := 6) (x := x125) rfl g127.2.2 (Round.put_Text (Put.here (vs := [Str.v x108.Text]) rfl))).off (by omega)) (L' := (.blk b30 (enc (SynodR.mk ({ Synod.zero with Voters := p93, Rounds := p128 } : Synod) s37 s35)) 44) :: (.own s31 91 6 (encs l32)) :: (.own s33 93 3 (encs l34)) :: (.own s35 91 6 (encs p128)) :: (.own s37 93 3 (encs p93)) :: (.blk b3 (enc a1) 46) :: (.blk b7 (enc (SynodR.mk ({ Synod.zero with Voters := ([] : List Voter), Rounds := ([] : List Round) } : Synod) Sl.nil Sl.nil)) 44) :: (.own Sl.nil 91 6 (encs ([] : List Round))) :: (.own Sl.nil 93 3 (encs ([] : List Voter))) :: (.blk b1 (enc (SynodR.mk a0 s_a0_0 s_a0_1)) 44) :: L) rfl ?_
   refine Lst.nil ?_
   refine At.in_normal ?_
   exact At.meet (({ Synod.zero with Voters := p93, Rounds := p128 } : Synod), p128, p93) hF124 ⟨rfl, rfl, trivial⟩ rfl (some_inj H)
  replace H := ite_f hb92 H
  refine Cd.condF rfl hb92 ?_
  refine Cd.seq ?_
  refine Cd.quiet (by kernel_rfl) (by kernel_rfl) ?_
  refine Qt.r (Ev.fieldAddr (off' := 0) rfl Try.runUnderlying46 rfl Try.sizeOf3 rfl rfl) ?_
  refine Qt.r (Ev.load (i := 5) rfl rfl Try.isAgg3 (v := iv a1.Kind) ((Act.get_Kind (Get.here _)).off (by rfl))) ?_
  refine Qt.r (Ev.eql rfl rfl) ?_
  refine Qt.r (Ev.move rfl) ?_
  obtain ⟨o130, H, HKo130⟩ := bind_some H
  refine Qt.join (σ := Bool) 12 (fun y131 => [(3, pv b3 0), (4, pv b7 0), (7, pv b30 0), (8, Sl.at s35 (r9.toNat * 6)), (9, Sl.at s37 (a1.Who.toNat * 3)), (10, .int .u8 ((1 : BitVec 8) <<< n82).toNat), (128, .bool y131)]) (fun y131 => y131 = o130) ?_ ?_
  ·rcases (Bool.eq_false_or_eq_true (a1.Kind == (3 : Int))).symm with hb132 | hb132
   ·replace H := ite_f hb132 H
    refine Qt.skip rfl rfl rfl hb132 rfl (by decide) ?_
    refine Qt.skip rfl rfl rfl hb132 rfl (by decide) ?_
    refine Qt.skip rfl rfl rfl hb132 rfl (by decide) ?_
    refine Qt.skip rfl rfl rfl hb132 rfl (by decide) ?_
    refine Qt.skip rfl rfl rfl hb132 rfl (by decide) ?_
    refine Qt.skip rfl rfl rfl hb132 rfl (by decide) ?_
    refine Qt.skip rfl rfl rfl hb132 rfl (by decide) ?_
    refine Qt.skip rfl rfl rfl hb132 rfl (by decide) ?_
    refine Qt.skip rfl rfl rfl hb132 rfl (by decide) ?_
    refine Qt.skip rfl rfl rfl hb132 rfl (by decide) ?_
    refine Qt.skip rfl rfl rfl hb132 rfl (by decide) ?_
    refine Qt.r (Ev.pickF rfl hb132 rfl) ?_
    exact Qt.meet false ⟨rfl, rfl, rfl, rfl, rfl, rfl, rfl, trivial⟩ (some_inj H)
   replace H := ite_t hb132 H
   refine Qt.rG hb132 (Ev.move rfl) ?_
   refine Qt.rG hb132 (Ev.nilCheckS (α := Round) rfl (Rd.own (i := 3) rfl rfl rfl) ((Get.elemN (s := 6) (x := x76) rfl g78.2.2 (Get.here _)).off (by omega)) rfl) ?_
   refine Qt.rG hb132 (Ev.fieldS (α := Round) (f' := r9.toNat * 6 + 2) rfl (Rd.own (i := 3) rfl rfl rfl) ((Get.elemN (s := 6) (x := x76) rfl g78.2.2 (Get.here _)).off (by omega)) rfl Try.runUnderlying91 rfl Try.sizeOf5 rfl rfl rfl) ?_
   refine Qt.rG hb132 (Ev.loadS (α := Round) rfl (Rd.own (i := 3) rfl rfl rfl) Try.isAgg5 (v := .int .u8 x76.Promised.toNat) ((Get.elemN (s := 6) (x := x76) rfl g78.2.2 (Round.get_Promised (Get.here _))).off (by omega))) ?_
   refine Qt.rG hb132 (Ev.convTo16 rfl Try.runUnderlying5 Try.runUnderlying23) ?_
   obtain ⟨r133, h134, H⟩ := bind_some H
   refine Qt.callG rfl rfl rfl hb132 rfl (by decide) (vs := [.int .u16 (BitVec.ofInt 16 (x76.Promised.toNat : Int)).toNat]) ⟨rfl, trivial⟩ Try.call45 (partref_size_sim h134 w0 _ M _ (sc8 (sc2 hM))) ?_
   refine Qt.rG hb132 (Ev.mul rfl rfl) ?_
   refine Qt.rG hb132 (Ev.fieldAddr (off' := 0) rfl Try.runUnderlying44 rfl Try.sizeOf41 rfl rfl) ?_
   refine Qt.rG hb132 (Ev.load (i := 9) rfl rfl Try.isAgg41 (v := Sl.v s_a0_0) ((SynodR.get_Voters (Get.here _)).off (by rfl))) ?_
   refine Qt.rG hb132 (Ev.lenS (α := Voter) (xs := a0.Voters) (by decide) rfl rfl Try.runUnderlying41 (hs_a0_0.mono hF60 (sc8 (sc2 hM)))) ?_
   refine Qt.rG hb132 (Ev.gtr rfl rfl) ?_
   refine Qt.r (Ev.pickT rfl hb132 rfl) ?_
   exact Qt.meet (decide ((w64 ((2 : Int) * r133)) > (a0.Voters.length : Int))) ⟨rfl, rfl, rfl, rfl, rfl, rfl, rfl, trivial⟩ (some_inj H)
  rintro y131 hy
  subst hy
  refine Qt.as (e' := [(3, pv b3 0), (4, pv b7 0), (7, pv b30 0), (8, Sl.at s35 (r9.toNat * 6)), (9, Sl.at s37 (a1.Who.toNat * 3)), (10, .int .u8 ((1 : BitVec 8) <<< n82).toNat), (128, .bool y131)]) ⟨rfl, rfl, rfl, rfl, rfl, rfl, rfl, trivial⟩ ?_
  replace H := HKo130
  refine Qt.r (Ev.assign rfl) ?_
  refine Qt.done ?_
  refine At.then ?_
  rcases Bool.eq_false_or_eq_true y131 with hb137 | hb137
  ·replace H := ite_t hb137 H
   refine Cd.condT rfl hb137 ?_
   refine Cd.region ?_
   refine Lst.r (Ev.move rfl) ?_
   refine Lst.r (Ev.nilCheckS (α := Round) rfl (Rd.own (i := 3) rfl rfl rfl) ((Get.elemN (s := 6) (x := x76) rfl g78.2.2 (Get.here _)).off (by omega)) rfl) ?_
   refine Lst.r (Ev.fieldS (α := Round) (f' := r9.toNat * 6 + 4) rfl (Rd.own (i := 3) rfl rfl rfl) ((Get.elemN (s := 6) (x := x76) rfl g78.2.2 (Get.here _)).off (by omega)) rfl Try.runUnderlying91 rfl Try.sizeOf4 rfl rfl rfl) ?_
   obtain ⟨p138, h139, H⟩ := Let_some H
   refine Lst.storeS (i := 3) rfl rfl rfl rfl rfl Try.sizeOf4 (vs := [.bool true]) rfl rfl (by decide) rfl (xs' := encs p138) (by rw [← h139]; exact (Put.elemN (s := 6) (x := x76) rfl g78.2.2 (Round.put_Asked (Put.here (vs := [.bool true]) rfl))).off (by omega)) (L' := (.blk b30 (enc (SynodR.mk ({ Synod.zero with Voters := l38, Rounds := p138 } : Synod) s37 s35)) 44) :: (.own s31 91 6 (encs l32)) :: (.own s33 93 3 (encs l34)) :: (.own s35 91 6 (encs p138)) :: (.own s37 93 3 (encs l38)) :: (.blk b3 (enc a1) 46) :: (.blk b7 (enc (SynodR.mk ({ Synod.zero with Voters := ([] : List Voter), Rounds := ([] : List Round) } : Synod) Sl.nil Sl.nil)) 44) :: (.own Sl.nil 91 6 (encs ([] : List Round))) :: (.own Sl.nil 93 3 (encs ([] : List Voter))) :: (.blk b1 (enc (SynodR.mk a0 s_a0_0 s_a0_1)) 44) :: L) rfl ?_
   refine Lst.nil ?_
   refine At.in_normal ?_
   exact At.meet (({ Synod.zero with Voters := l38, Rounds := p138 } : Synod), p138, l38) (FLe.refl _) ⟨rfl, rfl, trivial⟩ rfl (some_inj H)
  replace H := ite_f hb137 H
  refine Cd.condF rfl hb137 ?_
  refine Cd.seq ?_
  refine Cd.quiet (by kernel_rfl) (by kernel_rfl) ?_
  refine Qt.r (Ev.fieldAddr (off' := 0) rfl Try.runUnderlying46 rfl Try.sizeOf3 rfl rfl) ?_
  refine Qt.r (Ev.load (i := 5) rfl rfl Try.isAgg3 (v := iv a1.Kind) ((Act.get_Kind (Get.here _)).off (by rfl))) ?_
  refine Qt.r (Ev.eql rfl rfl) ?_
  refine Qt.r (Ev.move rfl) ?_
  obtain ⟨o140, H, HKo140⟩ := bind_some H
  refine Qt.join (σ := Bool) 5 (fun y141 => [(3, pv b3 0), (4, pv b7 0), (7, pv b30 0), (8, Sl.at s35 (r9.toNat * 6)), (9, Sl.at s37 (a1.Who.toNat * 3)), (10, .int .u8 ((1 : BitVec 8) <<< n82).toNat), (141, .bool y141)]) (fun y141 => y141 = o140) ?_ ?_
  ·rcases (Bool.eq_false_or_eq_true (a1.Kind == (4 : Int))).symm with hb142 | hb142
   ·replace H := ite_f hb142 H
    refine Qt.skip rfl rfl rfl hb142 rfl (by decide) ?_
    refine Qt.skip rfl rfl rfl hb142 rfl (by decide) ?_
    refine Qt.skip rfl rfl rfl hb142 rfl (by decide) ?_
    refine Qt.skip rfl rfl rfl hb142 rfl (by decide) ?_
    refine Qt.r (Ev.pickF rfl hb142 rfl) ?_
    exact Qt.meet false ⟨rfl, rfl, rfl, rfl, rfl, rfl, rfl, trivial⟩ (some_inj H)
   replace H := ite_t hb142 H
   refine Qt.rG hb142 (Ev.move rfl) ?_
   refine Qt.rG hb142 (Ev.nilCheckS (α := Round) rfl (Rd.own (i := 3) rfl rfl rfl) ((Get.elemN (s := 6) (x := x76) rfl g78.2.2 (Get.here _)).off (by omega)) rfl) ?_
   refine Qt.rG hb142 (Ev.fieldS (α := Round) (f' := r9.toNat * 6 + 4) rfl (Rd.own (i := 3) rfl rfl rfl) ((Get.elemN (s := 6) (x := x76) rfl g78.2.2 (Get.here _)).off (by omega)) rfl Try.runUnderlying91 rfl Try.sizeOf4 rfl rfl rfl) ?_
   refine Qt.rG hb142 (Ev.loadS (α := Round) rfl (Rd.own (i := 3) rfl rfl rfl) Try.isAgg4 (v := .bool x76.Asked) ((Get.elemN (s := 6) (x := x76) rfl g78.2.2 (Round.get_Asked (Get.here _))).off (by omega))) ?_
   refine Qt.r (Ev.pickT rfl hb142 rfl) ?_
   exact Qt.meet x76.Asked ⟨rfl, rfl, rfl, rfl, rfl, rfl, rfl, trivial⟩ (some_inj H)
  rintro y141 hy
  subst hy
  refine Qt.as (e' := [(3, pv b3 0), (4, pv b7 0), (7, pv b30 0), (8, Sl.at s35 (r9.toNat * 6)), (9, Sl.at s37 (a1.Who.toNat * 3)), (10, .int .u8 ((1 : BitVec 8) <<< n82).toNat), (141, .bool y141)]) ⟨rfl, rfl, rfl, rfl, rfl, rfl, rfl, trivial⟩ ?_
  replace H := HKo140
  refine Qt.r (Ev.move rfl) ?_
  obtain ⟨o143, H, HKo143⟩ := bind_some H
  refine Qt.join (σ := Bool) 8 (fun y144 => [(3, pv b3 0), (4, pv b7 0), (7, pv b30 0), (8, Sl.at s35 (r9.toNat * 6)), (9, Sl.at s37 (a1.Who.toNat * 3)), (10, .int .u8 ((1 : BitVec 8) <<< n82).toNat), (150, .bool y144)]) (fun y144 => y144 = o143) ?_ ?_
  ·rcases (Bool.eq_false_or_eq_true y141).symm with hb145 | hb145
   ·replace H := ite_f hb145 H
    refine Qt.skip rfl rfl rfl hb145 rfl (by decide) ?_
    refine Qt.skip rfl rfl rfl hb145 rfl (by decide) ?_
    refine Qt.skip rfl rfl rfl hb145 rfl (by decide) ?_
    refine Qt.skip rfl rfl rfl hb145 rfl (by decide) ?_
    refine Qt.skip rfl rfl rfl hb145 rfl (by decide) ?_
    refine Qt.skip rfl rfl rfl hb145 rfl (by decide) ?_
    refine Qt.skip rfl rfl rfl hb145 rfl (by decide) ?_
    refine Qt.r (Ev.pickF rfl hb145 rfl) ?_
    exact Qt.meet false ⟨rfl, rfl, rfl, rfl, rfl, rfl, rfl, trivial⟩ (some_inj H)
   replace H := ite_t hb145 H
   refine Qt.rG hb145 (Ev.move rfl) ?_
   refine Qt.rG hb145 (Ev.nilCheckS (α := Voter) rfl (Rd.own (i := 4) rfl rfl rfl) ((Get.elemN (s := 3) (x := x79) rfl g81.2.2 (Get.here _)).off (by omega)) rfl) ?_
   refine Qt.rG hb145 (Ev.fieldS (α := Voter) (f' := a1.Who.toNat * 3 + 0) rfl (Rd.own (i := 4) rfl rfl rfl) ((Get.elemN (s := 3) (x := x79) rfl g81.2.2 (Get.here _)).off (by omega)) rfl Try.runUnderlying93 rfl Try.sizeOf3 rfl rfl rfl) ?_
   refine Qt.rG hb145 (Ev.loadS (α := Voter) rfl (Rd.own (i := 4) rfl rfl rfl) Try.isAgg3 (v := iv x79.Promised) ((Get.elemN (s := 3) (x := x79) rfl g81.2.2 (Voter.get_Promised (Get.here _))).off (by omega))) ?_
   refine Qt.rG hb145 (Ev.fieldAddr (off' := 1) rfl Try.runUnderlying46 rfl Try.sizeOf3 rfl rfl) ?_
   refine Qt.rG hb145 (Ev.load (i := 5) rfl rfl Try.isAgg3 (v := iv a1.Ballot) ((Act.get_Ballot (Get.here _)).off (by rfl))) ?_
   refine Qt.rG hb145 (Ev.leq rfl rfl) ?_
   refine Qt.r (Ev.pickT rfl hb145 rfl) ?_
   exact Qt.meet (decide (x79.Promised ≤ a1.Ballot)) ⟨rfl, rfl, rfl, rfl, rfl, rfl, rfl, trivial⟩ (some_inj H)
  rintro y144 hy
  subst hy
  refine Qt.as (e' := [(3, pv b3 0), (4, pv b7 0), (7, pv b30 0), (8, Sl.at s35 (r9.toNat * 6)), (9, Sl.at s37 (a1.Who.toNat * 3)), (10, .int .u8 ((1 : BitVec 8) <<< n82).toNat), (150, .bool y144)]) ⟨rfl, rfl, rfl, rfl, rfl, rfl, rfl, trivial⟩ ?_
  replace H := HKo143
  refine Qt.r (Ev.assign rfl) ?_
  refine Qt.done ?_
  refine At.then ?_
  rcases (Bool.eq_false_or_eq_true y144).symm with hb146 | hb146
  ·replace H := ite_f hb146 H
   refine Cd.condF rfl hb146 ?_
   refine Cd.skip ?_
   refine At.in_normal ?_
   exact At.meet (({ Synod.zero with Voters := l38, Rounds := l36 } : Synod), l36, l38) (FLe.refl _) ⟨rfl, rfl, trivial⟩ rfl (some_inj H)
  replace H := ite_t hb146 H
  refine Cd.condT rfl hb146 ?_
  refine Cd.seq ?_
  refine Cd.region ?_
  refine Lst.r (Ev.move rfl) ?_
  refine Lst.r (Ev.nilCheckS (α := Round) rfl (Rd.own (i := 3) rfl rfl rfl) ((Get.elemN (s := 6) (x := x76) rfl g78.2.2 (Get.here _)).off (by omega)) rfl) ?_
  refine Lst.r (Ev.fieldS (α := Round) (f' := r9.toNat * 6 + 3) rfl (Rd.own (i := 3) rfl rfl rfl) ((Get.elemN (s := 6) (x := x76) rfl g78.2.2 (Get.here _)).off (by omega)) rfl Try.runUnderlying91 rfl Try.sizeOf5 rfl rfl rfl) ?_
  refine Lst.r (Ev.loadS (α := Round) rfl (Rd.own (i := 3) rfl rfl rfl) Try.isAgg5 (v := .int .u8 x76.Voted.toNat) ((Get.elemN (s := 6) (x := x76) rfl g78.2.2 (Round.get_Voted (Get.here _))).off (by omega))) ?_
  refine Lst.r (Ev.move rfl) ?_
  refine Lst.r (Ev.orU8 (i := x76.Voted) (j := (1 : BitVec 8) <<< n82) rfl rfl) ?_
  refine Lst.r (Ev.nilCheckS (α := Round) rfl (Rd.own (i := 3) rfl rfl rfl) ((Get.elemN (s := 6) (x := x76) rfl g78.2.2 (Get.here _)).off (by omega)) rfl) ?_
  refine Lst.r (Ev.fieldS (α := Round) (f' := r9.toNat * 6 + 3) rfl (Rd.own (i := 3) rfl rfl rfl) ((Get.elemN (s := 6) (x := x76) rfl g78.2.2 (Get.here _)).off (by omega)) rfl Try.runUnderlying91 rfl Try.sizeOf5 rfl rfl rfl) ?_
  obtain ⟨p147, h148, H⟩ := Let_some H
  refine Lst.storeS (i := 3) rfl rfl rfl rfl rfl Try.sizeOf5 (vs := [.int .u8 (x76.Voted ||| ((1 : BitVec 8) <<< n82)).toNat]) rfl rfl (by decide) rfl (xs' := encs p147) (by rw [← h148]; exact (Put.elemN (s := 6) (x := x76) rfl g78.2.2 (Round.put_Voted (Put.here (vs := [.int .u8 (x76.Voted ||| ((1 : BitVec 8) <<< n82)).toNat]) rfl))).off (by omega)) (L' := (.blk b30 (enc (SynodR.mk ({ Synod.zero with Voters := l38, Rounds := p147 } : Synod) s37 s35)) 44) :: (.own s31 91 6 (encs l32)) :: (.own s33 93 3 (encs l34)) :: (.own s35 91 6 (encs p147)) :: (.own s37 93 3 (encs l38)) :: (.blk b3 (enc a1) 46) :: (.blk b7 (enc (SynodR.mk ({ Synod.zero with Voters := ([] : List Voter), Rounds := ([] : List Round) } : Synod) Sl.nil Sl.nil)) 44) :: (.own Sl.nil 91 6 (encs ([] : List Round))) :: (.own Sl.nil 93 3 (encs ([] : List Voter))) :: (.blk b1 (enc (SynodR.mk a0 s_a0_0 s_a0_1)) 44) :: L) rfl ?_
  refine Lst.nil ?_
  refine At.then ?_
  refine Cd.tail 11 (by kernel_rfl) (by kernel_rfl) ?_
  refine Qt.r (Ev.move rfl) ?_
  refine Qt.r (Ev.fieldAddr (off' := 1) rfl Try.runUnderlying46 rfl Try.sizeOf3 rfl rfl) ?_
  refine Qt.r (Ev.load (i := 5) rfl rfl Try.isAgg3 (v := iv a1.Ballot) ((Act.get_Ballot (Get.here _)).off (by rfl))) ?_
  refine Qt.r (Ev.fieldAddr (off' := 1) rfl Try.runUnderlying46 rfl Try.sizeOf3 rfl rfl) ?_
  refine Qt.r (Ev.load (i := 5) rfl rfl Try.isAgg3 (v := iv a1.Ballot) ((Act.get_Ballot (Get.here _)).off (by rfl))) ?_
  refine Qt.r (Ev.move rfl) ?_
  obtain ⟨x149, h150, H⟩ := bind_some H
  have g151 := lat_some h150
  refine Qt.r (Ev.nilCheckS (α := Round) rfl (Rd.own (i := 3) rfl rfl rfl) ((Get.elemN (s := 6) (x := x149) rfl g151.2.2 (Get.here _)).off (by omega)) rfl) ?_
  refine Qt.r (Ev.fieldS (α := Round) (f' := r9.toNat * 6 + 5) rfl (Rd.own (i := 3) rfl rfl rfl) ((Get.elemN (s := 6) (x := x149) rfl g151.2.2 (Get.here _)).off (by omega)) rfl Try.runUnderlying91 rfl Try.sizeOf9 rfl rfl rfl) ?_
  refine Qt.r (Ev.loadS (α := Round) rfl (Rd.own (i := 3) rfl rfl rfl) Try.isAgg9 (v := Str.v x149.Text) ((Get.elemN (s := 6) (x := x149) rfl g151.2.2 (Round.get_Text (Get.here _))).off (by omega))) ?_
  refine Qt.r (Ev.build (v := .agg (enc ({ Voter.zero with Promised := a1.Ballot, Voted := a1.Ballot, Text := x149.Text } : Voter)).toArray) (pv := [(0, iv a1.Ballot), (1, iv a1.Ballot), (2, Str.v x149.Text)]) ⟨rfl, rfl, ⟨rfl, rfl, ⟨rfl, rfl, trivial⟩⟩⟩ (fun w => by kernel_rfl)) ?_
  refine Qt.r (Ev.nilCheckS (α := Voter) rfl (Rd.own (i := 4) rfl rfl rfl) ((Get.elemN (s := 3) (x := x79) rfl g81.2.2 (Get.here _)).off (by omega)) rfl) ?_
  refine Qt.tail ?_
  obtain ⟨p152, h153, H⟩ := Let_some H
  refine Lst.storeS (i := 4) rfl rfl rfl rfl rfl Try.sizeOf93 (vs := enc ({ Voter.zero with Promised := a1.Ballot, Voted := a1.Ballot, Text := x149.Text } : Voter)) rfl (Enc.len _) (by decide) (Enc.one _) (xs' := encs p152) (by rw [← h153]; exact (Put.elemN (s := 3) (x := x79) rfl g81.2.2 (Put.here ((Enc.len _).trans (Enc.len _).symm))).off (by omega)) (L' := (.blk b30 (enc (SynodR.mk ({ Synod.zero with Voters := p152, Rounds := p147 } : Synod) s37 s35)) 44) :: (.own s31 91 6 (encs l32)) :: (.own s33 93 3 (encs l34)) :: (.own s35 91 6 (encs p147)) :: (.own s37 93 3 (encs p152)) :: (.blk b3 (enc a1) 46) :: (.blk b7 (enc (SynodR.mk ({ Synod.zero with Voters := ([] : List Voter), Rounds := ([] : List Round) } : Synod) Sl.nil Sl.nil)) 44) :: (.own Sl.nil 91 6 (encs ([] : List Round))) :: (.own Sl.nil 93 3 (encs ([] : List Voter))) :: (.blk b1 (enc (SynodR.mk a0 s_a0_0 s_a0_1)) 44) :: L) rfl ?_
  refine Lst.nil ?_
  refine At.in_normal ?_
  exact At.meet (({ Synod.zero with Voters := p152, Rounds := p147 } : Synod), p147, p152) (FLe.refl _) ⟨rfl, rfl, trivial⟩ rfl (some_inj H)
 rintro F154 ⟨y85, l86, l87⟩ hF155 hy
 subst hy
 refine Cd.as (e' := [(4, pv b7 0), (7, pv b30 0)]) (L' := (.blk b30 (enc (SynodR.mk ({ y85 with Voters := l87, Rounds := l86 } : Synod) s37 s35)) 44) :: (.own s31 91 6 (encs l32)) :: (.own s33 93 3 (encs l34)) :: (.own s35 91 6 (encs l86)) :: (.own s37 93 3 (encs l87)) :: (.blk b3 (enc a1) 46) :: (.blk b7 (enc (SynodR.mk ({ Synod.zero with Voters := ([] : List Voter), Rounds := ([] : List Round) } : Synod) Sl.nil Sl.nil)) 44) :: (.own Sl.nil 91 6 (encs ([] : List Round))) :: (.own Sl.nil 93 3 (encs ([] : List Voter))) :: (.blk b1 (enc (SynodR.mk a0 s_a0_0 s_a0_1)) 44) :: L) ⟨rfl, rfl, trivial⟩ rfl ?_
 replace H := HKo88
 refine Cd.seq ?_
 refine Cd.region ?_
 refine Lst.r (Ev.loadA (i := 0) rfl rfl Try.isAgg44 Try.sizeOf44 (ch := enc (SynodR.mk ({ y85 with Voters := l87, Rounds := l86 } : Synod) s37 s35)) (Enc.len _) (Get.here _)) ?_
 refine Lst.store (i := 6) rfl rfl rfl rfl rfl Try.sizeOf44 (vs := enc (SynodR.mk ({ y85 with Voters := l87, Rounds := l86 } : Synod) s37 s35)) rfl (Enc.len _) (Enc.one _) (cs' := enc (SynodR.mk ({ y85 with Voters := l87, Rounds := l86 } : Synod) s37 s35)) (Put.here ((Enc.len _).trans (Enc.len _).symm)) (L' := (.blk b30 (enc (SynodR.mk ({ y85 with Voters := l87, Rounds := l86 } : Synod) s37 s35)) 44) :: (.own s31 91 6 (encs l32)) :: (.own s33 93 3 (encs l34)) :: (.own s35 91 6 (encs l86)) :: (.own s37 93 3 (encs l87)) :: (.blk b3 (enc a1) 46) :: (.blk b7 (enc (SynodR.mk ({ y85 with Voters := l87, Rounds := l86 } : Synod) s37 s35)) 44) :: (.own Sl.nil 91 6 (encs ([] : List Round))) :: (.own Sl.nil 93 3 (encs ([] : List Voter))) :: (.blk b1 (enc (SynodR.mk a0 s_a0_0 s_a0_1)) 44) :: L) rfl ?_
 refine Lst.r (Ev.assign rfl) ?_
 refine Lst.nil ?_
 refine At.then ?_
 obtain rfl := some_inj H
 refine Cd.ret ?_
 refine At.front (i := 4) rfl (L' := (.own s37 93 3 (encs l87)) :: (.blk b30 (enc (SynodR.mk ({ y85 with Voters := l87, Rounds := l86 } : Synod) s37 s35)) 44) :: (.own s31 91 6 (encs l32)) :: (.own s33 93 3 (encs l34)) :: (.own s35 91 6 (encs l86)) :: (.blk b3 (enc a1) 46) :: (.blk b7 (enc (SynodR.mk ({ y85 with Voters := l87, Rounds := l86 } : Synod) s37 s35)) 44) :: (.own Sl.nil 91 6 (encs ([] : List Round))) :: (.own Sl.nil 93 3 (encs ([] : List Voter))) :: (.blk b1 (enc (SynodR.mk a0 s_a0_0 s_a0_1)) 44) :: L) rfl ?_
 exact At.ret2 rfl (Res.cellA (i := 6) rfl rfl Try.isAgg44 Try.sizeOf44 (Enc.len _)) (Res.tmp rfl) (FLe.trans hF60 hF155) (sk1 (sc1 (sc1 (sc1 (sk1 (sc1 (sc1 (sc1 (sc1 (sc1 (.refl _))))))))))) ⟨s37, s35, rfl, rfl⟩
set_option maxRecDepth 20000 in
theorem partlaw_SynodSays_sim {fu : Nat} {a0 : Synod} {a1 : Act} {s_a0_0 : Sl} {s_a0_1 : Sl} {r : Bool} (H : partlaw_SynodSays fu a0 a1 = some r) (w0 : World) (F : Frz) (M L : List Item) (hM : M.Sublist L) (hs_a0_0 : Rd w0 F M s_a0_0 a0.Voters) (hs_a0_1 : Rd w0 F M s_a0_1 a0.Rounds) : Ok Try.prog w0 5 [.agg (enc (SynodR.mk a0 s_a0_0 s_a0_1)).toArray, .agg (enc a1).toArray] F (L) (Is (.bool r) (L)) := by
 unfold partlaw_SynodSays at H
 refine Ok.enter (m := 2) (n := 121) Try.func5 rfl rfl rfl (by decide) ?_
 refine Cd.env (e' := [(0, .agg (enc (SynodR.mk a0 s_a0_0 s_a0_1)).toArray), (1, .agg (enc a1).toArray)]) rfl ?_
 refine Cd.seq ?_
 refine Cd.region ?_
 refine Lst.box rfl rfl (by decide) rfl (cs := enc (SynodR.mk a0 s_a0_0 s_a0_1)) rfl (fun b1 => ?_)
 refine Lst.box rfl rfl (by decide) rfl (cs := enc a1) rfl (fun b3 => ?_)
 refine Lst.r (Ev.assign rfl) ?_
 refine Lst.nil ?_
 refine At.then ?_
 refine Cd.seq ?_
 refine Cd.region ?_
 refine Lst.r (Ev.loadA (i := 1) rfl rfl Try.isAgg44 Try.sizeOf44 (ch := enc (SynodR.mk a0 s_a0_0 s_a0_1)) (Enc.len _) (Get.here _)) ?_
 obtain ⟨r5, h6, H⟩ := bind_some H
 refine Lst.call1 rfl rfl (by decide) (vs := [.agg (enc (SynodR.mk a0 s_a0_0 s_a0_1)).toArray]) ⟨rfl, trivial⟩ Try.call22 (partref_SynodErr_sim h6 w0 _ M _ (sc2 hM) (hs_a0_0.mono (FLe.refl _) (.refl _)) (hs_a0_1.mono (FLe.refl _) (.refl _))) ?_
 refine Lst.r (Ev.assign rfl) ?_
 refine Lst.nil ?_
 refine At.then ?_
 refine Cd.seq ?_
 refine Cd.region ?_
 refine Lst.r (Ev.loadA (i := 1) rfl rfl Try.isAgg44 Try.sizeOf44 (ch := enc (SynodR.mk a0 s_a0_0 s_a0_1)) (Enc.len _) (Get.here _)) ?_
 refine Lst.r (Ev.loadA (i := 0) rfl rfl Try.isAgg46 Try.sizeOf46 (ch := enc a1) (Enc.len _) (Get.here _)) ?_
 obtain ⟨r9, h10, H⟩ := bind_some H
 refine Lst.call rfl rfl (by decide) (vs := [.agg (enc (SynodR.mk a0 s_a0_0 s_a0_1)).toArray, .agg (enc a1).toArray]) ⟨rfl, rfl, trivial⟩ Try.call23 (synod_Step_sim h10 w0 _ M _ (sc2 hM) (hs_a0_0.mono (FLe.refl _) (.refl _)) (hs_a0_1.mono (FLe.refl _) (.refl _))) (fun F15 L' v hF16 hv => ?_)
 obtain ⟨s11, s13, rfl, rfl⟩ := hv
 refine Lst.r (Ev.move rfl) ?_
 refine Lst.r (Ev.extract rfl rfl) ?_
 refine Lst.r (Ev.extract rfl rfl) ?_
 refine Lst.addNil 93 3 ?_
 refine Lst.addNil 91 6 ?_
 refine Lst.alloc (cs := enc (SynodR.mk ({ Synod.zero with Voters := ([] : List Voter), Rounds := ([] : List Round) } : Synod) Sl.nil Sl.nil)) rfl rfl (by decide) Try.zeroValue44 rfl (fun b19 => ?_)
 refine Lst.store (i := 0) rfl rfl rfl rfl rfl Try.sizeOf44 (vs := enc (SynodR.mk r9.1 s11 s13)) rfl (Enc.len _) (Enc.one _) (cs' := enc (SynodR.mk r9.1 s11 s13)) (Put.here ((Enc.len _).trans (Enc.len _).symm)) (L' := (.blk b19 (enc (SynodR.mk r9.1 s11 s13)) 44) :: (.own Sl.nil 91 6 (encs ([] : List Round))) :: (.own Sl.nil 93 3 (encs ([] : List Voter))) :: (.own s11 93 3 (encs r9.1.Voters)) :: (.own s13 91 6 (encs r9.1.Rounds)) :: (.blk b3 (enc a1) 46) :: (.blk b1 (enc (SynodR.mk a0 s_a0_0 s_a0_1)) 44) :: L) rfl ?_
 refine Lst.r (Ev.assign rfl) ?_
 refine Lst.nil ?_
 refine At.then ?_
 refine Cd.seq ?_
 refine Cd.region ?_
 refine Lst.r (Ev.loadA (i := 6) rfl rfl Try.isAgg44 Try.sizeOf44 (ch := enc (SynodR.mk a0 s_a0_0 s_a0_1)) (Enc.len _) (Get.here _)) ?_
 obtain ⟨r21, h22, H⟩ := bind_some H
 refine Lst.call rfl rfl (by decide) (vs := [.agg (enc (SynodR.mk a0 s_a0_0 s_a0_1)).toArray]) ⟨rfl, trivial⟩ Try.call24 (synod_Chosen_sim h22 w0 _ M _ (sc4 (sc2 (sc1 hM))) (hs_a0_0.mono hF16 (.refl _)) (hs_a0_1.mono hF16 (.refl _))) (fun F25 L' v hF26 hv => ?_)
 obtain ⟨s23, rfl, rfl⟩ := hv
 refine Lst.r (Ev.move rfl) ?_
 refine Lst.r (Ev.extract rfl rfl) ?_
 refine Lst.r (Ev.extract rfl rfl) ?_
 refine Lst.r (Ev.assign rfl) ?_
 refine Lst.r (Ev.assign rfl) ?_
 refine Lst.nil ?_
 refine At.then ?_
 refine Cd.seq ?_
 refine Cd.seq ?_
 refine Cd.as (e' := [(2, pv b1 0), (3, pv b3 0), (5, iv r5), (6, pv b19 0), (7, iv r9.2), (8, Sl.v s23), (9, iv r21.2)]) (L' := (.own s23 9 1 (encs r21.1)) :: (.blk b19 (enc (SynodR.mk r9.1 s11 s13)) 44) :: (.own Sl.nil 91 6 (encs ([] : List Round))) :: (.own Sl.nil 93 3 (encs ([] : List Voter))) :: (.own s11 93 3 (encs r9.1.Voters)) :: (.own s13 91 6 (encs r9.1.Rounds)) :: (.blk b3 (enc a1) 46) :: (.blk b1 (enc (SynodR.mk a0 s_a0_0 s_a0_1)) 44) :: L) ⟨rfl, rfl, rfl, rfl, rfl, rfl, rfl, trivial⟩ rfl ?_
 refine Cd.region ?_
 refine Lst.r (Ev.loadA (i := 7) rfl rfl Try.isAgg44 Try.sizeOf44 (ch := enc (SynodR.mk a0 s_a0_0 s_a0_1)) (Enc.len _) (Get.here _)) ?_
 obtain ⟨r27, h28, H⟩ := bind_some H
 refine Lst.call1 rfl rfl (by decide) (vs := [.agg (enc (SynodR.mk a0 s_a0_0 s_a0_1)).toArray]) ⟨rfl, trivial⟩ Try.call25 (synod_Check_sim h28 w0 _ M _ (sc8 hM) (hs_a0_0.mono (FLe.trans hF16 hF26) (.refl _)) (hs_a0_1.mono (FLe.trans hF16 hF26) (.refl _))) ?_
 refine Lst.r (Ev.move rfl) ?_
 refine Lst.r (Ev.neq rfl rfl) ?_
 refine Lst.nil ?_
 refine At.then ?_
 rcases Bool.eq_false_or_eq_true (r27 != r5) with hb31 | hb31
 ·replace H := ite_t hb31 H
  refine Cd.condT rfl hb31 ?_
  refine Cd.seq ?_
  refine Cd.region ?_
  refine Lst.r (Ev.assign rfl) ?_
  refine Lst.nil ?_
  refine At.then ?_
  obtain rfl := some_inj H
  refine Cd.ret ?_
  refine At.then_ret ?_
  exact At.ret1 rfl (Res.tmp rfl) (FLe.trans hF16 hF26) (sc1 (sc1 (sc1 (sc1 (sc1 (sc1 (sc1 (sc1 (.refl _))))))))) ⟨rfl, rfl⟩
 replace H := ite_f hb31 H
 refine Cd.condF rfl hb31 ?_
 refine Cd.skip ?_
 refine At.then ?_
 refine Cd.seq ?_
 refine Cd.seq ?_
 refine Cd.region ?_
 refine Lst.r (Ev.move rfl) ?_
 refine Lst.r (Ev.neq rfl rfl) ?_
 refine Lst.nil ?_
 refine At.then ?_
 rcases Bool.eq_false_or_eq_true (r5 != (0 : Int)) with hb32 | hb32
 ·replace H := ite_t hb32 H
  refine Cd.condT rfl hb32 ?_
  refine Cd.seq ?_
  refine Cd.region ?_
  refine Lst.r (Ev.loadA (i := 1) rfl rfl Try.isAgg44 Try.sizeOf44 (ch := enc (SynodR.mk r9.1 s11 s13)) (Enc.len _) (Get.here _)) ?_
  refine Lst.r (Ev.build (v := .agg (enc (SynodR.mk Synod.zero Sl.nil Sl.nil)).toArray) (pv := []) trivial (fun w => by kernel_rfl)) ?_
  obtain ⟨r33, h34, H⟩ := bind_some H
  refine Lst.call1 rfl rfl (by decide) (vs := [.agg (enc (SynodR.mk r9.1 s11 s13)).toArray, .agg (enc (SynodR.mk Synod.zero Sl.nil Sl.nil)).toArray]) ⟨rfl, rfl, trivial⟩ Try.call26 (partref_SameSynod_sim h34 w0 _ _ _ (.refl _) (Rd.own (i := 4) rfl rfl rfl) (Rd.own (i := 5) rfl rfl rfl) Rd.nil Rd.nil) ?_
  refine Lst.r (Ev.move rfl) ?_
  obtain ⟨o37, H, HKo37⟩ := bind_some H
  refine Lst.join (σ := Bool) 4 (fun y38 => [(5, iv r5), (8, Sl.v s23), (9, iv r21.2), (38, .bool y38)]) (fun y38 => (.own s23 9 1 (encs r21.1)) :: (.blk b19 (enc (SynodR.mk r9.1 s11 s13)) 44) :: (.own Sl.nil 91 6 (encs ([] : List Round))) :: (.own Sl.nil 93 3 (encs ([] : List Voter))) :: (.own s11 93 3 (encs r9.1.Voters)) :: (.own s13 91 6 (encs r9.1.Rounds)) :: (.blk b3 (enc a1) 46) :: (.blk b1 (enc (SynodR.mk a0 s_a0_0 s_a0_1)) 44) :: L) (fun _ y38 => y38 = o37) ?_ ?_
  ·rcases (Bool.eq_false_or_eq_true r33).symm with hb39 | hb39
   ·replace H := ite_f hb39 H
    refine Lst.skip rfl rfl rfl hb39 rfl (by decide) ?_
    refine Lst.skip rfl rfl rfl hb39 rfl (by decide) ?_
    refine Lst.skip rfl rfl rfl hb39 rfl (by decide) ?_
    refine Lst.r (Ev.pickF rfl hb39 rfl) ?_
    refine Lst.nil ?_
    exact At.meet false (FLe.refl _) ⟨rfl, rfl, rfl, rfl, trivial⟩ rfl (some_inj H)
   replace H := ite_t hb39 H
   refine Lst.rG hb39 (Ev.move rfl) ?_
   refine Lst.rG hb39 (Ev.move rfl) ?_
   refine Lst.rG hb39 (Ev.eql rfl rfl) ?_
   refine Lst.r (Ev.pickT rfl hb39 rfl) ?_
   refine Lst.nil ?_
   exact At.meet (r9.2 == r5) (FLe.refl _) ⟨rfl, rfl, rfl, rfl, trivial⟩ rfl (some_inj H)
  rintro F40 y38 hF41 hy
  subst hy
  refine Lst.as (e' := [(5, iv r5), (8, Sl.v s23), (9, iv r21.2), (38, .bool y38)]) (L' := (.own s23 9 1 (encs r21.1)) :: (.blk b19 (enc (SynodR.mk r9.1 s11 s13)) 44) :: (.own Sl.nil 91 6 (encs ([] : List Round))) :: (.own Sl.nil 93 3 (encs ([] : List Voter))) :: (.own s11 93 3 (encs r9.1.Voters)) :: (.own s13 91 6 (encs r9.1.Rounds)) :: (.blk b3 (enc a1) 46) :: (.blk b1 (enc (SynodR.mk a0 s_a0_0 s_a0_1)) 44) :: L) ⟨rfl, rfl, rfl, rfl, trivial⟩ rfl ?_
  replace H := HKo37
  refine Lst.r (Ev.move rfl) ?_
  obtain ⟨o42, H, HKo42⟩ := bind_some H
  refine Lst.join (σ := Bool) 4 (fun y43 => [(5, iv r5), (9, iv r21.2), (43, .bool y43)]) (fun y43 => (.own s23 9 1 (encs r21.1)) :: (.blk b19 (enc (SynodR.mk r9.1 s11 s13)) 44) :: (.own Sl.nil 91 6 (encs ([] : List Round))) :: (.own Sl.nil 93 3 (encs ([] : List Voter))) :: (.own s11 93 3 (encs r9.1.Voters)) :: (.own s13 91 6 (encs r9.1.Rounds)) :: (.blk b3 (enc a1) 46) :: (.blk b1 (enc (SynodR.mk a0 s_a0_0 s_a0_1)) 44) :: L) (fun _ y43 => y43 = o42) ?_ ?_
  ·rcases (Bool.eq_false_or_eq_true y38).symm with hb44 | hb44
   ·replace H := ite_f hb44 H
    refine Lst.skip rfl rfl rfl hb44 rfl (by decide) ?_
    refine Lst.skip rfl rfl rfl hb44 rfl (by decide) ?_
    refine Lst.skip rfl rfl rfl hb44 rfl (by decide) ?_
    refine Lst.r (Ev.pickF rfl hb44 rfl) ?_
    refine Lst.nil ?_
    exact At.meet false (FLe.refl _) ⟨rfl, rfl, rfl, trivial⟩ rfl (some_inj H)
   replace H := ite_t hb44 H
   refine Lst.rG hb44 (Ev.move rfl) ?_
   refine Lst.rG hb44 (Ev.lenS (α := Str) (xs := r21.1) (by decide) rfl rfl Try.runUnderlying50 (Rd.own (i := 0) rfl rfl rfl)) ?_
   refine Lst.rG hb44 (Ev.eql rfl rfl) ?_
   refine Lst.r (Ev.pickT rfl hb44 rfl) ?_
   refine Lst.nil ?_
   exact At.meet ((r21.1.length : Int) == (0 : Int)) (FLe.refl _) ⟨rfl, rfl, rfl, trivial⟩ rfl (some_inj H)
  rintro F45 y43 hF46 hy
  subst hy
  refine Lst.as (e' := [(5, iv r5), (9, iv r21.2), (43, .bool y43)]) (L' := (.own s23 9 1 (encs r21.1)) :: (.blk b19 (enc (SynodR.mk r9.1 s11 s13)) 44) :: (.own Sl.nil 91 6 (encs ([] : List Round))) :: (.own Sl.nil 93 3 (encs ([] : List Voter))) :: (.own s11 93 3 (encs r9.1.Voters)) :: (.own s13 91 6 (encs r9.1.Rounds)) :: (.blk b3 (enc a1) 46) :: (.blk b1 (enc (SynodR.mk a0 s_a0_0 s_a0_1)) 44) :: L) ⟨rfl, rfl, rfl, trivial⟩ rfl ?_
  replace H := HKo42
  refine Lst.r (Ev.move rfl) ?_
  obtain ⟨o47, H, HKo47⟩ := bind_some H
  refine Lst.join (σ := Bool) 4 (fun y48 => [(48, .bool y48)]) (fun y48 => (.own s23 9 1 (encs r21.1)) :: (.blk b19 (enc (SynodR.mk r9.1 s11 s13)) 44) :: (.own Sl.nil 91 6 (encs ([] : List Round))) :: (.own Sl.nil 93 3 (encs ([] : List Voter))) :: (.own s11 93 3 (encs r9.1.Voters)) :: (.own s13 91 6 (encs r9.1.Rounds)) :: (.blk b3 (enc a1) 46) :: (.blk b1 (enc (SynodR.mk a0 s_a0_0 s_a0_1)) 44) :: L) (fun _ y48 => y48 = o47) ?_ ?_
  ·rcases (Bool.eq_false_or_eq_true y43).symm with hb49 | hb49
   ·replace H := ite_f hb49 H
    refine Lst.skip rfl rfl rfl hb49 rfl (by decide) ?_
    refine Lst.skip rfl rfl rfl hb49 rfl (by decide) ?_
    refine Lst.skip rfl rfl rfl hb49 rfl (by decide) ?_
    refine Lst.r (Ev.pickF rfl hb49 rfl) ?_
    refine Lst.nil ?_
    exact At.meet false (FLe.refl _) ⟨rfl, trivial⟩ rfl (some_inj H)
   replace H := ite_t hb49 H
   refine Lst.rG hb49 (Ev.move rfl) ?_
   refine Lst.rG hb49 (Ev.move rfl) ?_
   refine Lst.rG hb49 (Ev.eql rfl rfl) ?_
   refine Lst.r (Ev.pickT rfl hb49 rfl) ?_
   refine Lst.nil ?_
   exact At.meet (r21.2 == r5) (FLe.refl _) ⟨rfl, trivial⟩ rfl (some_inj H)
  rintro F50 y48 hF51 hy
  subst hy
  refine Lst.as (e' := [(48, .bool y48)]) (L' := (.own s23 9 1 (encs r21.1)) :: (.blk b19 (enc (SynodR.mk r9.1 s11 s13)) 44) :: (.own Sl.nil 91 6 (encs ([] : List Round))) :: (.own Sl.nil 93 3 (encs ([] : List Voter))) :: (.own s11 93 3 (encs r9.1.Voters)) :: (.own s13 91 6 (encs r9.1.Rounds)) :: (.blk b3 (enc a1) 46) :: (.blk b1 (enc (SynodR.mk a0 s_a0_0 s_a0_1)) 44) :: L) ⟨rfl, trivial⟩ rfl ?_
  replace H := HKo47
  refine Lst.r (Ev.assign rfl) ?_
  refine Lst.nil ?_
  refine At.then ?_
  obtain rfl := some_inj H
  refine Cd.ret ?_
  refine At.then_ret ?_
  exact At.ret1 rfl (Res.tmp rfl) (FLe.trans (FLe.trans (FLe.trans (FLe.trans hF16 hF26) hF41) hF46) hF51) (sc1 (sc1 (sc1 (sc1 (sc1 (sc1 (sc1 (sc1 (.refl _))))))))) ⟨rfl, rfl⟩
 replace H := ite_f hb32 H
 refine Cd.condF rfl hb32 ?_
 refine Cd.skip ?_
 refine At.then ?_
 refine Cd.seq ?_
 refine Cd.seq ?_
 refine Cd.region ?_
 refine Lst.r (Ev.move rfl) ?_
 refine Lst.r (Ev.loadA (i := 7) rfl rfl Try.isAgg44 Try.sizeOf44 (ch := enc (SynodR.mk a0 s_a0_0 s_a0_1)) (Enc.len _) (Get.here _)) ?_
 obtain ⟨r52, h53, H⟩ := bind_some H
 refine Lst.call rfl rfl (by decide) (vs := [.agg (enc (SynodR.mk a0 s_a0_0 s_a0_1)).toArray]) ⟨rfl, trivial⟩ Try.call28 (partref_Chosen_sim h53 w0 _ M _ (sc8 hM) (hs_a0_0.mono (FLe.trans hF16 hF26) (.refl _)) (hs_a0_1.mono (FLe.trans hF16 hF26) (.refl _))) (fun F56 L' v hF57 hv => ?_)
 obtain ⟨s54, rfl, rfl⟩ := hv
 obtain ⟨r58, h59, H⟩ := bind_some H
 refine Lst.call1 rfl rfl (by decide) (vs := [Sl.v s23, Sl.v s54]) ⟨rfl, rfl, trivial⟩ Try.call27 (slices_Equal_string_string_sim h59 w0 _ _ _ (.refl _) (Rd.own (i := 1) rfl rfl rfl) (Rd.own (i := 0) rfl rfl rfl)) ?_
 refine Lst.r (Ev.not rfl) ?_
 refine Lst.r (Ev.move rfl) ?_
 obtain ⟨o62, H, HKo62⟩ := bind_some H
 refine Lst.join (σ := Bool) 3 (fun y63 => [(2, pv b1 0), (3, pv b3 0), (6, pv b19 0), (7, iv r9.2), (57, .bool y63)]) (fun y63 => (.own s54 9 1 (encs r52)) :: (.own s23 9 1 (encs r21.1)) :: (.blk b19 (enc (SynodR.mk r9.1 s11 s13)) 44) :: (.own Sl.nil 91 6 (encs ([] : List Round))) :: (.own Sl.nil 93 3 (encs ([] : List Voter))) :: (.own s11 93 3 (encs r9.1.Voters)) :: (.own s13 91 6 (encs r9.1.Rounds)) :: (.blk b3 (enc a1) 46) :: (.blk b1 (enc (SynodR.mk a0 s_a0_0 s_a0_1)) 44) :: L) (fun _ y63 => y63 = o62) ?_ ?_
 ·rcases Bool.eq_false_or_eq_true (!r58) with hb64 | hb64
  ·replace H := ite_t hb64 H
   refine Lst.skip rfl rfl rfl hb64 rfl (by decide) ?_
   refine Lst.skip rfl rfl rfl hb64 rfl (by decide) ?_
   refine Lst.r (Ev.pickT rfl hb64 rfl) ?_
   refine Lst.nil ?_
   exact At.meet true (FLe.refl _) ⟨rfl, rfl, rfl, rfl, rfl, trivial⟩ rfl (some_inj H)
  replace H := ite_f hb64 H
  refine Lst.rG hb64 (Ev.move rfl) ?_
  refine Lst.rG hb64 (Ev.neq rfl rfl) ?_
  refine Lst.r (Ev.pickF rfl hb64 rfl) ?_
  refine Lst.nil ?_
  exact At.meet (r21.2 != (0 : Int)) (FLe.refl _) ⟨rfl, rfl, rfl, rfl, rfl, trivial⟩ rfl (some_inj H)
 rintro F65 y63 hF66 hy
 subst hy
 refine Lst.as (e' := [(2, pv b1 0), (3, pv b3 0), (6, pv b19 0), (7, iv r9.2), (57, .bool y63)]) (L' := (.own s54 9 1 (encs r52)) :: (.own s23 9 1 (encs r21.1)) :: (.blk b19 (enc (SynodR.mk r9.1 s11 s13)) 44) :: (.own Sl.nil 91 6 (encs ([] : List Round))) :: (.own Sl.nil 93 3 (encs ([] : List Voter))) :: (.own s11 93 3 (encs r9.1.Voters)) :: (.own s13 91 6 (encs r9.1.Rounds)) :: (.blk b3 (enc a1) 46) :: (.blk b1 (enc (SynodR.mk a0 s_a0_0 s_a0_1)) 44) :: L) ⟨rfl, rfl, rfl, rfl, rfl, trivial⟩ rfl ?_
 replace H := HKo62
 refine Lst.nil ?_
 refine At.then ?_
 rcases Bool.eq_false_or_eq_true y63 with hb67 | hb67
 ·replace H := ite_t hb67 H
  refine Cd.condT rfl hb67 ?_
  refine Cd.seq ?_
  refine Cd.region ?_
  refine Lst.r (Ev.assign rfl) ?_
  refine Lst.nil ?_
  refine At.then ?_
  obtain rfl := some_inj H
  refine Cd.ret ?_
  refine At.then_ret ?_
  exact At.ret1 rfl (Res.tmp rfl) (FLe.trans (FLe.trans (FLe.trans hF16 hF26) hF57) hF66) (sc1 (sc1 (sc1 (sc1 (sc1 (sc1 (sc1 (sc1 (sc1 (.refl _)))))))))) ⟨rfl, rfl⟩
 replace H := ite_f hb67 H
 refine Cd.condF rfl hb67 ?_
 refine Cd.skip ?_
 refine At.then ?_
 refine Cd.seq ?_
 refine Cd.seq ?_
 refine Cd.region ?_
 refine Lst.r (Ev.fieldAddr (off' := 0) rfl Try.runUnderlying46 rfl Try.sizeOf3 rfl rfl) ?_
 refine Lst.r (Ev.load (i := 7) rfl rfl Try.isAgg3 (v := iv a1.Kind) ((Act.get_Kind (Get.here _)).off (by rfl))) ?_
 refine Lst.r (Ev.lss rfl rfl) ?_
 refine Lst.r (Ev.move rfl) ?_
 obtain ⟨o68, H, HKo68⟩ := bind_some H
 refine Lst.join (σ := Bool) 4 (fun y69 => [(2, pv b1 0), (3, pv b3 0), (6, pv b19 0), (7, iv r9.2), (65, .bool y69)]) (fun y69 => (.own s54 9 1 (encs r52)) :: (.own s23 9 1 (encs r21.1)) :: (.blk b19 (enc (SynodR.mk r9.1 s11 s13)) 44) :: (.own Sl.nil 91 6 (encs ([] : List Round))) :: (.own Sl.nil 93 3 (encs ([] : List Voter))) :: (.own s11 93 3 (encs r9.1.Voters)) :: (.own s13 91 6 (encs r9.1.Rounds)) :: (.blk b3 (enc a1) 46) :: (.blk b1 (enc (SynodR.mk a0 s_a0_0 s_a0_1)) 44) :: L) (fun _ y69 => y69 = o68) ?_ ?_
 ·rcases Bool.eq_false_or_eq_true (decide (a1.Kind < (1 : Int))) with hb70 | hb70
  ·replace H := ite_t hb70 H
   refine Lst.skip rfl rfl rfl hb70 rfl (by decide) ?_
   refine Lst.skip rfl rfl rfl hb70 rfl (by decide) ?_
   refine Lst.skip rfl rfl rfl hb70 rfl (by decide) ?_
   refine Lst.r (Ev.pickT rfl hb70 rfl) ?_
   refine Lst.nil ?_
   exact At.meet true (FLe.refl _) ⟨rfl, rfl, rfl, rfl, rfl, trivial⟩ rfl (some_inj H)
  replace H := ite_f hb70 H
  refine Lst.rG hb70 (Ev.fieldAddr (off' := 0) rfl Try.runUnderlying46 rfl Try.sizeOf3 rfl rfl) ?_
  refine Lst.rG hb70 (Ev.load (i := 7) rfl rfl Try.isAgg3 (v := iv a1.Kind) ((Act.get_Kind (Get.here _)).off (by rfl))) ?_
  refine Lst.rG hb70 (Ev.gtr rfl rfl) ?_
  refine Lst.r (Ev.pickF rfl hb70 rfl) ?_
  refine Lst.nil ?_
  exact At.meet (decide (a1.Kind > (4 : Int))) (FLe.refl _) ⟨rfl, rfl, rfl, rfl, rfl, trivial⟩ rfl (some_inj H)
 rintro F71 y69 hF72 hy
 subst hy
 refine Lst.as (e' := [(2, pv b1 0), (3, pv b3 0), (6, pv b19 0), (7, iv r9.2), (65, .bool y69)]) (L' := (.own s54 9 1 (encs r52)) :: (.own s23 9 1 (encs r21.1)) :: (.blk b19 (enc (SynodR.mk r9.1 s11 s13)) 44) :: (.own Sl.nil 91 6 (encs ([] : List Round))) :: (.own Sl.nil 93 3 (encs ([] : List Voter))) :: (.own s11 93 3 (encs r9.1.Voters)) :: (.own s13 91 6 (encs r9.1.Rounds)) :: (.blk b3 (enc a1) 46) :: (.blk b1 (enc (SynodR.mk a0 s_a0_0 s_a0_1)) 44) :: L) ⟨rfl, rfl, rfl, rfl, rfl, trivial⟩ rfl ?_
 replace H := HKo68
 refine Lst.r (Ev.move rfl) ?_
 obtain ⟨o73, H, HKo73⟩ := bind_some H
 refine Lst.join (σ := Bool) 4 (fun y74 => [(2, pv b1 0), (3, pv b3 0), (6, pv b19 0), (7, iv r9.2), (70, .bool y74)]) (fun y74 => (.own s54 9 1 (encs r52)) :: (.own s23 9 1 (encs r21.1)) :: (.blk b19 (enc (SynodR.mk r9.1 s11 s13)) 44) :: (.own Sl.nil 91 6 (encs ([] : List Round))) :: (.own Sl.nil 93 3 (encs ([] : List Voter))) :: (.own s11 93 3 (encs r9.1.Voters)) :: (.own s13 91 6 (encs r9.1.Rounds)) :: (.blk b3 (enc a1) 46) :: (.blk b1 (enc (SynodR.mk a0 s_a0_0 s_a0_1)) 44) :: L) (fun _ y74 => y74 = o73) ?_ ?_
 ·rcases Bool.eq_false_or_eq_true y69 with hb75 | hb75
  ·replace H := ite_t hb75 H
   refine Lst.skip rfl rfl rfl hb75 rfl (by decide) ?_
   refine Lst.skip rfl rfl rfl hb75 rfl (by decide) ?_
   refine Lst.skip rfl rfl rfl hb75 rfl (by decide) ?_
   refine Lst.r (Ev.pickT rfl hb75 rfl) ?_
   refine Lst.nil ?_
   exact At.meet true (FLe.refl _) ⟨rfl, rfl, rfl, rfl, rfl, trivial⟩ rfl (some_inj H)
  replace H := ite_f hb75 H
  refine Lst.rG hb75 (Ev.fieldAddr (off' := 1) rfl Try.runUnderlying46 rfl Try.sizeOf3 rfl rfl) ?_
  refine Lst.rG hb75 (Ev.load (i := 7) rfl rfl Try.isAgg3 (v := iv a1.Ballot) ((Act.get_Ballot (Get.here _)).off (by rfl))) ?_
  refine Lst.rG hb75 (Ev.lss rfl rfl) ?_
  refine Lst.r (Ev.pickF rfl hb75 rfl) ?_
  refine Lst.nil ?_
  exact At.meet (decide (a1.Ballot < (1 : Int))) (FLe.refl _) ⟨rfl, rfl, rfl, rfl, rfl, trivial⟩ rfl (some_inj H)
 rintro F76 y74 hF77 hy
 subst hy
 refine Lst.as (e' := [(2, pv b1 0), (3, pv b3 0), (6, pv b19 0), (7, iv r9.2), (70, .bool y74)]) (L' := (.own s54 9 1 (encs r52)) :: (.own s23 9 1 (encs r21.1)) :: (.blk b19 (enc (SynodR.mk r9.1 s11 s13)) 44) :: (.own Sl.nil 91 6 (encs ([] : List Round))) :: (.own Sl.nil 93 3 (encs ([] : List Voter))) :: (.own s11 93 3 (encs r9.1.Voters)) :: (.own s13 91 6 (encs r9.1.Rounds)) :: (.blk b3 (enc a1) 46) :: (.blk b1 (enc (SynodR.mk a0 s_a0_0 s_a0_1)) 44) :: L) ⟨rfl, rfl, rfl, rfl, rfl, trivial⟩ rfl ?_
 replace H := HKo73
 refine Lst.r (Ev.move rfl) ?_
 obtain ⟨o78, H, HKo78⟩ := bind_some H
 refine Lst.join (σ := Bool) 4 (fun y79 => [(2, pv b1 0), (3, pv b3 0), (6, pv b19 0), (7, iv r9.2), (75, .bool y79)]) (fun y79 => (.own s54 9 1 (encs r52)) :: (.own s23 9 1 (encs r21.1)) :: (.blk b19 (enc (SynodR.mk r9.1 s11 s13)) 44) :: (.own Sl.nil 91 6 (encs ([] : List Round))) :: (.own Sl.nil 93 3 (encs ([] : List Voter))) :: (.own s11 93 3 (encs r9.1.Voters)) :: (.own s13 91 6 (encs r9.1.Rounds)) :: (.blk b3 (enc a1) 46) :: (.blk b1 (enc (SynodR.mk a0 s_a0_0 s_a0_1)) 44) :: L) (fun _ y79 => y79 = o78) ?_ ?_
 ·rcases Bool.eq_false_or_eq_true y74 with hb80 | hb80
  ·replace H := ite_t hb80 H
   refine Lst.skip rfl rfl rfl hb80 rfl (by decide) ?_
   refine Lst.skip rfl rfl rfl hb80 rfl (by decide) ?_
   refine Lst.skip rfl rfl rfl hb80 rfl (by decide) ?_
   refine Lst.r (Ev.pickT rfl hb80 rfl) ?_
   refine Lst.nil ?_
   exact At.meet true (FLe.refl _) ⟨rfl, rfl, rfl, rfl, rfl, trivial⟩ rfl (some_inj H)
  replace H := ite_f hb80 H
  refine Lst.rG hb80 (Ev.fieldAddr (off' := 1) rfl Try.runUnderlying46 rfl Try.sizeOf3 rfl rfl) ?_
  refine Lst.rG hb80 (Ev.load (i := 7) rfl rfl Try.isAgg3 (v := iv a1.Ballot) ((Act.get_Ballot (Get.here _)).off (by rfl))) ?_
  refine Lst.rG hb80 (Ev.gtr rfl rfl) ?_
  refine Lst.r (Ev.pickF rfl hb80 rfl) ?_
  refine Lst.nil ?_
  exact At.meet (decide (a1.Ballot > (16777215 : Int))) (FLe.refl _) ⟨rfl, rfl, rfl, rfl, rfl, trivial⟩ rfl (some_inj H)
 rintro F81 y79 hF82 hy
 subst hy
 refine Lst.as (e' := [(2, pv b1 0), (3, pv b3 0), (6, pv b19 0), (7, iv r9.2), (75, .bool y79)]) (L' := (.own s54 9 1 (encs r52)) :: (.own s23 9 1 (encs r21.1)) :: (.blk b19 (enc (SynodR.mk r9.1 s11 s13)) 44) :: (.own Sl.nil 91 6 (encs ([] : List Round))) :: (.own Sl.nil 93 3 (encs ([] : List Voter))) :: (.own s11 93 3 (encs r9.1.Voters)) :: (.own s13 91 6 (encs r9.1.Rounds)) :: (.blk b3 (enc a1) 46) :: (.blk b1 (enc (SynodR.mk a0 s_a0_0 s_a0_1)) 44) :: L) ⟨rfl, rfl, rfl, rfl, rfl, trivial⟩ rfl ?_
 replace H := HKo78
 refine Lst.r (Ev.move rfl) ?_
 obtain ⟨o83, H, HKo83⟩ := bind_some H
 refine Lst.join (σ := Bool) 4 (fun y84 => [(2, pv b1 0), (3, pv b3 0), (6, pv b19 0), (7, iv r9.2), (80, .bool y84)]) (fun y84 => (.own s54 9 1 (encs r52)) :: (.own s23 9 1 (encs r21.1)) :: (.blk b19 (enc (SynodR.mk r9.1 s11 s13)) 44) :: (.own Sl.nil 91 6 (encs ([] : List Round))) :: (.own Sl.nil 93 3 (encs ([] : List Voter))) :: (.own s11 93 3 (encs r9.1.Voters)) :: (.own s13 91 6 (encs r9.1.Rounds)) :: (.blk b3 (enc a1) 46) :: (.blk b1 (enc (SynodR.mk a0 s_a0_0 s_a0_1)) 44) :: L) (fun _ y84 => y84 = o83) ?_ ?_
 ·rcases Bool.eq_false_or_eq_true y79 with hb85 | hb85
  ·replace H := ite_t hb85 H
   refine Lst.skip rfl rfl rfl hb85 rfl (by decide) ?_
   refine Lst.skip rfl rfl rfl hb85 rfl (by decide) ?_
   refine Lst.skip rfl rfl rfl hb85 rfl (by decide) ?_
   refine Lst.r (Ev.pickT rfl hb85 rfl) ?_
   refine Lst.nil ?_
   exact At.meet true (FLe.refl _) ⟨rfl, rfl, rfl, rfl, rfl, trivial⟩ rfl (some_inj H)
  replace H := ite_f hb85 H
  refine Lst.rG hb85 (Ev.fieldAddr (off' := 2) rfl Try.runUnderlying46 rfl Try.sizeOf3 rfl rfl) ?_
  refine Lst.rG hb85 (Ev.load (i := 7) rfl rfl Try.isAgg3 (v := iv a1.Who) ((Act.get_Who (Get.here _)).off (by rfl))) ?_
  refine Lst.rG hb85 (Ev.lss rfl rfl) ?_
  refine Lst.r (Ev.pickF rfl hb85 rfl) ?_
  refine Lst.nil ?_
  exact At.meet (decide (a1.Who < (0 : Int))) (FLe.refl _) ⟨rfl, rfl, rfl, rfl, rfl, trivial⟩ rfl (some_inj H)
 rintro F86 y84 hF87 hy
 subst hy
 refine Lst.as (e' := [(2, pv b1 0), (3, pv b3 0), (6, pv b19 0), (7, iv r9.2), (80, .bool y84)]) (L' := (.own s54 9 1 (encs r52)) :: (.own s23 9 1 (encs r21.1)) :: (.blk b19 (enc (SynodR.mk r9.1 s11 s13)) 44) :: (.own Sl.nil 91 6 (encs ([] : List Round))) :: (.own Sl.nil 93 3 (encs ([] : List Voter))) :: (.own s11 93 3 (encs r9.1.Voters)) :: (.own s13 91 6 (encs r9.1.Rounds)) :: (.blk b3 (enc a1) 46) :: (.blk b1 (enc (SynodR.mk a0 s_a0_0 s_a0_1)) 44) :: L) ⟨rfl, rfl, rfl, rfl, rfl, trivial⟩ rfl ?_
 replace H := HKo83
 refine Lst.r (Ev.move rfl) ?_
 obtain ⟨o88, H, HKo88⟩ := bind_some H
 refine Lst.join (σ := Bool) 7 (fun y89 => [(2, pv b1 0), (3, pv b3 0), (6, pv b19 0), (7, iv r9.2), (88, .bool y89)]) (fun y89 => (.own s54 9 1 (encs r52)) :: (.own s23 9 1 (encs r21.1)) :: (.blk b19 (enc (SynodR.mk r9.1 s11 s13)) 44) :: (.own Sl.nil 91 6 (encs ([] : List Round))) :: (.own Sl.nil 93 3 (encs ([] : List Voter))) :: (.own s11 93 3 (encs r9.1.Voters)) :: (.own s13 91 6 (encs r9.1.Rounds)) :: (.blk b3 (enc a1) 46) :: (.blk b1 (enc (SynodR.mk a0 s_a0_0 s_a0_1)) 44) :: L) (fun _ y89 => y89 = o88) ?_ ?_
 ·rcases Bool.eq_false_or_eq_true y84 with hb90 | hb90
  ·replace H := ite_t hb90 H
   refine Lst.skip rfl rfl rfl hb90 rfl (by decide) ?_
   refine Lst.skip rfl rfl rfl hb90 rfl (by decide) ?_
   refine Lst.skip rfl rfl rfl hb90 rfl (by decide) ?_
   refine Lst.skip rfl rfl rfl hb90 rfl (by decide) ?_
   refine Lst.skip rfl rfl rfl hb90 rfl (by decide) ?_
   refine Lst.skip rfl rfl rfl hb90 rfl (by decide) ?_
   refine Lst.r (Ev.pickT rfl hb90 rfl) ?_
   refine Lst.nil ?_
   exact At.meet true (FLe.refl _) ⟨rfl, rfl, rfl, rfl, rfl, trivial⟩ rfl (some_inj H)
  replace H := ite_f hb90 H
  refine Lst.rG hb90 (Ev.fieldAddr (off' := 2) rfl Try.runUnderlying46 rfl Try.sizeOf3 rfl rfl) ?_
  refine Lst.rG hb90 (Ev.load (i := 7) rfl rfl Try.isAgg3 (v := iv a1.Who) ((Act.get_Who (Get.here _)).off (by rfl))) ?_
  refine Lst.rG hb90 (Ev.fieldAddr (off' := 0) rfl Try.runUnderlying44 rfl Try.sizeOf41 rfl rfl) ?_
  refine Lst.rG hb90 (Ev.load (i := 8) rfl rfl Try.isAgg41 (v := Sl.v s_a0_0) ((SynodR.get_Voters (Get.here _)).off (by rfl))) ?_
  refine Lst.rG hb90 (Ev.lenS (α := Voter) (xs := a0.Voters) (by decide) rfl rfl Try.runUnderlying41 (hs_a0_0.mono (FLe.trans (FLe.trans (FLe.trans (FLe.trans (FLe.trans (FLe.trans (FLe.trans hF16 hF26) hF57) hF66) hF72) hF77) hF82) hF87) (sc8 (sc1 hM)))) ?_
  refine Lst.rG hb90 (Ev.geq rfl rfl) ?_
  refine Lst.r (Ev.pickF rfl hb90 rfl) ?_
  refine Lst.nil ?_
  exact At.meet (decide (a1.Who ≥ (a0.Voters.length : Int))) (FLe.refl _) ⟨rfl, rfl, rfl, rfl, rfl, trivial⟩ rfl (some_inj H)
 rintro F91 y89 hF92 hy
 subst hy
 refine Lst.as (e' := [(2, pv b1 0), (3, pv b3 0), (6, pv b19 0), (7, iv r9.2), (88, .bool y89)]) (L' := (.own s54 9 1 (encs r52)) :: (.own s23 9 1 (encs r21.1)) :: (.blk b19 (enc (SynodR.mk r9.1 s11 s13)) 44) :: (.own Sl.nil 91 6 (encs ([] : List Round))) :: (.own Sl.nil 93 3 (encs ([] : List Voter))) :: (.own s11 93 3 (encs r9.1.Voters)) :: (.own s13 91 6 (encs r9.1.Rounds)) :: (.blk b3 (enc a1) 46) :: (.blk b1 (enc (SynodR.mk a0 s_a0_0 s_a0_1)) 44) :: L) ⟨rfl, rfl, rfl, rfl, rfl, trivial⟩ rfl ?_
 replace H := HKo88
 refine Lst.nil ?_
 refine At.then ?_
 rcases Bool.eq_false_or_eq_true y89 with hb93 | hb93
 ·replace H := ite_t hb93 H
  refine Cd.condT rfl hb93 ?_
  refine Cd.seq ?_
  refine Cd.region ?_
  refine Lst.r (Ev.loadA (i := 2) rfl rfl Try.isAgg44 Try.sizeOf44 (ch := enc (SynodR.mk r9.1 s11 s13)) (Enc.len _) (Get.here _)) ?_
  refine Lst.r (Ev.build (v := .agg (enc (SynodR.mk Synod.zero Sl.nil Sl.nil)).toArray) (pv := []) trivial (fun w => by kernel_rfl)) ?_
  obtain ⟨r94, h95, H⟩ := bind_some H
  refine Lst.call1 rfl rfl (by decide) (vs := [.agg (enc (SynodR.mk r9.1 s11 s13)).toArray, .agg (enc (SynodR.mk Synod.zero Sl.nil Sl.nil)).toArray]) ⟨rfl, rfl, trivial⟩ Try.call26 (partref_SameSynod_sim h95 w0 _ _ _ (.refl _) (Rd.own (i := 5) rfl rfl rfl) (Rd.own (i := 6) rfl rfl rfl) Rd.nil Rd.nil) ?_
  refine Lst.r (Ev.move rfl) ?_
  obtain ⟨o98, H, HKo98⟩ := bind_some H
  refine Lst.join (σ := Bool) 3 (fun y99 => [(95, .bool y99)]) (fun y99 => (.own s54 9 1 (encs r52)) :: (.own s23 9 1 (encs r21.1)) :: (.blk b19 (enc (SynodR.mk r9.1 s11 s13)) 44) :: (.own Sl.nil 91 6 (encs ([] : List Round))) :: (.own Sl.nil 93 3 (encs ([] : List Voter))) :: (.own s11 93 3 (encs r9.1.Voters)) :: (.own s13 91 6 (encs r9.1.Rounds)) :: (.blk b3 (enc a1) 46) :: (.blk b1 (enc (SynodR.mk a0 s_a0_0 s_a0_1)) 44) :: L) (fun _ y99 => y99 = o98) ?_ ?_
  ·rcases (Bool.eq_false_or_eq_true r94).symm with hb100 | hb100
   ·replace H := ite_f hb100 H
    refine Lst.skip rfl rfl rfl hb100 rfl (by decide) ?_
    refine Lst.skip rfl rfl rfl hb100 rfl (by decide) ?_
    refine Lst.r (Ev.pickF rfl hb100 rfl) ?_
    refine Lst.nil ?_
    exact At.meet false (FLe.refl _) ⟨rfl, trivial⟩ rfl (some_inj H)
   replace H := ite_t hb100 H
   refine Lst.rG hb100 (Ev.move rfl) ?_
   refine Lst.rG hb100 (Ev.eql rfl rfl) ?_
   refine Lst.r (Ev.pickT rfl hb100 rfl) ?_
   refine Lst.nil ?_
   exact At.meet (r9.2 == (1 : Int)) (FLe.refl _) ⟨rfl, trivial⟩ rfl (some_inj H)
  rintro F101 y99 hF102 hy
  subst hy
  refine Lst.as (e' := [(95, .bool y99)]) (L' := (.own s54 9 1 (encs r52)) :: (.own s23 9 1 (encs r21.1)) :: (.blk b19 (enc (SynodR.mk r9.1 s11 s13)) 44) :: (.own Sl.nil 91 6 (encs ([] : List Round))) :: (.own Sl.nil 93 3 (encs ([] : List Voter))) :: (.own s11 93 3 (encs r9.1.Voters)) :: (.own s13 91 6 (encs r9.1.Rounds)) :: (.blk b3 (enc a1) 46) :: (.blk b1 (enc (SynodR.mk a0 s_a0_0 s_a0_1)) 44) :: L) ⟨rfl, trivial⟩ rfl ?_
  replace H := HKo98
  refine Lst.r (Ev.assign rfl) ?_
  refine Lst.nil ?_
  refine At.then ?_
  obtain rfl := some_inj H
  refine Cd.ret ?_
  refine At.then_ret ?_
  exact At.ret1 rfl (Res.tmp rfl) (FLe.trans (FLe.trans (FLe.trans (FLe.trans (FLe.trans (FLe.trans (FLe.trans (FLe.trans (FLe.trans hF16 hF26) hF57) hF66) hF72) hF77) hF82) hF87) hF92) hF102) (sc1 (sc1 (sc1 (sc1 (sc1 (sc1 (sc1 (sc1 (sc1 (.refl _)))))))))) ⟨rfl, rfl⟩
 replace H := ite_f hb93 H
 refine Cd.condF rfl hb93 ?_
 refine Cd.skip ?_
 refine At.then ?_
 refine Cd.seq ?_
 refine Cd.seq ?_
 refine Cd.region ?_
 refine Lst.r (Ev.fieldAddr (off' := 3) rfl Try.runUnderlying46 rfl Try.sizeOf9 rfl rfl) ?_
 refine Lst.r (Ev.load (i := 7) rfl rfl Try.isAgg9 (v := Str.v a1.Text) ((Act.get_Text (Get.here _)).off (by rfl))) ?_
 refine Lst.r (Ev.lenStr rfl rfl Try.runUnderlying9) ?_
 refine Lst.r (Ev.gtr rfl rfl) ?_
 refine Lst.nil ?_
 refine At.then ?_
 rcases Bool.eq_false_or_eq_true (decide ((a1.Text.length : Int) > (200 : Int))) with hb103 | hb103
 ·replace H := ite_t hb103 H
  refine Cd.condT rfl hb103 ?_
  refine Cd.seq ?_
  refine Cd.region ?_
  refine Lst.r (Ev.loadA (i := 2) rfl rfl Try.isAgg44 Try.sizeOf44 (ch := enc (SynodR.mk r9.1 s11 s13)) (Enc.len _) (Get.here _)) ?_
  refine Lst.r (Ev.build (v := .agg (enc (SynodR.mk Synod.zero Sl.nil Sl.nil)).toArray) (pv := []) trivial (fun w => by kernel_rfl)) ?_
  obtain ⟨r104, h105, H⟩ := bind_some H
  refine Lst.call1 rfl rfl (by decide) (vs := [.agg (enc (SynodR.mk r9.1 s11 s13)).toArray, .agg (enc (SynodR.mk Synod.zero Sl.nil Sl.nil)).toArray]) ⟨rfl, rfl, trivial⟩ Try.call26 (partref_SameSynod_sim h105 w0 _ _ _ (.refl _) (Rd.own (i := 5) rfl rfl rfl) (Rd.own (i := 6) rfl rfl rfl) Rd.nil Rd.nil) ?_
  refine Lst.r (Ev.move rfl) ?_
  obtain ⟨o108, H, HKo108⟩ := bind_some H
  refine Lst.join (σ := Bool) 3 (fun y109 => [(106, .bool y109)]) (fun y109 => (.own s54 9 1 (encs r52)) :: (.own s23 9 1 (encs r21.1)) :: (.blk b19 (enc (SynodR.mk r9.1 s11 s13)) 44) :: (.own Sl.nil 91 6 (encs ([] : List Round))) :: (.own Sl.nil 93 3 (encs ([] : List Voter))) :: (.own s11 93 3 (encs r9.1.Voters)) :: (.own s13 91 6 (encs r9.1.Rounds)) :: (.blk b3 (enc a1) 46) :: (.blk b1 (enc (SynodR.mk a0 s_a0_0 s_a0_1)) 44) :: L) (fun _ y109 => y109 = o108) ?_ ?_
  ·rcases (Bool.eq_false_or_eq_true r104).symm with hb110 | hb110
   ·replace H := ite_f hb110 H
    refine Lst.skip rfl rfl rfl hb110 rfl (by decide) ?_
    refine Lst.skip rfl rfl rfl hb110 rfl (by decide) ?_
    refine Lst.r (Ev.pickF rfl hb110 rfl) ?_
    refine Lst.nil ?_
    exact At.meet false (FLe.refl _) ⟨rfl, trivial⟩ rfl (some_inj H)
   replace H := ite_t hb110 H
   refine Lst.rG hb110 (Ev.move rfl) ?_
   refine Lst.rG hb110 (Ev.eql rfl rfl) ?_
   refine Lst.r (Ev.pickT rfl hb110 rfl) ?_
   refine Lst.nil ?_
   exact At.meet (r9.2 == (2 : Int)) (FLe.refl _) ⟨rfl, trivial⟩ rfl (some_inj H)
  rintro F111 y109 hF112 hy
  subst hy
  refine Lst.as (e' := [(106, .bool y109)]) (L' := (.own s54 9 1 (encs r52)) :: (.own s23 9 1 (encs r21.1)) :: (.blk b19 (enc (SynodR.mk r9.1 s11 s13)) 44) :: (.own Sl.nil 91 6 (encs ([] : List Round))) :: (.own Sl.nil 93 3 (encs ([] : List Voter))) :: (.own s11 93 3 (encs r9.1.Voters)) :: (.own s13 91 6 (encs r9.1.Rounds)) :: (.blk b3 (enc a1) 46) :: (.blk b1 (enc (SynodR.mk a0 s_a0_0 s_a0_1)) 44) :: L) ⟨rfl, trivial⟩ rfl ?_
  replace H := HKo108
  refine Lst.r (Ev.assign rfl) ?_
  refine Lst.nil ?_
  refine At.then ?_
  obtain rfl := some_inj H
  refine Cd.ret ?_
  refine At.then_ret ?_
  exact At.ret1 rfl (Res.tmp rfl) (FLe.trans (FLe.trans (FLe.trans (FLe.trans (FLe.trans (FLe.trans (FLe.trans (FLe.trans (FLe.trans hF16 hF26) hF57) hF66) hF72) hF77) hF82) hF87) hF92) hF112) (sc1 (sc1 (sc1 (sc1 (sc1 (sc1 (sc1 (sc1 (sc1 (.refl _)))))))))) ⟨rfl, rfl⟩
 replace H := ite_f hb103 H
 refine Cd.condF rfl hb103 ?_
 refine Cd.skip ?_
 refine At.then ?_
 refine Cd.seq ?_
 refine Cd.region ?_
 refine Lst.r (Ev.loadA (i := 8) rfl rfl Try.isAgg44 Try.sizeOf44 (ch := enc (SynodR.mk a0 s_a0_0 s_a0_1)) (Enc.len _) (Get.here _)) ?_
 refine Lst.r (Ev.loadA (i := 7) rfl rfl Try.isAgg46 Try.sizeOf46 (ch := enc a1) (Enc.len _) (Get.here _)) ?_
 obtain ⟨r113, h114, H⟩ := bind_some H
 refine Lst.call rfl rfl (by decide) (vs := [.agg (enc (SynodR.mk a0 s_a0_0 s_a0_1)).toArray, .agg (enc a1).toArray]) ⟨rfl, rfl, trivial⟩ Try.call29 (partref_SynodStep_sim h114 w0 _ M _ (sc8 (sc1 hM)) (hs_a0_0.mono (FLe.trans (FLe.trans (FLe.trans (FLe.trans (FLe.trans (FLe.trans (FLe.trans (FLe.trans hF16 hF26) hF57) hF66) hF72) hF77) hF82) hF87) hF92) (.refl _)) (hs_a0_1.mono (FLe.trans (FLe.trans (FLe.trans (FLe.trans (FLe.trans (FLe.trans (FLe.trans (FLe.trans hF16 hF26) hF57) hF66) hF72) hF77) hF82) hF87) hF92) (.refl _))) (fun F119 L' v hF120 hv => ?_)
 obtain ⟨s115, s117, rfl, rfl⟩ := hv
 refine Lst.r (Ev.move rfl) ?_
 refine Lst.r (Ev.extract rfl rfl) ?_
 refine Lst.r (Ev.extract rfl rfl) ?_
 refine Lst.addNil 93 3 ?_
 refine Lst.addNil 91 6 ?_
 refine Lst.alloc (cs := enc (SynodR.mk ({ Synod.zero with Voters := ([] : List Voter), Rounds := ([] : List Round) } : Synod) Sl.nil Sl.nil)) rfl rfl (by decide) Try.zeroValue44 rfl (fun b123 => ?_)
 refine Lst.store (i := 0) rfl rfl rfl rfl rfl Try.sizeOf44 (vs := enc (SynodR.mk r113.1 s115 s117)) rfl (Enc.len _) (Enc.one _) (cs' := enc (SynodR.mk r113.1 s115 s117)) (Put.here ((Enc.len _).trans (Enc.len _).symm)) (L' := (.blk b123 (enc (SynodR.mk r113.1 s115 s117)) 44) :: (.own Sl.nil 91 6 (encs ([] : List Round))) :: (.own Sl.nil 93 3 (encs ([] : List Voter))) :: (.own s115 93 3 (encs r113.1.Voters)) :: (.own s117 91 6 (encs r113.1.Rounds)) :: (.own s54 9 1 (encs r52)) :: (.own s23 9 1 (encs r21.1)) :: (.blk b19 (enc (SynodR.mk r9.1 s11 s13)) 44) :: (.own Sl.nil 91 6 (encs ([] : List Round))) :: (.own Sl.nil 93 3 (encs ([] : List Voter))) :: (.own s11 93 3 (encs r9.1.Voters)) :: (.own s13 91 6 (encs r9.1.Rounds)) :: (.blk b3 (enc a1) 46) :: (.blk b1 (enc (SynodR.mk a0 s_a0_0 s_a0_1)) 44) :: L) rfl ?_
 refine Lst.r (Ev.assign rfl) ?_
 refine Lst.nil ?_
 refine At.then ?_
 refine Cd.seq ?_
 refine Cd.region ?_
 refine Lst.r (Ev.loadA (i := 7) rfl rfl Try.isAgg44 Try.sizeOf44 (ch := enc (SynodR.mk r9.1 s11 s13)) (Enc.len _) (Get.here _)) ?_
 refine Lst.r (Ev.loadA (i := 0) rfl rfl Try.isAgg44 Try.sizeOf44 (ch := enc (SynodR.mk r113.1 s115 s117)) (Enc.len _) (Get.here _)) ?_
 obtain ⟨r125, h126, H⟩ := bind_some H
 refine Lst.call1 rfl rfl (by decide) (vs := [.agg (enc (SynodR.mk r9.1 s11 s13)).toArray, .agg (enc (SynodR.mk r113.1 s115 s117)).toArray]) ⟨rfl, rfl, trivial⟩ Try.call26 (partref_SameSynod_sim h126 w0 _ _ _ (.refl _) (Rd.own (i := 10) rfl rfl rfl) (Rd.own (i := 11) rfl rfl rfl) (Rd.own (i := 3) rfl rfl rfl) (Rd.own (i := 4) rfl rfl rfl)) ?_
 refine Lst.r (Ev.move rfl) ?_
 obtain ⟨o129, H, HKo129⟩ := bind_some H
 refine Lst.join (σ := Bool) 4 (fun y130 => [(120, .bool y130)]) (fun y130 => (.blk b123 (enc (SynodR.mk r113.1 s115 s117)) 44) :: (.own Sl.nil 91 6 (encs ([] : List Round))) :: (.own Sl.nil 93 3 (encs ([] : List Voter))) :: (.own s115 93 3 (encs r113.1.Voters)) :: (.own s117 91 6 (encs r113.1.Rounds)) :: (.own s54 9 1 (encs r52)) :: (.own s23 9 1 (encs r21.1)) :: (.blk b19 (enc (SynodR.mk r9.1 s11 s13)) 44) :: (.own Sl.nil 91 6 (encs ([] : List Round))) :: (.own Sl.nil 93 3 (encs ([] : List Voter))) :: (.own s11 93 3 (encs r9.1.Voters)) :: (.own s13 91 6 (encs r9.1.Rounds)) :: (.blk b3 (enc a1) 46) :: (.blk b1 (enc (SynodR.mk a0 s_a0_0 s_a0_1)) 44) :: L) (fun _ y130 => y130 = o129) ?_ ?_
 ·rcases (Bool.eq_false_or_eq_true r125).symm with hb131 | hb131
  ·replace H := ite_f hb131 H
   refine Lst.skip rfl rfl rfl hb131 rfl (by decide) ?_
   refine Lst.skip rfl rfl rfl hb131 rfl (by decide) ?_
   refine Lst.skip rfl rfl rfl hb131 rfl (by decide) ?_
   refine Lst.r (Ev.pickF rfl hb131 rfl) ?_
   refine Lst.nil ?_
   exact At.meet false (FLe.refl _) ⟨rfl, trivial⟩ rfl (some_inj H)
  replace H := ite_t hb131 H
  refine Lst.rG hb131 (Ev.move rfl) ?_
  refine Lst.rG hb131 (Ev.move rfl) ?_
  refine Lst.rG hb131 (Ev.eql rfl rfl) ?_
  refine Lst.r (Ev.pickT rfl hb131 rfl) ?_
  refine Lst.nil ?_
  exact At.meet (r9.2 == r113.2) (FLe.refl _) ⟨rfl, trivial⟩ rfl (some_inj H)
 rintro F132 y130 hF133 hy
 subst hy
 refine Lst.as (e' := [(120, .bool y130)]) (L' := (.blk b123 (enc (SynodR.mk r113.1 s115 s117)) 44) :: (.own Sl.nil 91 6 (encs ([] : List Round))) :: (.own Sl.nil 93 3 (encs ([] : List Voter))) :: (.own s115 93 3 (encs r113.1.Voters)) :: (.own s117 91 6 (encs r113.1.Rounds)) :: (.own s54 9 1 (encs r52)) :: (.own s23 9 1 (encs r21.1)) :: (.blk b19 (enc (SynodR.mk r9.1 s11 s13)) 44) :: (.own Sl.nil 91 6 (encs ([] : List Round))) :: (.own Sl.nil 93 3 (encs ([] : List Voter))) :: (.own s11 93 3 (encs r9.1.Voters)) :: (.own s13 91 6 (encs r9.1.Rounds)) :: (.blk b3 (enc a1) 46) :: (.blk b1 (enc (SynodR.mk a0 s_a0_0 s_a0_1)) 44) :: L) ⟨rfl, trivial⟩ rfl ?_
 replace H := HKo129
 refine Lst.r (Ev.assign rfl) ?_
 refine Lst.nil ?_
 refine At.then ?_
 obtain rfl := some_inj H
 refine Cd.ret ?_
 exact At.ret1 rfl (Res.tmp rfl) (FLe.trans (FLe.trans (FLe.trans (FLe.trans (FLe.trans (FLe.trans (FLe.trans (FLe.trans (FLe.trans (FLe.trans hF16 hF26) hF57) hF66) hF72) hF77) hF82) hF87) hF92) hF120) hF133) (sc1 (sc1 (sc1 (sc1 (sc1 (sc1 (sc1 (sc1 (sc1 (sc1 (sc1 (sc1 (sc1 (sc1 (.refl _))))))))))))))) ⟨rfl, rfl⟩
end Go.Proofs.Ytnljiedichjagaa
