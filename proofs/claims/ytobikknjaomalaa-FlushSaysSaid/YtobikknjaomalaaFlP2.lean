/-
  The functions compute their specs; printed by a program.
-/
import Derived.Test.YtobikknjaomalaaFlP1
namespace Go.Proofs.Ytobikknjaomalaa
open Go.RowKit Enc
set_option linter.unusedVariables false
set_option linter.unusedSimpArgs false
set_option maxHeartbeats 2000000 in
set_option maxRecDepth 20000 in
theorem partlaw_FlushSays_sim {fu : Nat} {a0 : Flush} {a1 : BitVec 8} {a2 : Int} {a3 : Int} {a4 : BitVec 8} {rs_a0_2 : Vector (LR Int) 6} {r : Bool} (H : partlaw_FlushSays fu a0 a1 a2 a3 a4 = some r) (w0 : World) (F : Frz) (M L : List Item) (hM : M.Sublist L) (hm_a0_2 : rs_a0_2.toList.map LR.v = a0.Told.toList) (ha_a0_2 : All LR.rel w0 F M rs_a0_2.toList) : Ok Try.prog w0 7 [.agg (enc (FlushR.mk a0 rs_a0_2)).toArray, .int .u8 a1.toNat, iv a2, iv a3, .int .u8 a4.toNat] F (L) (Is (.bool r) (L)) := by
 unfold partlaw_FlushSays at H
 refine Ok.enter (m := 5) (n := 257) Try.func7 rfl rfl rfl (by decide) ?_
 refine Cd.env (e' := [(0, .agg (enc (FlushR.mk a0 rs_a0_2)).toArray), (1, .int .u8 a1.toNat), (2, iv a2), (3, iv a3), (4, .int .u8 a4.toNat)]) rfl ?_
 refine Cd.seq ?_
 refine Cd.region ?_
 refine Lst.box rfl rfl (by decide) rfl (cs := enc (FlushR.mk a0 rs_a0_2)) rfl (fun b1 => ?_)
 refine Lst.r (Ev.assign rfl) ?_
 refine Lst.nil ?_
 refine At.then ?_
 refine Cd.seq ?_
 refine Cd.region ?_
 refine Lst.r (Ev.loadA (i := 0) rfl rfl Try.isAgg71 Try.sizeOf71 (ch := enc (FlushR.mk a0 rs_a0_2)) (Enc.len _) (Get.here _)) ?_
 obtain ⟨r3, h4, H⟩ := bind_some H
 refine Lst.call1 rfl rfl (by decide) (vs := [.agg (enc (FlushR.mk a0 rs_a0_2)).toArray]) ⟨rfl, trivial⟩ Try.call39 (partref_FlushErr_sim h4 w0 _ M _ (sc1 hM) hm_a0_2 (All.monoLR ha_a0_2 (FLe.refl _) (.refl _))) ?_
 refine Lst.r (Ev.assign rfl) ?_
 refine Lst.nil ?_
 refine At.then ?_
 refine Cd.seq ?_
 refine Cd.region ?_
 have hm7 : (Vector.replicate 6 ⟨[], Sl.nil⟩ : Vector (LR Int) 6).toList.map LR.v = (Vector.replicate 6 [] : Vector (List Int) 6).toList := vmap_rep _ _
 have ha8 : All LR.rel w0 F [] (Vector.replicate 6 ⟨[], Sl.nil⟩ : Vector (LR Int) 6).toList := vAll_rep Rd.nil
 refine Lst.r (Ev.build (v := .agg (enc (FlushR.mk Flush.zero (Vector.replicate 6 ⟨[], Sl.nil⟩ : Vector (LR Int) 6))).toArray) (pv := []) trivial (fun w => by kernel_rfl)) ?_
 have hm9 : (Vector.replicate 6 ⟨[], Sl.nil⟩ : Vector (LR Int) 6).toList.map LR.v = (Vector.replicate 6 [] : Vector (List Int) 6).toList := vmap_rep _ _
 have ha10 : All LR.rel w0 F [] (Vector.replicate 6 ⟨[], Sl.nil⟩ : Vector (LR Int) 6).toList := vAll_rep Rd.nil
 refine Lst.alloc (cs := enc (FlushR.mk Flush.zero (Vector.replicate 6 ⟨[], Sl.nil⟩ : Vector (LR Int) 6))) rfl rfl (by decide) Try.zeroValue71 rfl (fun b11 => ?_)
 refine Lst.store (i := 0) rfl rfl rfl rfl rfl Try.sizeOf71 (vs := enc (FlushR.mk Flush.zero (Vector.replicate 6 ⟨[], Sl.nil⟩ : Vector (LR Int) 6))) rfl (Enc.len _) (Enc.one _) (cs' := enc (FlushR.mk Flush.zero (Vector.replicate 6 ⟨[], Sl.nil⟩ : Vector (LR Int) 6))) (Put.here ((Enc.len _).trans (Enc.len _).symm)) (L' := (.blk b11 (enc (FlushR.mk Flush.zero (Vector.replicate 6 ⟨[], Sl.nil⟩ : Vector (LR Int) 6))) 71) :: (.blk b1 (enc (FlushR.mk a0 rs_a0_2)) 71) :: L) rfl ?_
 refine Lst.nil ?_
 refine At.then ?_
 refine Cd.seq ?_
 refine Cd.region ?_
 refine Lst.r (Ev.move rfl) ?_
 obtain ⟨r13, h14, H⟩ := bind_some H
 refine Lst.call rfl rfl (by decide) (vs := [.int .u8 a1.toNat]) ⟨rfl, trivial⟩ Try.call40 (flush_New_sim h14 w0 _ M _ (sc2 hM)) (fun F18 L' v hF19 hv => ?_)
 obtain ⟨rs15, rfl, rfl, fm16, fa17⟩ := hv
 refine Lst.r (Ev.move rfl) ?_
 refine Lst.r (Ev.extract rfl rfl) ?_
 refine Lst.r (Ev.extract rfl rfl) ?_
 have hm20 : (Vector.replicate 6 ⟨[], Sl.nil⟩ : Vector (LR Int) 6).toList.map LR.v = (Vector.replicate 6 [] : Vector (List Int) 6).toList := vmap_rep _ _
 have ha21 : All LR.rel w0 F18 [] (Vector.replicate 6 ⟨[], Sl.nil⟩ : Vector (LR Int) 6).toList := vAll_rep Rd.nil
 refine Lst.alloc (cs := enc (FlushR.mk Flush.zero (Vector.replicate 6 ⟨[], Sl.nil⟩ : Vector (LR Int) 6))) rfl rfl (by decide) Try.zeroValue71 rfl (fun b22 => ?_)
 refine Lst.store (i := 0) rfl rfl rfl rfl rfl Try.sizeOf71 (vs := enc (FlushR.mk r13.1 rs15)) rfl (Enc.len _) (Enc.one _) (cs' := enc (FlushR.mk r13.1 rs15)) (Put.here ((Enc.len _).trans (Enc.len _).symm)) (L' := (.blk b22 (enc (FlushR.mk r13.1 rs15)) 71) :: (.blk b11 (enc (FlushR.mk Flush.zero (Vector.replicate 6 ⟨[], Sl.nil⟩ : Vector (LR Int) 6))) 71) :: (.blk b1 (enc (FlushR.mk a0 rs_a0_2)) 71) :: L) rfl ?_
 refine Lst.r (Ev.assign rfl) ?_
 refine Lst.nil ?_
 refine At.then ?_
 refine Cd.seq ?_
 refine Cd.region ?_
 refine Lst.r (Ev.loadA (i := 2) rfl rfl Try.isAgg71 Try.sizeOf71 (ch := enc (FlushR.mk a0 rs_a0_2)) (Enc.len _) (Get.here _)) ?_
 refine Lst.r (Ev.move rfl) ?_
 refine Lst.r (Ev.move rfl) ?_
 obtain ⟨r24, h25, H⟩ := bind_some H
 refine Lst.call rfl rfl (by decide) (vs := [.agg (enc (FlushR.mk a0 rs_a0_2)).toArray, iv a2, iv a3]) ⟨rfl, rfl, rfl, trivial⟩ Try.call41 (flush_Tell_sim h25 w0 _ M _ (sc2 (sc1 hM)) hm_a0_2 (All.monoLR ha_a0_2 hF19 (.refl _))) (fun F29 L' v hF30 hv => ?_)
 obtain ⟨rs26, rfl, rfl, fm27, fa28⟩ := hv
 refine Lst.r (Ev.move rfl) ?_
 refine Lst.r (Ev.extract rfl rfl) ?_
 refine Lst.r (Ev.extract rfl rfl) ?_
 have hm31 : (Vector.replicate 6 ⟨[], Sl.nil⟩ : Vector (LR Int) 6).toList.map LR.v = (Vector.replicate 6 [] : Vector (List Int) 6).toList := vmap_rep _ _
 have ha32 : All LR.rel w0 F29 [] (Vector.replicate 6 ⟨[], Sl.nil⟩ : Vector (LR Int) 6).toList := vAll_rep Rd.nil
 refine Lst.alloc (cs := enc (FlushR.mk Flush.zero (Vector.replicate 6 ⟨[], Sl.nil⟩ : Vector (LR Int) 6))) rfl rfl (by decide) Try.zeroValue71 rfl (fun b33 => ?_)
 refine Lst.store (i := 0) rfl rfl rfl rfl rfl Try.sizeOf71 (vs := enc (FlushR.mk r24.1 rs26)) rfl (Enc.len _) (Enc.one _) (cs' := enc (FlushR.mk r24.1 rs26)) (Put.here ((Enc.len _).trans (Enc.len _).symm)) (L' := (.blk b33 (enc (FlushR.mk r24.1 rs26)) 71) :: (.blk b22 (enc (FlushR.mk r13.1 rs15)) 71) :: (.blk b11 (enc (FlushR.mk Flush.zero (Vector.replicate 6 ⟨[], Sl.nil⟩ : Vector (LR Int) 6))) 71) :: (.blk b1 (enc (FlushR.mk a0 rs_a0_2)) 71) :: L) rfl ?_
 refine Lst.r (Ev.assign rfl) ?_
 refine Lst.nil ?_
 refine At.then ?_
 refine Cd.seq ?_
 refine Cd.as (e' := [(1, .int .u8 a1.toNat), (2, iv a2), (3, iv a3), (4, .int .u8 a4.toNat), (5, pv b1 0), (11, iv r3), (12, pv b11 0), (13, pv b22 0), (14, iv r13.2), (15, pv b33 0), (16, iv r24.2)]) (L' := (.blk b33 (enc (FlushR.mk r24.1 rs26)) 71) :: (.blk b22 (enc (FlushR.mk r13.1 rs15)) 71) :: (.blk b11 (enc (FlushR.mk Flush.zero (Vector.replicate 6 ⟨[], Sl.nil⟩ : Vector (LR Int) 6))) 71) :: (.blk b1 (enc (FlushR.mk a0 rs_a0_2)) 71) :: L) ⟨rfl, rfl, rfl, rfl, rfl, rfl, rfl, rfl, rfl, rfl, rfl, trivial⟩ rfl ?_
 refine Cd.region ?_
 refine Lst.r (Ev.loadA (i := 3) rfl rfl Try.isAgg71 Try.sizeOf71 (ch := enc (FlushR.mk a0 rs_a0_2)) (Enc.len _) (Get.here _)) ?_
 refine Lst.r (Ev.move rfl) ?_
 obtain ⟨r35, h36, H⟩ := bind_some H
 refine Lst.call rfl rfl (by decide) (vs := [.agg (enc (FlushR.mk a0 rs_a0_2)).toArray, iv a2]) ⟨rfl, rfl, trivial⟩ Try.call42 (flush_Fall_sim h36 w0 _ M _ (sc4 hM) hm_a0_2 (All.monoLR ha_a0_2 (FLe.trans hF19 hF30) (.refl _))) (fun F40 L' v hF41 hv => ?_)
 obtain ⟨rs37, rfl, rfl, fm38, fa39⟩ := hv
 refine Lst.r (Ev.move rfl) ?_
 refine Lst.r (Ev.extract rfl rfl) ?_
 refine Lst.r (Ev.extract rfl rfl) ?_
 have hm42 : (Vector.replicate 6 ⟨[], Sl.nil⟩ : Vector (LR Int) 6).toList.map LR.v = (Vector.replicate 6 [] : Vector (List Int) 6).toList := vmap_rep _ _
 have ha43 : All LR.rel w0 F40 [] (Vector.replicate 6 ⟨[], Sl.nil⟩ : Vector (LR Int) 6).toList := vAll_rep Rd.nil
 refine Lst.alloc (cs := enc (FlushR.mk Flush.zero (Vector.replicate 6 ⟨[], Sl.nil⟩ : Vector (LR Int) 6))) rfl rfl (by decide) Try.zeroValue71 rfl (fun b44 => ?_)
 refine Lst.store (i := 0) rfl rfl rfl rfl rfl Try.sizeOf71 (vs := enc (FlushR.mk r35.1 rs37)) rfl (Enc.len _) (Enc.one _) (cs' := enc (FlushR.mk r35.1 rs37)) (Put.here ((Enc.len _).trans (Enc.len _).symm)) (L' := (.blk b44 (enc (FlushR.mk r35.1 rs37)) 71) :: (.blk b33 (enc (FlushR.mk r24.1 rs26)) 71) :: (.blk b22 (enc (FlushR.mk r13.1 rs15)) 71) :: (.blk b11 (enc (FlushR.mk Flush.zero (Vector.replicate 6 ⟨[], Sl.nil⟩ : Vector (LR Int) 6))) 71) :: (.blk b1 (enc (FlushR.mk a0 rs_a0_2)) 71) :: L) rfl ?_
 refine Lst.r (Ev.assign rfl) ?_
 refine Lst.nil ?_
 refine At.then ?_
 refine Cd.seq ?_
 refine Cd.region ?_
 refine Lst.r (Ev.loadA (i := 4) rfl rfl Try.isAgg71 Try.sizeOf71 (ch := enc (FlushR.mk a0 rs_a0_2)) (Enc.len _) (Get.here _)) ?_
 refine Lst.r (Ev.move rfl) ?_
 obtain ⟨r46, h47, H⟩ := bind_some H
 refine Lst.call rfl rfl (by decide) (vs := [.agg (enc (FlushR.mk a0 rs_a0_2)).toArray, .int .u8 a4.toNat]) ⟨rfl, rfl, trivial⟩ Try.call43 (flush_Change_sim h47 w0 _ M _ (sc4 (sc1 hM)) hm_a0_2 (All.monoLR ha_a0_2 (FLe.trans (FLe.trans hF19 hF30) hF41) (.refl _))) (fun F54 L' v hF55 hv => ?_)
 obtain ⟨rs48, rs51, rfl, rfl, fm49, fa50, fm52, fa53⟩ := hv
 refine Lst.r (Ev.move rfl) ?_
 refine Lst.r (Ev.extract rfl rfl) ?_
 refine Lst.r (Ev.extract rfl rfl) ?_
 refine Lst.r (Ev.extract rfl rfl) ?_
 have hm56 : (Vector.replicate 6 ⟨[], Sl.nil⟩ : Vector (LR Int) 6).toList.map LR.v = (Vector.replicate 6 [] : Vector (List Int) 6).toList := vmap_rep _ _
 have ha57 : All LR.rel w0 F54 [] (Vector.replicate 6 ⟨[], Sl.nil⟩ : Vector (LR Int) 6).toList := vAll_rep Rd.nil
 refine Lst.alloc (cs := enc (FlushR.mk Flush.zero (Vector.replicate 6 ⟨[], Sl.nil⟩ : Vector (LR Int) 6))) rfl rfl (by decide) Try.zeroValue71 rfl (fun b58 => ?_)
 have hm60 : (Vector.replicate 6 ⟨[], Sl.nil⟩ : Vector (LR Int) 6).toList.map LR.v = (Vector.replicate 6 [] : Vector (List Int) 6).toList := vmap_rep _ _
 refine Lst.rowsNilV Int 3 6 ?_
 refine Lst.alloc (cs := enc (Vector.replicate 6 ⟨[], Sl.nil⟩ : Vector (LR Int) 6)) rfl rfl (by decide) Try.zeroValue69 rfl (fun b62 => ?_)
 refine Lst.store (i := 2) rfl rfl rfl rfl rfl Try.sizeOf71 (vs := enc (FlushR.mk r46.1 rs48)) rfl (Enc.len _) (Enc.one _) (cs' := enc (FlushR.mk r46.1 rs48)) (Put.here ((Enc.len _).trans (Enc.len _).symm)) (L' := (.blk b62 (enc (Vector.replicate 6 ⟨[], Sl.nil⟩ : Vector (LR Int) 6)) 69) :: (.rows (α := Int) 3 ((Vector.replicate 6 ⟨[], Sl.nil⟩ : Vector (LR Int) 6).toList)) :: (.blk b58 (enc (FlushR.mk r46.1 rs48)) 71) :: (.blk b44 (enc (FlushR.mk r35.1 rs37)) 71) :: (.blk b33 (enc (FlushR.mk r24.1 rs26)) 71) :: (.blk b22 (enc (FlushR.mk r13.1 rs15)) 71) :: (.blk b11 (enc (FlushR.mk Flush.zero (Vector.replicate 6 ⟨[], Sl.nil⟩ : Vector (LR Int) 6))) 71) :: (.blk b1 (enc (FlushR.mk a0 rs_a0_2)) 71) :: L) rfl ?_
 refine Lst.store (i := 0) rfl rfl rfl rfl rfl Try.sizeOf69 (vs := enc rs51) rfl (Enc.len _) (Enc.one _) (cs' := enc rs51) (Put.here ((Enc.len _).trans (Enc.len _).symm)) (L' := (.blk b62 (enc rs51) 69) :: (.rows (α := Int) 3 ((Vector.replicate 6 ⟨[], Sl.nil⟩ : Vector (LR Int) 6).toList)) :: (.blk b58 (enc (FlushR.mk r46.1 rs48)) 71) :: (.blk b44 (enc (FlushR.mk r35.1 rs37)) 71) :: (.blk b33 (enc (FlushR.mk r24.1 rs26)) 71) :: (.blk b22 (enc (FlushR.mk r13.1 rs15)) 71) :: (.blk b11 (enc (FlushR.mk Flush.zero (Vector.replicate 6 ⟨[], Sl.nil⟩ : Vector (LR Int) 6))) 71) :: (.blk b1 (enc (FlushR.mk a0 rs_a0_2)) 71) :: L) rfl ?_
 refine Lst.r (Ev.assign rfl) ?_
 refine Lst.nil ?_
 refine At.then ?_
 obtain ⟨o64, H, HKo64⟩ := andThen_some H
 refine Cd.join (σ := Unit) (fun (_ : Unit) => [(2, iv a2), (3, iv a3), (4, .int .u8 a4.toNat), (5, pv b1 0), (11, iv r3), (12, pv b11 0), (15, pv b33 0), (16, iv r24.2), (17, pv b44 0), (18, iv r35.2), (19, pv b58 0), (20, pv b62 0), (21, iv r46.2.2)]) (fun (_ : Unit) => (.blk b62 (enc rs51) 69) :: (.rows (α := Int) 3 ((Vector.replicate 6 ⟨[], Sl.nil⟩ : Vector (LR Int) 6).toList)) :: (.blk b58 (enc (FlushR.mk r46.1 rs48)) 71) :: (.blk b44 (enc (FlushR.mk r35.1 rs37)) 71) :: (.blk b33 (enc (FlushR.mk r24.1 rs26)) 71) :: (.blk b22 (enc (FlushR.mk r13.1 rs15)) 71) :: (.blk b11 (enc (FlushR.mk Flush.zero (Vector.replicate 6 ⟨[], Sl.nil⟩ : Vector (LR Int) 6))) 71) :: (.blk b1 (enc (FlushR.mk a0 rs_a0_2)) 71) :: L) (fun _ (_ : Unit) => .inl () = o64) ?_ ?_
 ·refine Cd.seq ?_
  refine Cd.region ?_
  refine Lst.r (Ev.move rfl) ?_
  refine Lst.r (Ev.build (v := .agg (enc ({ View.zero with Members := a1 } : View)).toArray) (pv := [(1, .int .u8 a1.toNat)]) ⟨rfl, rfl, trivial⟩ (fun w => by kernel_rfl)) ?_
  have hm65 : (Vector.replicate 6 ⟨[], Sl.nil⟩ : Vector (LR Int) 6).toList.map LR.v = (Vector.replicate 6 [] : Vector (List Int) 6).toList := vmap_rep _ _
  have ha66 : All LR.rel w0 F54 [] (Vector.replicate 6 ⟨[], Sl.nil⟩ : Vector (LR Int) 6).toList := vAll_rep Rd.nil
  refine Lst.r (Ev.build (v := .agg (enc (FlushR.mk ({ Flush.zero with View_ := ({ View.zero with Members := a1 } : View) } : Flush) (Vector.replicate 6 ⟨[], Sl.nil⟩ : Vector (LR Int) 6))).toArray) (pv := [(0, .agg (enc ({ View.zero with Members := a1 } : View)).toArray)]) ⟨rfl, rfl, trivial⟩ (run_buildStruct (places := #[(0, 2), (2, 1), (3, 6)]) Try.zeroValue71 (zs := enc (FlushR.mk Flush.zero (Vector.replicate 6 ⟨[], Sl.nil⟩ : Vector (LR Int) 6))) rfl Try.runUnderlying71 (fun w => by kernel_rfl) (fill_cons (cs := enc (FlushR.mk Flush.zero (Vector.replicate 6 ⟨[], Sl.nil⟩ : Vector (LR Int) 6))) (cs' := enc (FlushR.mk ({ Flush.zero with View_ := ({ View.zero with Members := a1 } : View) } : Flush) (Vector.replicate 6 ⟨[], Sl.nil⟩ : Vector (LR Int) 6))) (vs := enc ({ View.zero with Members := a1 } : View)) rfl rfl (Enc.len _) ((FlushR.put_View_ (p := (FlushR.mk Flush.zero (Vector.replicate 6 ⟨[], Sl.nil⟩ : Vector (LR Int) 6))) (y := ({ View.zero with Members := a1 } : View)) (Put.here ((Enc.len _).trans (Enc.len _).symm))).off rfl) fill_nil))) ?_
  have hm67 : (Vector.replicate 6 ⟨[], Sl.nil⟩ : Vector (LR Int) 6).toList.map LR.v = (Vector.replicate 6 [] : Vector (List Int) 6).toList := vmap_rep _ _
  have ha68 : All LR.rel w0 F54 [] (Vector.replicate 6 ⟨[], Sl.nil⟩ : Vector (LR Int) 6).toList := vAll_rep Rd.nil
  refine Lst.alloc (cs := enc (FlushR.mk Flush.zero (Vector.replicate 6 ⟨[], Sl.nil⟩ : Vector (LR Int) 6))) rfl rfl (by decide) Try.zeroValue71 rfl (fun b69 => ?_)
  refine Lst.store (i := 0) rfl rfl rfl rfl rfl Try.sizeOf71 (vs := enc (FlushR.mk ({ Flush.zero with View_ := ({ View.zero with Members := a1 } : View) } : Flush) (Vector.replicate 6 ⟨[], Sl.nil⟩ : Vector (LR Int) 6))) rfl (Enc.len _) (Enc.one _) (cs' := enc (FlushR.mk ({ Flush.zero with View_ := ({ View.zero with Members := a1 } : View) } : Flush) (Vector.replicate 6 ⟨[], Sl.nil⟩ : Vector (LR Int) 6))) (Put.here ((Enc.len _).trans (Enc.len _).symm)) (L' := (.blk b69 (enc (FlushR.mk ({ Flush.zero with View_ := ({ View.zero with Members := a1 } : View) } : Flush) (Vector.replicate 6 ⟨[], Sl.nil⟩ : Vector (LR Int) 6))) 71) :: (.blk b62 (enc rs51) 69) :: (.rows (α := Int) 3 ((Vector.replicate 6 ⟨[], Sl.nil⟩ : Vector (LR Int) 6).toList)) :: (.blk b58 (enc (FlushR.mk r46.1 rs48)) 71) :: (.blk b44 (enc (FlushR.mk r35.1 rs37)) 71) :: (.blk b33 (enc (FlushR.mk r24.1 rs26)) 71) :: (.blk b22 (enc (FlushR.mk r13.1 rs15)) 71) :: (.blk b11 (enc (FlushR.mk Flush.zero (Vector.replicate 6 ⟨[], Sl.nil⟩ : Vector (LR Int) 6))) 71) :: (.blk b1 (enc (FlushR.mk a0 rs_a0_2)) 71) :: L) rfl ?_
  refine Lst.nil ?_
  refine At.then ?_
  refine Cd.seq ?_
  refine Cd.as (e' := [(2, iv a2), (3, iv a3), (4, .int .u8 a4.toNat), (5, pv b1 0), (11, iv r3), (12, pv b11 0), (13, pv b22 0), (14, iv r13.2), (15, pv b33 0), (16, iv r24.2), (17, pv b44 0), (18, iv r35.2), (19, pv b58 0), (20, pv b62 0), (21, iv r46.2.2), (22, pv b69 0)]) (L' := (.blk b69 (enc (FlushR.mk ({ Flush.zero with View_ := ({ View.zero with Members := a1 } : View) } : Flush) (Vector.replicate 6 ⟨[], Sl.nil⟩ : Vector (LR Int) 6))) 71) :: (.blk b62 (enc rs51) 69) :: (.rows (α := Int) 3 ((Vector.replicate 6 ⟨[], Sl.nil⟩ : Vector (LR Int) 6).toList)) :: (.blk b58 (enc (FlushR.mk r46.1 rs48)) 71) :: (.blk b44 (enc (FlushR.mk r35.1 rs37)) 71) :: (.blk b33 (enc (FlushR.mk r24.1 rs26)) 71) :: (.blk b22 (enc (FlushR.mk r13.1 rs15)) 71) :: (.blk b11 (enc (FlushR.mk Flush.zero (Vector.replicate 6 ⟨[], Sl.nil⟩ : Vector (LR Int) 6))) 71) :: (.blk b1 (enc (FlushR.mk a0 rs_a0_2)) 71) :: L) ⟨rfl, rfl, rfl, rfl, rfl, rfl, rfl, rfl, rfl, rfl, rfl, rfl, rfl, rfl, rfl, rfl, trivial⟩ rfl ?_
  refine Cd.region ?_
  refine Lst.r (Ev.fieldAddr (off' := 0) rfl Try.runUnderlying71 rfl Try.sizeOf68 rfl rfl) ?_
  refine Lst.r (Ev.loadA (i := 0) rfl rfl Try.isAgg68 Try.sizeOf68 (ch := enc ({ View.zero with Members := a1 } : View)) (Enc.len _) ((FlushR.get_View_ (Get.here _)).off (by rfl))) ?_
  obtain ⟨r71, h72, H⟩ := bind_some H
  refine Lst.call1 rfl rfl (by decide) (vs := [.agg (enc ({ View.zero with Members := a1 } : View)).toArray]) ⟨rfl, trivial⟩ Try.call44 (partref_ViewErr_sim h72 w0 _ M _ (sc8 (sc1 hM))) ?_
  refine Lst.r (Ev.eql rfl rfl) ?_
  refine Lst.nil ?_
  refine At.then ?_
  rcases Bool.eq_false_or_eq_true (r71 == (0 : Int)) with hb75 | hb75
  ·replace H := ite_t hb75 H
   refine Cd.condT rfl hb75 ?_
   refine Cd.seq ?_
   refine Cd.region ?_
   refine Lst.r (Ev.loadA (i := 6) rfl rfl Try.isAgg71 Try.sizeOf71 (ch := enc (FlushR.mk r13.1 rs15)) (Enc.len _) (Get.here _)) ?_
   refine Lst.r (Ev.loadA (i := 0) rfl rfl Try.isAgg71 Try.sizeOf71 (ch := enc (FlushR.mk ({ Flush.zero with View_ := ({ View.zero with Members := a1 } : View) } : Flush) (Vector.replicate 6 ⟨[], Sl.nil⟩ : Vector (LR Int) 6))) (Enc.len _) (Get.here _)) ?_
   obtain ⟨r76, h77, H⟩ := bind_some H
   refine Lst.call1 rfl rfl (by decide) (vs := [.agg (enc (FlushR.mk r13.1 rs15)).toArray, .agg (enc (FlushR.mk ({ Flush.zero with View_ := ({ View.zero with Members := a1 } : View) } : Flush) (Vector.replicate 6 ⟨[], Sl.nil⟩ : Vector (LR Int) 6))).toArray]) ⟨rfl, rfl, trivial⟩ Try.call45 (partref_SameFlush_sim h77 w0 _ M _ (sc8 (sc1 hM)) fm16 (All.monoLR fa17 (FLe.trans (FLe.trans hF30 hF41) hF55) (List.nil_sublist _)) hm65 (All.monoLR ha66 (FLe.refl _) (List.nil_sublist _))) ?_
   refine Lst.r (Ev.not rfl) ?_
   refine Lst.r (Ev.move rfl) ?_
   obtain ⟨o80, H, HKo80⟩ := bind_some H
   refine Lst.join (σ := Bool) 3 (fun y81 => [(2, iv a2), (3, iv a3), (4, .int .u8 a4.toNat), (5, pv b1 0), (11, iv r3), (12, pv b11 0), (15, pv b33 0), (16, iv r24.2), (17, pv b44 0), (18, iv r35.2), (19, pv b58 0), (20, pv b62 0), (21, iv r46.2.2), (70, .bool y81)]) (fun y81 => (.blk b69 (enc (FlushR.mk ({ Flush.zero with View_ := ({ View.zero with Members := a1 } : View) } : Flush) (Vector.replicate 6 ⟨[], Sl.nil⟩ : Vector (LR Int) 6))) 71) :: (.blk b62 (enc rs51) 69) :: (.rows (α := Int) 3 ((Vector.replicate 6 ⟨[], Sl.nil⟩ : Vector (LR Int) 6).toList)) :: (.blk b58 (enc (FlushR.mk r46.1 rs48)) 71) :: (.blk b44 (enc (FlushR.mk r35.1 rs37)) 71) :: (.blk b33 (enc (FlushR.mk r24.1 rs26)) 71) :: (.blk b22 (enc (FlushR.mk r13.1 rs15)) 71) :: (.blk b11 (enc (FlushR.mk Flush.zero (Vector.replicate 6 ⟨[], Sl.nil⟩ : Vector (LR Int) 6))) 71) :: (.blk b1 (enc (FlushR.mk a0 rs_a0_2)) 71) :: L) (fun _ y81 => y81 = o80) ?_ ?_
   ·rcases Bool.eq_false_or_eq_true (!r76) with hb82 | hb82
    ·replace H := ite_t hb82 H
     refine Lst.skip rfl rfl rfl hb82 rfl (by decide) ?_
     refine Lst.skip rfl rfl rfl hb82 rfl (by decide) ?_
     refine Lst.r (Ev.pickT rfl hb82 rfl) ?_
     refine Lst.nil ?_
     exact At.meet true (FLe.refl _) ⟨rfl, rfl, rfl, rfl, rfl, rfl, rfl, rfl, rfl, rfl, rfl, rfl, rfl, rfl, trivial⟩ rfl (some_inj H)
    replace H := ite_f hb82 H
    refine Lst.rG hb82 (Ev.move rfl) ?_
    refine Lst.rG hb82 (Ev.neq rfl rfl) ?_
    refine Lst.r (Ev.pickF rfl hb82 rfl) ?_
    refine Lst.nil ?_
    exact At.meet (r13.2 != (0 : Int)) (FLe.refl _) ⟨rfl, rfl, rfl, rfl, rfl, rfl, rfl, rfl, rfl, rfl, rfl, rfl, rfl, rfl, trivial⟩ rfl (some_inj H)
   rintro F83 y81 hF84 hy
   subst hy
   refine Lst.as (e' := [(2, iv a2), (3, iv a3), (4, .int .u8 a4.toNat), (5, pv b1 0), (11, iv r3), (12, pv b11 0), (15, pv b33 0), (16, iv r24.2), (17, pv b44 0), (18, iv r35.2), (19, pv b58 0), (20, pv b62 0), (21, iv r46.2.2), (70, .bool y81)]) (L' := (.blk b69 (enc (FlushR.mk ({ Flush.zero with View_ := ({ View.zero with Members := a1 } : View) } : Flush) (Vector.replicate 6 ⟨[], Sl.nil⟩ : Vector (LR Int) 6))) 71) :: (.blk b62 (enc rs51) 69) :: (.rows (α := Int) 3 ((Vector.replicate 6 ⟨[], Sl.nil⟩ : Vector (LR Int) 6).toList)) :: (.blk b58 (enc (FlushR.mk r46.1 rs48)) 71) :: (.blk b44 (enc (FlushR.mk r35.1 rs37)) 71) :: (.blk b33 (enc (FlushR.mk r24.1 rs26)) 71) :: (.blk b22 (enc (FlushR.mk r13.1 rs15)) 71) :: (.blk b11 (enc (FlushR.mk Flush.zero (Vector.replicate 6 ⟨[], Sl.nil⟩ : Vector (LR Int) 6))) 71) :: (.blk b1 (enc (FlushR.mk a0 rs_a0_2)) 71) :: L) ⟨rfl, rfl, rfl, rfl, rfl, rfl, rfl, rfl, rfl, rfl, rfl, rfl, rfl, rfl, trivial⟩ rfl ?_
   replace H := HKo80
   refine Lst.nil ?_
   refine At.then ?_
   rcases Bool.eq_false_or_eq_true y81 with hb85 | hb85
   ·replace H := ite_t hb85 H
    refine Cd.condT rfl hb85 ?_
    refine Cd.seq ?_
    refine Cd.region ?_
    refine Lst.r (Ev.assign rfl) ?_
    refine Lst.nil ?_
    refine At.then ?_
    obtain rfl := some_inj H
    replace H := HKo64
    obtain rfl := some_inj H
    refine Cd.ret ?_
    refine At.then_ret ?_
    exact At.ret1 rfl (Res.tmp rfl) (FLe.trans (FLe.trans (FLe.trans (FLe.trans hF19 hF30) hF41) hF55) hF84) (sc1 (sc1 (sc1 (sc1 (sc1 (sc1 (sc1 (sc1 (sc1 (.refl _)))))))))) ⟨rfl, rfl⟩
   replace H := ite_f hb85 H
   refine Cd.condF rfl hb85 ?_
   refine Cd.skip ?_
   refine At.less (L' := (.blk b62 (enc rs51) 69) :: (.rows (α := Int) 3 ((Vector.replicate 6 ⟨[], Sl.nil⟩ : Vector (LR Int) 6).toList)) :: (.blk b58 (enc (FlushR.mk r46.1 rs48)) 71) :: (.blk b44 (enc (FlushR.mk r35.1 rs37)) 71) :: (.blk b33 (enc (FlushR.mk r24.1 rs26)) 71) :: (.blk b22 (enc (FlushR.mk r13.1 rs15)) 71) :: (.blk b11 (enc (FlushR.mk Flush.zero (Vector.replicate 6 ⟨[], Sl.nil⟩ : Vector (LR Int) 6))) 71) :: (.blk b1 (enc (FlushR.mk a0 rs_a0_2)) 71) :: L) (sc1 (sk1 (sk1 (sk1 (sk1 (sk1 (sk1 (sk1 (sk1 (.refl _)))))))))) ?_
   exact At.meet () hF84 ⟨rfl, rfl, rfl, rfl, rfl, rfl, rfl, rfl, rfl, rfl, rfl, rfl, rfl, trivial⟩ rfl (some_inj H)
  replace H := ite_f hb75 H
  refine Cd.condF rfl hb75 ?_
  refine Cd.seq ?_
  refine Cd.region ?_
  refine Lst.r (Ev.loadA (i := 6) rfl rfl Try.isAgg71 Try.sizeOf71 (ch := enc (FlushR.mk r13.1 rs15)) (Enc.len _) (Get.here _)) ?_
  refine Lst.r (Ev.loadA (i := 7) rfl rfl Try.isAgg71 Try.sizeOf71 (ch := enc (FlushR.mk Flush.zero (Vector.replicate 6 ⟨[], Sl.nil⟩ : Vector (LR Int) 6))) (Enc.len _) (Get.here _)) ?_
  obtain ⟨r86, h87, H⟩ := bind_some H
  refine Lst.call1 rfl rfl (by decide) (vs := [.agg (enc (FlushR.mk r13.1 rs15)).toArray, .agg (enc (FlushR.mk Flush.zero (Vector.replicate 6 ⟨[], Sl.nil⟩ : Vector (LR Int) 6))).toArray]) ⟨rfl, rfl, trivial⟩ Try.call45 (partref_SameFlush_sim h87 w0 _ M _ (sc8 (sc1 hM)) fm16 (All.monoLR fa17 (FLe.trans (FLe.trans hF30 hF41) hF55) (List.nil_sublist _)) hm7 (All.monoLR ha8 (FLe.trans (FLe.trans (FLe.trans hF19 hF30) hF41) hF55) (List.nil_sublist _))) ?_
  refine Lst.r (Ev.not rfl) ?_
  refine Lst.r (Ev.move rfl) ?_
  obtain ⟨o90, H, HKo90⟩ := bind_some H
  refine Lst.join (σ := Bool) 3 (fun y91 => [(2, iv a2), (3, iv a3), (4, .int .u8 a4.toNat), (5, pv b1 0), (11, iv r3), (12, pv b11 0), (15, pv b33 0), (16, iv r24.2), (17, pv b44 0), (18, iv r35.2), (19, pv b58 0), (20, pv b62 0), (21, iv r46.2.2), (78, .bool y91)]) (fun y91 => (.blk b69 (enc (FlushR.mk ({ Flush.zero with View_ := ({ View.zero with Members := a1 } : View) } : Flush) (Vector.replicate 6 ⟨[], Sl.nil⟩ : Vector (LR Int) 6))) 71) :: (.blk b62 (enc rs51) 69) :: (.rows (α := Int) 3 ((Vector.replicate 6 ⟨[], Sl.nil⟩ : Vector (LR Int) 6).toList)) :: (.blk b58 (enc (FlushR.mk r46.1 rs48)) 71) :: (.blk b44 (enc (FlushR.mk r35.1 rs37)) 71) :: (.blk b33 (enc (FlushR.mk r24.1 rs26)) 71) :: (.blk b22 (enc (FlushR.mk r13.1 rs15)) 71) :: (.blk b11 (enc (FlushR.mk Flush.zero (Vector.replicate 6 ⟨[], Sl.nil⟩ : Vector (LR Int) 6))) 71) :: (.blk b1 (enc (FlushR.mk a0 rs_a0_2)) 71) :: L) (fun _ y91 => y91 = o90) ?_ ?_
  ·rcases Bool.eq_false_or_eq_true (!r86) with hb92 | hb92
   ·replace H := ite_t hb92 H
    refine Lst.skip rfl rfl rfl hb92 rfl (by decide) ?_
    refine Lst.skip rfl rfl rfl hb92 rfl (by decide) ?_
    refine Lst.r (Ev.pickT rfl hb92 rfl) ?_
    refine Lst.nil ?_
    exact At.meet true (FLe.refl _) ⟨rfl, rfl, rfl, rfl, rfl, rfl, rfl, rfl, rfl, rfl, rfl, rfl, rfl, rfl, trivial⟩ rfl (some_inj H)
   replace H := ite_f hb92 H
   refine Lst.rG hb92 (Ev.move rfl) ?_
   refine Lst.rG hb92 (Ev.neq rfl rfl) ?_
   refine Lst.r (Ev.pickF rfl hb92 rfl) ?_
   refine Lst.nil ?_
   exact At.meet (r13.2 != (1 : Int)) (FLe.refl _) ⟨rfl, rfl, rfl, rfl, rfl, rfl, rfl, rfl, rfl, rfl, rfl, rfl, rfl, rfl, trivial⟩ rfl (some_inj H)
  rintro F93 y91 hF94 hy
  subst hy
  refine Lst.as (e' := [(2, iv a2), (3, iv a3), (4, .int .u8 a4.toNat), (5, pv b1 0), (11, iv r3), (12, pv b11 0), (15, pv b33 0), (16, iv r24.2), (17, pv b44 0), (18, iv r35.2), (19, pv b58 0), (20, pv b62 0), (21, iv r46.2.2), (78, .bool y91)]) (L' := (.blk b69 (enc (FlushR.mk ({ Flush.zero with View_ := ({ View.zero with Members := a1 } : View) } : Flush) (Vector.replicate 6 ⟨[], Sl.nil⟩ : Vector (LR Int) 6))) 71) :: (.blk b62 (enc rs51) 69) :: (.rows (α := Int) 3 ((Vector.replicate 6 ⟨[], Sl.nil⟩ : Vector (LR Int) 6).toList)) :: (.blk b58 (enc (FlushR.mk r46.1 rs48)) 71) :: (.blk b44 (enc (FlushR.mk r35.1 rs37)) 71) :: (.blk b33 (enc (FlushR.mk r24.1 rs26)) 71) :: (.blk b22 (enc (FlushR.mk r13.1 rs15)) 71) :: (.blk b11 (enc (FlushR.mk Flush.zero (Vector.replicate 6 ⟨[], Sl.nil⟩ : Vector (LR Int) 6))) 71) :: (.blk b1 (enc (FlushR.mk a0 rs_a0_2)) 71) :: L) ⟨rfl, rfl, rfl, rfl, rfl, rfl, rfl, rfl, rfl, rfl, rfl, rfl, rfl, rfl, trivial⟩ rfl ?_
  replace H := HKo90
  refine Lst.nil ?_
  refine At.then ?_
  rcases Bool.eq_false_or_eq_true y91 with hb95 | hb95
  ·replace H := ite_t hb95 H
   refine Cd.condT rfl hb95 ?_
   refine Cd.seq ?_
   refine Cd.region ?_
   refine Lst.r (Ev.assign rfl) ?_
   refine Lst.nil ?_
   refine At.then ?_
   obtain rfl := some_inj H
   replace H := HKo64
   obtain rfl := some_inj H
   refine Cd.ret ?_
   refine At.then_ret ?_
   exact At.ret1 rfl (Res.tmp rfl) (FLe.trans (FLe.trans (FLe.trans (FLe.trans hF19 hF30) hF41) hF55) hF94) (sc1 (sc1 (sc1 (sc1 (sc1 (sc1 (sc1 (sc1 (sc1 (.refl _)))))))))) ⟨rfl, rfl⟩
  replace H := ite_f hb95 H
  refine Cd.condF rfl hb95 ?_
  refine Cd.skip ?_
  refine At.less (L' := (.blk b62 (enc rs51) 69) :: (.rows (α := Int) 3 ((Vector.replicate 6 ⟨[], Sl.nil⟩ : Vector (LR Int) 6).toList)) :: (.blk b58 (enc (FlushR.mk r46.1 rs48)) 71) :: (.blk b44 (enc (FlushR.mk r35.1 rs37)) 71) :: (.blk b33 (enc (FlushR.mk r24.1 rs26)) 71) :: (.blk b22 (enc (FlushR.mk r13.1 rs15)) 71) :: (.blk b11 (enc (FlushR.mk Flush.zero (Vector.replicate 6 ⟨[], Sl.nil⟩ : Vector (LR Int) 6))) 71) :: (.blk b1 (enc (FlushR.mk a0 rs_a0_2)) 71) :: L) (sc1 (sk1 (sk1 (sk1 (sk1 (sk1 (sk1 (sk1 (sk1 (.refl _)))))))))) ?_
  exact At.meet () hF94 ⟨rfl, rfl, rfl, rfl, rfl, rfl, rfl, rfl, rfl, rfl, rfl, rfl, rfl, trivial⟩ rfl (some_inj H)
 rintro F96 _u hF97 hy
 subst hy
 refine Cd.as (e' := [(2, iv a2), (3, iv a3), (4, .int .u8 a4.toNat), (5, pv b1 0), (11, iv r3), (12, pv b11 0), (15, pv b33 0), (16, iv r24.2), (17, pv b44 0), (18, iv r35.2), (19, pv b58 0), (20, pv b62 0), (21, iv r46.2.2)]) (L' := (.blk b62 (enc rs51) 69) :: (.rows (α := Int) 3 ((Vector.replicate 6 ⟨[], Sl.nil⟩ : Vector (LR Int) 6).toList)) :: (.blk b58 (enc (FlushR.mk r46.1 rs48)) 71) :: (.blk b44 (enc (FlushR.mk r35.1 rs37)) 71) :: (.blk b33 (enc (FlushR.mk r24.1 rs26)) 71) :: (.blk b22 (enc (FlushR.mk r13.1 rs15)) 71) :: (.blk b11 (enc (FlushR.mk Flush.zero (Vector.replicate 6 ⟨[], Sl.nil⟩ : Vector (LR Int) 6))) 71) :: (.blk b1 (enc (FlushR.mk a0 rs_a0_2)) 71) :: L) ⟨rfl, rfl, rfl, rfl, rfl, rfl, rfl, rfl, rfl, rfl, rfl, rfl, rfl, trivial⟩ rfl ?_
 replace H := HKo64
 refine Cd.seq ?_
 refine Cd.seq ?_
 refine Cd.region ?_
 refine Lst.r (Ev.loadA (i := 7) rfl rfl Try.isAgg71 Try.sizeOf71 (ch := enc (FlushR.mk a0 rs_a0_2)) (Enc.len _) (Get.here _)) ?_
 obtain ⟨r98, h99, H⟩ := bind_some H
 refine Lst.call1 rfl rfl (by decide) (vs := [.agg (enc (FlushR.mk a0 rs_a0_2)).toArray]) ⟨rfl, trivial⟩ Try.call46 (flush_Check_sim h99 w0 _ M _ (sc8 hM) hm_a0_2 (All.monoLR ha_a0_2 (FLe.trans (FLe.trans (FLe.trans (FLe.trans hF19 hF30) hF41) hF55) hF97) (.refl _))) ?_
 refine Lst.r (Ev.move rfl) ?_
 refine Lst.r (Ev.neq rfl rfl) ?_
 refine Lst.nil ?_
 refine At.then ?_
 rcases Bool.eq_false_or_eq_true (r98 != r3) with hb102 | hb102
 ·replace H := ite_t hb102 H
  refine Cd.condT rfl hb102 ?_
  refine Cd.seq ?_
  refine Cd.as (e' := []) (L' := (.blk b62 (enc rs51) 69) :: (.rows (α := Int) 3 ((Vector.replicate 6 ⟨[], Sl.nil⟩ : Vector (LR Int) 6).toList)) :: (.blk b58 (enc (FlushR.mk r46.1 rs48)) 71) :: (.blk b44 (enc (FlushR.mk r35.1 rs37)) 71) :: (.blk b33 (enc (FlushR.mk r24.1 rs26)) 71) :: (.blk b22 (enc (FlushR.mk r13.1 rs15)) 71) :: (.blk b11 (enc (FlushR.mk Flush.zero (Vector.replicate 6 ⟨[], Sl.nil⟩ : Vector (LR Int) 6))) 71) :: (.blk b1 (enc (FlushR.mk a0 rs_a0_2)) 71) :: L) trivial rfl ?_
  refine Cd.region ?_
  refine Lst.r (Ev.assign rfl) ?_
  refine Lst.nil ?_
  refine At.then ?_
  obtain rfl := some_inj H
  refine Cd.ret ?_
  refine At.then_ret ?_
  exact At.ret1 rfl (Res.tmp rfl) (FLe.trans (FLe.trans (FLe.trans (FLe.trans hF19 hF30) hF41) hF55) hF97) (sc1 (sc1 (sc1 (sc1 (sc1 (sc1 (sc1 (sc1 (.refl _))))))))) ⟨rfl, rfl⟩
 replace H := ite_f hb102 H
 refine Cd.condF rfl hb102 ?_
 refine Cd.skip ?_
 refine At.then ?_
 refine Cd.seq ?_
 refine Cd.seq ?_
 refine Cd.region ?_
 refine Lst.r (Ev.move rfl) ?_
 refine Lst.r (Ev.neq rfl rfl) ?_
 refine Lst.nil ?_
 refine At.then ?_
 rcases Bool.eq_false_or_eq_true (r3 != (0 : Int)) with hb103 | hb103
 ·replace H := ite_t hb103 H
  refine Cd.condT rfl hb103 ?_
  refine Cd.seq ?_
  refine Cd.region ?_
  refine Lst.r (Ev.loadA (i := 4) rfl rfl Try.isAgg71 Try.sizeOf71 (ch := enc (FlushR.mk r24.1 rs26)) (Enc.len _) (Get.here _)) ?_
  refine Lst.r (Ev.loadA (i := 6) rfl rfl Try.isAgg71 Try.sizeOf71 (ch := enc (FlushR.mk Flush.zero (Vector.replicate 6 ⟨[], Sl.nil⟩ : Vector (LR Int) 6))) (Enc.len _) (Get.here _)) ?_
  obtain ⟨r104, h105, H⟩ := bind_some H
  refine Lst.call1 rfl rfl (by decide) (vs := [.agg (enc (FlushR.mk r24.1 rs26)).toArray, .agg (enc (FlushR.mk Flush.zero (Vector.replicate 6 ⟨[], Sl.nil⟩ : Vector (LR Int) 6))).toArray]) ⟨rfl, rfl, trivial⟩ Try.call45 (partref_SameFlush_sim h105 w0 _ M _ (sc8 hM) fm27 (All.monoLR fa28 (FLe.trans (FLe.trans hF41 hF55) hF97) (List.nil_sublist _)) hm7 (All.monoLR ha8 (FLe.trans (FLe.trans (FLe.trans (FLe.trans hF19 hF30) hF41) hF55) hF97) (List.nil_sublist _))) ?_
  refine Lst.r (Ev.move rfl) ?_
  obtain ⟨o108, H, HKo108⟩ := bind_some H
  refine Lst.join (σ := Bool) 4 (fun y109 => [(11, iv r3), (12, pv b11 0), (17, pv b44 0), (18, iv r35.2), (19, pv b58 0), (20, pv b62 0), (21, iv r46.2.2), (92, .bool y109)]) (fun y109 => (.blk b62 (enc rs51) 69) :: (.rows (α := Int) 3 ((Vector.replicate 6 ⟨[], Sl.nil⟩ : Vector (LR Int) 6).toList)) :: (.blk b58 (enc (FlushR.mk r46.1 rs48)) 71) :: (.blk b44 (enc (FlushR.mk r35.1 rs37)) 71) :: (.blk b33 (enc (FlushR.mk r24.1 rs26)) 71) :: (.blk b22 (enc (FlushR.mk r13.1 rs15)) 71) :: (.blk b11 (enc (FlushR.mk Flush.zero (Vector.replicate 6 ⟨[], Sl.nil⟩ : Vector (LR Int) 6))) 71) :: (.blk b1 (enc (FlushR.mk a0 rs_a0_2)) 71) :: L) (fun _ y109 => y109 = o108) ?_ ?_
  ·rcases (Bool.eq_false_or_eq_true r104).symm with hb110 | hb110
   ·replace H := ite_f hb110 H
    refine Lst.skip rfl rfl rfl hb110 rfl (by decide) ?_
    refine Lst.skip rfl rfl rfl hb110 rfl (by decide) ?_
    refine Lst.skip rfl rfl rfl hb110 rfl (by decide) ?_
    refine Lst.r (Ev.pickF rfl hb110 rfl) ?_
    refine Lst.nil ?_
    exact At.meet false (FLe.refl _) ⟨rfl, rfl, rfl, rfl, rfl, rfl, rfl, rfl, trivial⟩ rfl (some_inj H)
   replace H := ite_t hb110 H
   refine Lst.rG hb110 (Ev.move rfl) ?_
   refine Lst.rG hb110 (Ev.move rfl) ?_
   refine Lst.rG hb110 (Ev.eql rfl rfl) ?_
   refine Lst.r (Ev.pickT rfl hb110 rfl) ?_
   refine Lst.nil ?_
   exact At.meet (r24.2 == r3) (FLe.refl _) ⟨rfl, rfl, rfl, rfl, rfl, rfl, rfl, rfl, trivial⟩ rfl (some_inj H)
  rintro F111 y109 hF112 hy
  subst hy
  refine Lst.as (e' := [(11, iv r3), (12, pv b11 0), (17, pv b44 0), (18, iv r35.2), (19, pv b58 0), (20, pv b62 0), (21, iv r46.2.2), (92, .bool y109)]) (L' := (.blk b62 (enc rs51) 69) :: (.rows (α := Int) 3 ((Vector.replicate 6 ⟨[], Sl.nil⟩ : Vector (LR Int) 6).toList)) :: (.blk b58 (enc (FlushR.mk r46.1 rs48)) 71) :: (.blk b44 (enc (FlushR.mk r35.1 rs37)) 71) :: (.blk b33 (enc (FlushR.mk r24.1 rs26)) 71) :: (.blk b22 (enc (FlushR.mk r13.1 rs15)) 71) :: (.blk b11 (enc (FlushR.mk Flush.zero (Vector.replicate 6 ⟨[], Sl.nil⟩ : Vector (LR Int) 6))) 71) :: (.blk b1 (enc (FlushR.mk a0 rs_a0_2)) 71) :: L) ⟨rfl, rfl, rfl, rfl, rfl, rfl, rfl, rfl, trivial⟩ rfl ?_
  replace H := HKo108
  refine Lst.r (Ev.move rfl) ?_
  obtain ⟨o113, H, HKo113⟩ := bind_some H
  refine Lst.join (σ := Bool) 4 (fun y114 => [(11, iv r3), (12, pv b11 0), (18, iv r35.2), (19, pv b58 0), (20, pv b62 0), (21, iv r46.2.2), (97, .bool y114)]) (fun y114 => (.blk b62 (enc rs51) 69) :: (.rows (α := Int) 3 ((Vector.replicate 6 ⟨[], Sl.nil⟩ : Vector (LR Int) 6).toList)) :: (.blk b58 (enc (FlushR.mk r46.1 rs48)) 71) :: (.blk b44 (enc (FlushR.mk r35.1 rs37)) 71) :: (.blk b33 (enc (FlushR.mk r24.1 rs26)) 71) :: (.blk b22 (enc (FlushR.mk r13.1 rs15)) 71) :: (.blk b11 (enc (FlushR.mk Flush.zero (Vector.replicate 6 ⟨[], Sl.nil⟩ : Vector (LR Int) 6))) 71) :: (.blk b1 (enc (FlushR.mk a0 rs_a0_2)) 71) :: L) (fun _ y114 => y114 = o113) ?_ ?_
  ·rcases (Bool.eq_false_or_eq_true y109).symm with hb115 | hb115
   ·replace H := ite_f hb115 H
    refine Lst.skip rfl rfl rfl hb115 rfl (by decide) ?_
    refine Lst.skip rfl rfl rfl hb115 rfl (by decide) ?_
    refine Lst.skip rfl rfl rfl hb115 rfl (by decide) ?_
    refine Lst.r (Ev.pickF rfl hb115 rfl) ?_
    refine Lst.nil ?_
    exact At.meet false (FLe.refl _) ⟨rfl, rfl, rfl, rfl, rfl, rfl, rfl, trivial⟩ rfl (some_inj H)
   replace H := ite_t hb115 H
   refine Lst.rG hb115 (Ev.loadA (i := 3) rfl rfl Try.isAgg71 Try.sizeOf71 (ch := enc (FlushR.mk r35.1 rs37)) (Enc.len _) (Get.here _)) ?_
   refine Lst.rG hb115 (Ev.loadA (i := 6) rfl rfl Try.isAgg71 Try.sizeOf71 (ch := enc (FlushR.mk Flush.zero (Vector.replicate 6 ⟨[], Sl.nil⟩ : Vector (LR Int) 6))) (Enc.len _) (Get.here _)) ?_
   obtain ⟨r116, h117, H⟩ := bind_some H
   refine Lst.call1G rfl rfl rfl hb115 rfl (by decide) (vs := [.agg (enc (FlushR.mk r35.1 rs37)).toArray, .agg (enc (FlushR.mk Flush.zero (Vector.replicate 6 ⟨[], Sl.nil⟩ : Vector (LR Int) 6))).toArray]) ⟨rfl, rfl, trivial⟩ Try.call45 (partref_SameFlush_sim h117 w0 _ M _ (sc8 hM) fm38 (All.monoLR fa39 (FLe.trans (FLe.trans hF55 hF97) hF112) (List.nil_sublist _)) hm7 (All.monoLR ha8 (FLe.trans (FLe.trans (FLe.trans (FLe.trans (FLe.trans hF19 hF30) hF41) hF55) hF97) hF112) (List.nil_sublist _))) ?_
   refine Lst.r (Ev.pickT rfl hb115 rfl) ?_
   refine Lst.nil ?_
   exact At.meet r116 (FLe.refl _) ⟨rfl, rfl, rfl, rfl, rfl, rfl, rfl, trivial⟩ rfl (some_inj H)
  rintro F120 y114 hF121 hy
  subst hy
  refine Lst.as (e' := [(11, iv r3), (12, pv b11 0), (18, iv r35.2), (19, pv b58 0), (20, pv b62 0), (21, iv r46.2.2), (97, .bool y114)]) (L' := (.blk b62 (enc rs51) 69) :: (.rows (α := Int) 3 ((Vector.replicate 6 ⟨[], Sl.nil⟩ : Vector (LR Int) 6).toList)) :: (.blk b58 (enc (FlushR.mk r46.1 rs48)) 71) :: (.blk b44 (enc (FlushR.mk r35.1 rs37)) 71) :: (.blk b33 (enc (FlushR.mk r24.1 rs26)) 71) :: (.blk b22 (enc (FlushR.mk r13.1 rs15)) 71) :: (.blk b11 (enc (FlushR.mk Flush.zero (Vector.replicate 6 ⟨[], Sl.nil⟩ : Vector (LR Int) 6))) 71) :: (.blk b1 (enc (FlushR.mk a0 rs_a0_2)) 71) :: L) ⟨rfl, rfl, rfl, rfl, rfl, rfl, rfl, trivial⟩ rfl ?_
  replace H := HKo113
  refine Lst.r (Ev.move rfl) ?_
  obtain ⟨o122, H, HKo122⟩ := bind_some H
  refine Lst.join (σ := Bool) 4 (fun y123 => [(11, iv r3), (12, pv b11 0), (19, pv b58 0), (20, pv b62 0), (21, iv r46.2.2), (102, .bool y123)]) (fun y123 => (.blk b62 (enc rs51) 69) :: (.rows (α := Int) 3 ((Vector.replicate 6 ⟨[], Sl.nil⟩ : Vector (LR Int) 6).toList)) :: (.blk b58 (enc (FlushR.mk r46.1 rs48)) 71) :: (.blk b44 (enc (FlushR.mk r35.1 rs37)) 71) :: (.blk b33 (enc (FlushR.mk r24.1 rs26)) 71) :: (.blk b22 (enc (FlushR.mk r13.1 rs15)) 71) :: (.blk b11 (enc (FlushR.mk Flush.zero (Vector.replicate 6 ⟨[], Sl.nil⟩ : Vector (LR Int) 6))) 71) :: (.blk b1 (enc (FlushR.mk a0 rs_a0_2)) 71) :: L) (fun _ y123 => y123 = o122) ?_ ?_
  ·rcases (Bool.eq_false_or_eq_true y114).symm with hb124 | hb124
   ·replace H := ite_f hb124 H
    refine Lst.skip rfl rfl rfl hb124 rfl (by decide) ?_
    refine Lst.skip rfl rfl rfl hb124 rfl (by decide) ?_
    refine Lst.skip rfl rfl rfl hb124 rfl (by decide) ?_
    refine Lst.r (Ev.pickF rfl hb124 rfl) ?_
    refine Lst.nil ?_
    exact At.meet false (FLe.refl _) ⟨rfl, rfl, rfl, rfl, rfl, rfl, trivial⟩ rfl (some_inj H)
   replace H := ite_t hb124 H
   refine Lst.rG hb124 (Ev.move rfl) ?_
   refine Lst.rG hb124 (Ev.move rfl) ?_
   refine Lst.rG hb124 (Ev.eql rfl rfl) ?_
   refine Lst.r (Ev.pickT rfl hb124 rfl) ?_
   refine Lst.nil ?_
   exact At.meet (r35.2 == r3) (FLe.refl _) ⟨rfl, rfl, rfl, rfl, rfl, rfl, trivial⟩ rfl (some_inj H)
  rintro F125 y123 hF126 hy
  subst hy
  refine Lst.as (e' := [(11, iv r3), (12, pv b11 0), (19, pv b58 0), (20, pv b62 0), (21, iv r46.2.2), (102, .bool y123)]) (L' := (.blk b62 (enc rs51) 69) :: (.rows (α := Int) 3 ((Vector.replicate 6 ⟨[], Sl.nil⟩ : Vector (LR Int) 6).toList)) :: (.blk b58 (enc (FlushR.mk r46.1 rs48)) 71) :: (.blk b44 (enc (FlushR.mk r35.1 rs37)) 71) :: (.blk b33 (enc (FlushR.mk r24.1 rs26)) 71) :: (.blk b22 (enc (FlushR.mk r13.1 rs15)) 71) :: (.blk b11 (enc (FlushR.mk Flush.zero (Vector.replicate 6 ⟨[], Sl.nil⟩ : Vector (LR Int) 6))) 71) :: (.blk b1 (enc (FlushR.mk a0 rs_a0_2)) 71) :: L) ⟨rfl, rfl, rfl, rfl, rfl, rfl, trivial⟩ rfl ?_
  replace H := HKo122
  refine Lst.r (Ev.move rfl) ?_
  obtain ⟨o127, H, HKo127⟩ := bind_some H
  refine Lst.join (σ := Bool) 4 (fun y128 => [(11, iv r3), (20, pv b62 0), (21, iv r46.2.2), (107, .bool y128)]) (fun y128 => (.blk b62 (enc rs51) 69) :: (.rows (α := Int) 3 ((Vector.replicate 6 ⟨[], Sl.nil⟩ : Vector (LR Int) 6).toList)) :: (.blk b58 (enc (FlushR.mk r46.1 rs48)) 71) :: (.blk b44 (enc (FlushR.mk r35.1 rs37)) 71) :: (.blk b33 (enc (FlushR.mk r24.1 rs26)) 71) :: (.blk b22 (enc (FlushR.mk r13.1 rs15)) 71) :: (.blk b11 (enc (FlushR.mk Flush.zero (Vector.replicate 6 ⟨[], Sl.nil⟩ : Vector (LR Int) 6))) 71) :: (.blk b1 (enc (FlushR.mk a0 rs_a0_2)) 71) :: L) (fun _ y128 => y128 = o127) ?_ ?_
  ·rcases (Bool.eq_false_or_eq_true y123).symm with hb129 | hb129
   ·replace H := ite_f hb129 H
    refine Lst.skip rfl rfl rfl hb129 rfl (by decide) ?_
    refine Lst.skip rfl rfl rfl hb129 rfl (by decide) ?_
    refine Lst.skip rfl rfl rfl hb129 rfl (by decide) ?_
    refine Lst.r (Ev.pickF rfl hb129 rfl) ?_
    refine Lst.nil ?_
    exact At.meet false (FLe.refl _) ⟨rfl, rfl, rfl, rfl, trivial⟩ rfl (some_inj H)
   replace H := ite_t hb129 H
   refine Lst.rG hb129 (Ev.loadA (i := 2) rfl rfl Try.isAgg71 Try.sizeOf71 (ch := enc (FlushR.mk r46.1 rs48)) (Enc.len _) (Get.here _)) ?_
   refine Lst.rG hb129 (Ev.loadA (i := 6) rfl rfl Try.isAgg71 Try.sizeOf71 (ch := enc (FlushR.mk Flush.zero (Vector.replicate 6 ⟨[], Sl.nil⟩ : Vector (LR Int) 6))) (Enc.len _) (Get.here _)) ?_
   obtain ⟨r130, h131, H⟩ := bind_some H
   refine Lst.call1G rfl rfl rfl hb129 rfl (by decide) (vs := [.agg (enc (FlushR.mk r46.1 rs48)).toArray, .agg (enc (FlushR.mk Flush.zero (Vector.replicate 6 ⟨[], Sl.nil⟩ : Vector (LR Int) 6))).toArray]) ⟨rfl, rfl, trivial⟩ Try.call45 (partref_SameFlush_sim h131 w0 _ M _ (sc8 hM) fm49 (All.monoLR fa50 (FLe.trans (FLe.trans (FLe.trans hF97 hF112) hF121) hF126) (.refl _)) hm7 (All.monoLR ha8 (FLe.trans (FLe.trans (FLe.trans (FLe.trans (FLe.trans (FLe.trans (FLe.trans hF19 hF30) hF41) hF55) hF97) hF112) hF121) hF126) (List.nil_sublist _))) ?_
   refine Lst.r (Ev.pickT rfl hb129 rfl) ?_
   refine Lst.nil ?_
   exact At.meet r130 (FLe.refl _) ⟨rfl, rfl, rfl, rfl, trivial⟩ rfl (some_inj H)
  rintro F134 y128 hF135 hy
  subst hy
  refine Lst.as (e' := [(11, iv r3), (20, pv b62 0), (21, iv r46.2.2), (107, .bool y128)]) (L' := (.blk b62 (enc rs51) 69) :: (.rows (α := Int) 3 ((Vector.replicate 6 ⟨[], Sl.nil⟩ : Vector (LR Int) 6).toList)) :: (.blk b58 (enc (FlushR.mk r46.1 rs48)) 71) :: (.blk b44 (enc (FlushR.mk r35.1 rs37)) 71) :: (.blk b33 (enc (FlushR.mk r24.1 rs26)) 71) :: (.blk b22 (enc (FlushR.mk r13.1 rs15)) 71) :: (.blk b11 (enc (FlushR.mk Flush.zero (Vector.replicate 6 ⟨[], Sl.nil⟩ : Vector (LR Int) 6))) 71) :: (.blk b1 (enc (FlushR.mk a0 rs_a0_2)) 71) :: L) ⟨rfl, rfl, rfl, rfl, trivial⟩ rfl ?_
  replace H := HKo127
  refine Lst.r (Ev.move rfl) ?_
  obtain ⟨o136, H, HKo136⟩ := bind_some H
  refine Lst.join (σ := Bool) 4 (fun y137 => [(11, iv r3), (21, iv r46.2.2), (112, .bool y137)]) (fun y137 => (.blk b62 (enc rs51) 69) :: (.rows (α := Int) 3 ((Vector.replicate 6 ⟨[], Sl.nil⟩ : Vector (LR Int) 6).toList)) :: (.blk b58 (enc (FlushR.mk r46.1 rs48)) 71) :: (.blk b44 (enc (FlushR.mk r35.1 rs37)) 71) :: (.blk b33 (enc (FlushR.mk r24.1 rs26)) 71) :: (.blk b22 (enc (FlushR.mk r13.1 rs15)) 71) :: (.blk b11 (enc (FlushR.mk Flush.zero (Vector.replicate 6 ⟨[], Sl.nil⟩ : Vector (LR Int) 6))) 71) :: (.blk b1 (enc (FlushR.mk a0 rs_a0_2)) 71) :: L) (fun _ y137 => y137 = o136) ?_ ?_
  ·rcases (Bool.eq_false_or_eq_true y128).symm with hb138 | hb138
   ·replace H := ite_f hb138 H
    refine Lst.skip rfl rfl rfl hb138 rfl (by decide) ?_
    refine Lst.skip rfl rfl rfl hb138 rfl (by decide) ?_
    refine Lst.skip rfl rfl rfl hb138 rfl (by decide) ?_
    refine Lst.r (Ev.pickF rfl hb138 rfl) ?_
    refine Lst.nil ?_
    exact At.meet false (FLe.refl _) ⟨rfl, rfl, rfl, trivial⟩ rfl (some_inj H)
   replace H := ite_t hb138 H
   refine Lst.rG hb138 (Ev.loadA (i := 0) rfl rfl Try.isAgg69 Try.sizeOf69 (ch := enc rs51) (Enc.len _) (Get.here _)) ?_
   have hm139 : (Vector.replicate 6 ⟨[], Sl.nil⟩ : Vector (LR Int) 6).toList.map LR.v = (Vector.replicate 6 [] : Vector (List Int) 6).toList := vmap_rep _ _
   have ha140 : All LR.rel w0 F134 [] (Vector.replicate 6 ⟨[], Sl.nil⟩ : Vector (LR Int) 6).toList := vAll_rep Rd.nil
   refine Lst.rG hb138 (Ev.build (v := .agg (enc (Vector.replicate 6 ⟨[], Sl.nil⟩ : Vector (LR Int) 6)).toArray) (pv := []) trivial (fun w => by kernel_rfl)) ?_
   obtain ⟨r141, h142, H⟩ := bind_some H
   refine Lst.call1G rfl rfl rfl hb138 rfl (by decide) (vs := [.agg (enc rs51).toArray, .agg (enc (Vector.replicate 6 ⟨[], Sl.nil⟩ : Vector (LR Int) 6)).toArray]) ⟨rfl, rfl, trivial⟩ Try.call47 (partlaw_sameLists_sim h142 w0 _ M _ (sc8 hM) fm52 (All.monoLR fa53 (FLe.trans (FLe.trans (FLe.trans (FLe.trans hF97 hF112) hF121) hF126) hF135) (List.nil_sublist _)) hm139 (All.monoLR ha140 (FLe.refl _) (List.nil_sublist _))) ?_
   refine Lst.r (Ev.pickT rfl hb138 rfl) ?_
   refine Lst.nil ?_
   exact At.meet r141 (FLe.refl _) ⟨rfl, rfl, rfl, trivial⟩ rfl (some_inj H)
  rintro F145 y137 hF146 hy
  subst hy
  refine Lst.as (e' := [(11, iv r3), (21, iv r46.2.2), (112, .bool y137)]) (L' := (.blk b62 (enc rs51) 69) :: (.rows (α := Int) 3 ((Vector.replicate 6 ⟨[], Sl.nil⟩ : Vector (LR Int) 6).toList)) :: (.blk b58 (enc (FlushR.mk r46.1 rs48)) 71) :: (.blk b44 (enc (FlushR.mk r35.1 rs37)) 71) :: (.blk b33 (enc (FlushR.mk r24.1 rs26)) 71) :: (.blk b22 (enc (FlushR.mk r13.1 rs15)) 71) :: (.blk b11 (enc (FlushR.mk Flush.zero (Vector.replicate 6 ⟨[], Sl.nil⟩ : Vector (LR Int) 6))) 71) :: (.blk b1 (enc (FlushR.mk a0 rs_a0_2)) 71) :: L) ⟨rfl, rfl, rfl, trivial⟩ rfl ?_
  replace H := HKo136
  refine Lst.r (Ev.move rfl) ?_
  obtain ⟨o147, H, HKo147⟩ := bind_some H
  refine Lst.join (σ := Bool) 4 (fun y148 => [(117, .bool y148)]) (fun y148 => (.blk b62 (enc rs51) 69) :: (.rows (α := Int) 3 ((Vector.replicate 6 ⟨[], Sl.nil⟩ : Vector (LR Int) 6).toList)) :: (.blk b58 (enc (FlushR.mk r46.1 rs48)) 71) :: (.blk b44 (enc (FlushR.mk r35.1 rs37)) 71) :: (.blk b33 (enc (FlushR.mk r24.1 rs26)) 71) :: (.blk b22 (enc (FlushR.mk r13.1 rs15)) 71) :: (.blk b11 (enc (FlushR.mk Flush.zero (Vector.replicate 6 ⟨[], Sl.nil⟩ : Vector (LR Int) 6))) 71) :: (.blk b1 (enc (FlushR.mk a0 rs_a0_2)) 71) :: L) (fun _ y148 => y148 = o147) ?_ ?_
  ·rcases (Bool.eq_false_or_eq_true y137).symm with hb149 | hb149
   ·replace H := ite_f hb149 H
    refine Lst.skip rfl rfl rfl hb149 rfl (by decide) ?_
    refine Lst.skip rfl rfl rfl hb149 rfl (by decide) ?_
    refine Lst.skip rfl rfl rfl hb149 rfl (by decide) ?_
    refine Lst.r (Ev.pickF rfl hb149 rfl) ?_
    refine Lst.nil ?_
    exact At.meet false (FLe.refl _) ⟨rfl, trivial⟩ rfl (some_inj H)
   replace H := ite_t hb149 H
   refine Lst.rG hb149 (Ev.move rfl) ?_
   refine Lst.rG hb149 (Ev.move rfl) ?_
   refine Lst.rG hb149 (Ev.eql rfl rfl) ?_
   refine Lst.r (Ev.pickT rfl hb149 rfl) ?_
   refine Lst.nil ?_
   exact At.meet (r46.2.2 == r3) (FLe.refl _) ⟨rfl, trivial⟩ rfl (some_inj H)
  rintro F150 y148 hF151 hy
  subst hy
  refine Lst.as (e' := [(117, .bool y148)]) (L' := (.blk b62 (enc rs51) 69) :: (.rows (α := Int) 3 ((Vector.replicate 6 ⟨[], Sl.nil⟩ : Vector (LR Int) 6).toList)) :: (.blk b58 (enc (FlushR.mk r46.1 rs48)) 71) :: (.blk b44 (enc (FlushR.mk r35.1 rs37)) 71) :: (.blk b33 (enc (FlushR.mk r24.1 rs26)) 71) :: (.blk b22 (enc (FlushR.mk r13.1 rs15)) 71) :: (.blk b11 (enc (FlushR.mk Flush.zero (Vector.replicate 6 ⟨[], Sl.nil⟩ : Vector (LR Int) 6))) 71) :: (.blk b1 (enc (FlushR.mk a0 rs_a0_2)) 71) :: L) ⟨rfl, trivial⟩ rfl ?_
  replace H := HKo147
  refine Lst.r (Ev.assign rfl) ?_
  refine Lst.nil ?_
  refine At.then ?_
  obtain rfl := some_inj H
  refine Cd.ret ?_
  refine At.then_ret ?_
  exact At.ret1 rfl (Res.tmp rfl) (FLe.trans (FLe.trans (FLe.trans (FLe.trans (FLe.trans (FLe.trans (FLe.trans (FLe.trans (FLe.trans (FLe.trans hF19 hF30) hF41) hF55) hF97) hF112) hF121) hF126) hF135) hF146) hF151) (sc1 (sc1 (sc1 (sc1 (sc1 (sc1 (sc1 (sc1 (.refl _))))))))) ⟨rfl, rfl⟩
 replace H := ite_f hb103 H
 refine Cd.condF rfl hb103 ?_
 refine Cd.skip ?_
 refine At.then ?_
 refine Cd.seq ?_
 refine Cd.region ?_
 refine Lst.r (Ev.fieldAddr (off' := 0) rfl Try.runUnderlying71 rfl Try.sizeOf68 rfl rfl) ?_
 refine Lst.r (Ev.loadA (i := 7) rfl rfl Try.isAgg68 Try.sizeOf68 (ch := enc a0.View_) (Enc.len _) ((FlushR.get_View_ (Get.here _)).off (by rfl))) ?_
 refine Lst.r (Ev.fieldAddr (off' := 2) rfl Try.runUnderlying71 rfl Try.sizeOf5 rfl rfl) ?_
 refine Lst.r (Ev.load (i := 7) rfl rfl Try.isAgg5 (v := .int .u8 a0.Gone.toNat) ((FlushR.get_Gone (Get.here _)).off (by rfl))) ?_
 refine Lst.r (Ev.move rfl) ?_
 obtain ⟨r152, h153, H⟩ := bind_some H
 refine Lst.call1 rfl rfl (by decide) (vs := [.agg (enc a0.View_).toArray, .int .u8 a0.Gone.toNat, .int .u8 a4.toNat]) ⟨rfl, rfl, rfl, trivial⟩ Try.call48 (partref_NextView_sim h153 w0 _ M _ (sc8 hM)) ?_
 refine Lst.r (Ev.move rfl) ?_
 refine Lst.r (Ev.extract rfl rfl) ?_
 refine Lst.r (Ev.extract rfl rfl) ?_
 refine Lst.alloc (cs := enc View.zero) rfl rfl (by decide) Try.zeroValue68 rfl (fun b156 => ?_)
 refine Lst.store (i := 0) rfl rfl rfl rfl rfl Try.sizeOf68 (vs := enc r152.1) rfl (Enc.len _) (Enc.one _) (cs' := enc r152.1) (Put.here ((Enc.len _).trans (Enc.len _).symm)) (L' := (.blk b156 (enc r152.1) 68) :: (.blk b62 (enc rs51) 69) :: (.rows (α := Int) 3 ((Vector.replicate 6 ⟨[], Sl.nil⟩ : Vector (LR Int) 6).toList)) :: (.blk b58 (enc (FlushR.mk r46.1 rs48)) 71) :: (.blk b44 (enc (FlushR.mk r35.1 rs37)) 71) :: (.blk b33 (enc (FlushR.mk r24.1 rs26)) 71) :: (.blk b22 (enc (FlushR.mk r13.1 rs15)) 71) :: (.blk b11 (enc (FlushR.mk Flush.zero (Vector.replicate 6 ⟨[], Sl.nil⟩ : Vector (LR Int) 6))) 71) :: (.blk b1 (enc (FlushR.mk a0 rs_a0_2)) 71) :: L) rfl ?_
 refine Lst.r (Ev.assign rfl) ?_
 refine Lst.nil ?_
 refine At.then ?_
 obtain ⟨o158, H, HKo158⟩ := andThen_some H
 refine Cd.join (σ := Unit) (fun (_ : Unit) => [(2, iv a2), (3, iv a3), (5, pv b1 0), (12, pv b11 0), (15, pv b33 0), (16, iv r24.2), (17, pv b44 0), (18, iv r35.2)]) (fun (_ : Unit) => (.blk b156 (enc r152.1) 68) :: (.blk b62 (enc rs51) 69) :: (.rows (α := Int) 3 ((Vector.replicate 6 ⟨[], Sl.nil⟩ : Vector (LR Int) 6).toList)) :: (.blk b58 (enc (FlushR.mk r46.1 rs48)) 71) :: (.blk b44 (enc (FlushR.mk r35.1 rs37)) 71) :: (.blk b33 (enc (FlushR.mk r24.1 rs26)) 71) :: (.blk b22 (enc (FlushR.mk r13.1 rs15)) 71) :: (.blk b11 (enc (FlushR.mk Flush.zero (Vector.replicate 6 ⟨[], Sl.nil⟩ : Vector (LR Int) 6))) 71) :: (.blk b1 (enc (FlushR.mk a0 rs_a0_2)) 71) :: L) (fun _ (_ : Unit) => .inl () = o158) ?_ ?_
 ·refine Cd.seq ?_
  refine Cd.as (e' := [(2, iv a2), (3, iv a3), (5, pv b1 0), (12, pv b11 0), (15, pv b33 0), (16, iv r24.2), (17, pv b44 0), (18, iv r35.2), (19, pv b58 0), (20, pv b62 0), (21, iv r46.2.2), (23, pv b156 0), (24, iv r152.2)]) (L' := (.blk b156 (enc r152.1) 68) :: (.blk b62 (enc rs51) 69) :: (.rows (α := Int) 3 ((Vector.replicate 6 ⟨[], Sl.nil⟩ : Vector (LR Int) 6).toList)) :: (.blk b58 (enc (FlushR.mk r46.1 rs48)) 71) :: (.blk b44 (enc (FlushR.mk r35.1 rs37)) 71) :: (.blk b33 (enc (FlushR.mk r24.1 rs26)) 71) :: (.blk b22 (enc (FlushR.mk r13.1 rs15)) 71) :: (.blk b11 (enc (FlushR.mk Flush.zero (Vector.replicate 6 ⟨[], Sl.nil⟩ : Vector (LR Int) 6))) 71) :: (.blk b1 (enc (FlushR.mk a0 rs_a0_2)) 71) :: L) ⟨rfl, rfl, rfl, rfl, rfl, rfl, rfl, rfl, rfl, rfl, rfl, rfl, rfl, trivial⟩ rfl ?_
  refine Cd.region ?_
  refine Lst.r (Ev.move rfl) ?_
  refine Lst.r (Ev.neq rfl rfl) ?_
  refine Lst.nil ?_
  refine At.then ?_
  rcases Bool.eq_false_or_eq_true (r152.2 != (0 : Int)) with hb159 | hb159
  ·replace H := ite_t hb159 H
   refine Cd.condT rfl hb159 ?_
   refine Cd.seq ?_
   refine Cd.region ?_
   refine Lst.r (Ev.loadA (i := 3) rfl rfl Try.isAgg71 Try.sizeOf71 (ch := enc (FlushR.mk r46.1 rs48)) (Enc.len _) (Get.here _)) ?_
   refine Lst.r (Ev.loadA (i := 7) rfl rfl Try.isAgg71 Try.sizeOf71 (ch := enc (FlushR.mk Flush.zero (Vector.replicate 6 ⟨[], Sl.nil⟩ : Vector (LR Int) 6))) (Enc.len _) (Get.here _)) ?_
   obtain ⟨r160, h161, H⟩ := bind_some H
   refine Lst.call1 rfl rfl (by decide) (vs := [.agg (enc (FlushR.mk r46.1 rs48)).toArray, .agg (enc (FlushR.mk Flush.zero (Vector.replicate 6 ⟨[], Sl.nil⟩ : Vector (LR Int) 6))).toArray]) ⟨rfl, rfl, trivial⟩ Try.call45 (partref_SameFlush_sim h161 w0 _ M _ (sc8 (sc1 hM)) fm49 (All.monoLR fa50 hF97 (.refl _)) hm7 (All.monoLR ha8 (FLe.trans (FLe.trans (FLe.trans (FLe.trans hF19 hF30) hF41) hF55) hF97) (List.nil_sublist _))) ?_
   refine Lst.r (Ev.not rfl) ?_
   refine Lst.r (Ev.move rfl) ?_
   obtain ⟨o164, H, HKo164⟩ := bind_some H
   refine Lst.join (σ := Bool) 5 (fun y165 => [(2, iv a2), (3, iv a3), (5, pv b1 0), (12, pv b11 0), (15, pv b33 0), (16, iv r24.2), (17, pv b44 0), (18, iv r35.2), (21, iv r46.2.2), (24, iv r152.2), (138, .bool y165)]) (fun y165 => (.blk b156 (enc r152.1) 68) :: (.blk b62 (enc rs51) 69) :: (.rows (α := Int) 3 ((Vector.replicate 6 ⟨[], Sl.nil⟩ : Vector (LR Int) 6).toList)) :: (.blk b58 (enc (FlushR.mk r46.1 rs48)) 71) :: (.blk b44 (enc (FlushR.mk r35.1 rs37)) 71) :: (.blk b33 (enc (FlushR.mk r24.1 rs26)) 71) :: (.blk b22 (enc (FlushR.mk r13.1 rs15)) 71) :: (.blk b11 (enc (FlushR.mk Flush.zero (Vector.replicate 6 ⟨[], Sl.nil⟩ : Vector (LR Int) 6))) 71) :: (.blk b1 (enc (FlushR.mk a0 rs_a0_2)) 71) :: L) (fun _ y165 => y165 = o164) ?_ ?_
   ·rcases Bool.eq_false_or_eq_true (!r160) with hb166 | hb166
    ·replace H := ite_t hb166 H
     refine Lst.skip rfl rfl rfl hb166 rfl (by decide) ?_
     refine Lst.skip rfl rfl rfl hb166 rfl (by decide) ?_
     refine Lst.skip rfl rfl rfl hb166 rfl (by decide) ?_
     refine Lst.skip rfl rfl rfl hb166 rfl (by decide) ?_
     refine Lst.r (Ev.pickT rfl hb166 rfl) ?_
     refine Lst.nil ?_
     exact At.meet true (FLe.refl _) ⟨rfl, rfl, rfl, rfl, rfl, rfl, rfl, rfl, rfl, rfl, rfl, trivial⟩ rfl (some_inj H)
    replace H := ite_f hb166 H
    refine Lst.rG hb166 (Ev.loadA (i := 1) rfl rfl Try.isAgg69 Try.sizeOf69 (ch := enc rs51) (Enc.len _) (Get.here _)) ?_
    have hm167 : (Vector.replicate 6 ⟨[], Sl.nil⟩ : Vector (LR Int) 6).toList.map LR.v = (Vector.replicate 6 [] : Vector (List Int) 6).toList := vmap_rep _ _
    have ha168 : All LR.rel w0 F96 [] (Vector.replicate 6 ⟨[], Sl.nil⟩ : Vector (LR Int) 6).toList := vAll_rep Rd.nil
    refine Lst.rG hb166 (Ev.build (v := .agg (enc (Vector.replicate 6 ⟨[], Sl.nil⟩ : Vector (LR Int) 6)).toArray) (pv := []) trivial (fun w => by kernel_rfl)) ?_
    obtain ⟨r169, h170, H⟩ := bind_some H
    refine Lst.call1G rfl rfl rfl hb166 rfl (by decide) (vs := [.agg (enc rs51).toArray, .agg (enc (Vector.replicate 6 ⟨[], Sl.nil⟩ : Vector (LR Int) 6)).toArray]) ⟨rfl, rfl, trivial⟩ Try.call47 (partlaw_sameLists_sim h170 w0 _ M _ (sc8 (sc1 hM)) fm52 (All.monoLR fa53 hF97 (List.nil_sublist _)) hm167 (All.monoLR ha168 (FLe.refl _) (List.nil_sublist _))) ?_
    refine Lst.rG hb166 (Ev.not rfl) ?_
    refine Lst.r (Ev.pickF rfl hb166 rfl) ?_
    refine Lst.nil ?_
    exact At.meet (!r169) (FLe.refl _) ⟨rfl, rfl, rfl, rfl, rfl, rfl, rfl, rfl, rfl, rfl, rfl, trivial⟩ rfl (some_inj H)
   rintro F173 y165 hF174 hy
   subst hy
   refine Lst.as (e' := [(2, iv a2), (3, iv a3), (5, pv b1 0), (12, pv b11 0), (15, pv b33 0), (16, iv r24.2), (17, pv b44 0), (18, iv r35.2), (21, iv r46.2.2), (24, iv r152.2), (138, .bool y165)]) (L' := (.blk b156 (enc r152.1) 68) :: (.blk b62 (enc rs51) 69) :: (.rows (α := Int) 3 ((Vector.replicate 6 ⟨[], Sl.nil⟩ : Vector (LR Int) 6).toList)) :: (.blk b58 (enc (FlushR.mk r46.1 rs48)) 71) :: (.blk b44 (enc (FlushR.mk r35.1 rs37)) 71) :: (.blk b33 (enc (FlushR.mk r24.1 rs26)) 71) :: (.blk b22 (enc (FlushR.mk r13.1 rs15)) 71) :: (.blk b11 (enc (FlushR.mk Flush.zero (Vector.replicate 6 ⟨[], Sl.nil⟩ : Vector (LR Int) 6))) 71) :: (.blk b1 (enc (FlushR.mk a0 rs_a0_2)) 71) :: L) ⟨rfl, rfl, rfl, rfl, rfl, rfl, rfl, rfl, rfl, rfl, rfl, trivial⟩ rfl ?_
   replace H := HKo164
   refine Lst.r (Ev.move rfl) ?_
   obtain ⟨o175, H, HKo175⟩ := bind_some H
   refine Lst.join (σ := Bool) 4 (fun y176 => [(2, iv a2), (3, iv a3), (5, pv b1 0), (12, pv b11 0), (15, pv b33 0), (16, iv r24.2), (17, pv b44 0), (18, iv r35.2), (143, .bool y176)]) (fun y176 => (.blk b156 (enc r152.1) 68) :: (.blk b62 (enc rs51) 69) :: (.rows (α := Int) 3 ((Vector.replicate 6 ⟨[], Sl.nil⟩ : Vector (LR Int) 6).toList)) :: (.blk b58 (enc (FlushR.mk r46.1 rs48)) 71) :: (.blk b44 (enc (FlushR.mk r35.1 rs37)) 71) :: (.blk b33 (enc (FlushR.mk r24.1 rs26)) 71) :: (.blk b22 (enc (FlushR.mk r13.1 rs15)) 71) :: (.blk b11 (enc (FlushR.mk Flush.zero (Vector.replicate 6 ⟨[], Sl.nil⟩ : Vector (LR Int) 6))) 71) :: (.blk b1 (enc (FlushR.mk a0 rs_a0_2)) 71) :: L) (fun _ y176 => y176 = o175) ?_ ?_
   ·rcases Bool.eq_false_or_eq_true y165 with hb177 | hb177
    ·replace H := ite_t hb177 H
     refine Lst.skip rfl rfl rfl hb177 rfl (by decide) ?_
     refine Lst.skip rfl rfl rfl hb177 rfl (by decide) ?_
     refine Lst.skip rfl rfl rfl hb177 rfl (by decide) ?_
     refine Lst.r (Ev.pickT rfl hb177 rfl) ?_
     refine Lst.nil ?_
     exact At.meet true (FLe.refl _) ⟨rfl, rfl, rfl, rfl, rfl, rfl, rfl, rfl, rfl, trivial⟩ rfl (some_inj H)
    replace H := ite_f hb177 H
    refine Lst.rG hb177 (Ev.move rfl) ?_
    refine Lst.rG hb177 (Ev.move rfl) ?_
    refine Lst.rG hb177 (Ev.neq rfl rfl) ?_
    refine Lst.r (Ev.pickF rfl hb177 rfl) ?_
    refine Lst.nil ?_
    exact At.meet (r46.2.2 != r152.2) (FLe.refl _) ⟨rfl, rfl, rfl, rfl, rfl, rfl, rfl, rfl, rfl, trivial⟩ rfl (some_inj H)
   rintro F178 y176 hF179 hy
   subst hy
   refine Lst.as (e' := [(2, iv a2), (3, iv a3), (5, pv b1 0), (12, pv b11 0), (15, pv b33 0), (16, iv r24.2), (17, pv b44 0), (18, iv r35.2), (143, .bool y176)]) (L' := (.blk b156 (enc r152.1) 68) :: (.blk b62 (enc rs51) 69) :: (.rows (α := Int) 3 ((Vector.replicate 6 ⟨[], Sl.nil⟩ : Vector (LR Int) 6).toList)) :: (.blk b58 (enc (FlushR.mk r46.1 rs48)) 71) :: (.blk b44 (enc (FlushR.mk r35.1 rs37)) 71) :: (.blk b33 (enc (FlushR.mk r24.1 rs26)) 71) :: (.blk b22 (enc (FlushR.mk r13.1 rs15)) 71) :: (.blk b11 (enc (FlushR.mk Flush.zero (Vector.replicate 6 ⟨[], Sl.nil⟩ : Vector (LR Int) 6))) 71) :: (.blk b1 (enc (FlushR.mk a0 rs_a0_2)) 71) :: L) ⟨rfl, rfl, rfl, rfl, rfl, rfl, rfl, rfl, rfl, trivial⟩ rfl ?_
   replace H := HKo175
   refine Lst.nil ?_
   refine At.then ?_
   rcases Bool.eq_false_or_eq_true y176 with hb180 | hb180
   ·replace H := ite_t hb180 H
    refine Cd.condT rfl hb180 ?_
    refine Cd.seq ?_
    refine Cd.region ?_
    refine Lst.r (Ev.assign rfl) ?_
    refine Lst.nil ?_
    refine At.then ?_
    obtain rfl := some_inj H
    replace H := HKo158
    obtain rfl := some_inj H
    refine Cd.ret ?_
    refine At.then_ret ?_
    exact At.ret1 rfl (Res.tmp rfl) (FLe.trans (FLe.trans (FLe.trans (FLe.trans (FLe.trans (FLe.trans hF19 hF30) hF41) hF55) hF97) hF174) hF179) (sc1 (sc1 (sc1 (sc1 (sc1 (sc1 (sc1 (sc1 (sc1 (.refl _)))))))))) ⟨rfl, rfl⟩
   replace H := ite_f hb180 H
   refine Cd.condF rfl hb180 ?_
   refine Cd.skip ?_
   exact At.meet () (FLe.trans hF174 hF179) ⟨rfl, rfl, rfl, rfl, rfl, rfl, rfl, rfl, trivial⟩ rfl (some_inj H)
  replace H := ite_f hb159 H
  refine Cd.condF rfl hb159 ?_
  refine Cd.seq ?_
  obtain ⟨r183, h184, H⟩ := bind_some H
  rcases Bool.eq_false_or_eq_true (!r183) with hb187 | hb187
  ·replace H := ite_t hb187 H
   refine Cd.headMeet (σ := Unit) 9 (fun (_ : Unit) => [(2, iv a2), (3, iv a3), (5, pv b1 0), (12, pv b11 0), (15, pv b33 0), (16, iv r24.2), (17, pv b44 0), (18, iv r35.2), (21, iv r46.2.2), (149, .bool (!r183)), (150, undef), (152, undef)]) (fun (_ : Unit) => (.blk b156 (enc r152.1) 68) :: (.blk b62 (enc rs51) 69) :: (.rows (α := Int) 3 ((Vector.replicate 6 ⟨[], Sl.nil⟩ : Vector (LR Int) 6).toList)) :: (.blk b58 (enc (FlushR.mk r46.1 rs48)) 71) :: (.blk b44 (enc (FlushR.mk r35.1 rs37)) 71) :: (.blk b33 (enc (FlushR.mk r24.1 rs26)) 71) :: (.blk b22 (enc (FlushR.mk r13.1 rs15)) 71) :: (.blk b11 (enc (FlushR.mk Flush.zero (Vector.replicate 6 ⟨[], Sl.nil⟩ : Vector (LR Int) 6))) 71) :: (.blk b1 (enc (FlushR.mk a0 rs_a0_2)) 71) :: L) (fun _ (_ : Unit) => True) (by kernel_rfl) (by kernel_rfl) (behind_sink (by kernel_rfl) (by kernel_rfl) (by kernel_rfl)) (by kernel_rfl) (fun hsel hlt => ?_) ?_
   ·refine HdJ.keep (fun w => St w0 F96 ((.blk b156 (enc r152.1) 68) :: (.blk b62 (enc rs51) 69) :: (.rows (α := Int) 3 ((Vector.replicate 6 ⟨[], Sl.nil⟩ : Vector (LR Int) 6).toList)) :: (.blk b58 (enc (FlushR.mk r46.1 rs48)) 71) :: (.blk b44 (enc (FlushR.mk r35.1 rs37)) 71) :: (.blk b33 (enc (FlushR.mk r24.1 rs26)) 71) :: (.blk b22 (enc (FlushR.mk r13.1 rs15)) 71) :: (.blk b11 (enc (FlushR.mk Flush.zero (Vector.replicate 6 ⟨[], Sl.nil⟩ : Vector (LR Int) 6))) 71) :: (.blk b1 (enc (FlushR.mk a0 rs_a0_2)) 71) :: L) w) (fun w h => trivial) ?_
    refine HdJ.tk hsel hlt 0 (fun w h => h.sublist (sk1 (sk1 (sk1 (sk1 (sk1 (sk1 (sk1 (sk1 (sk1 (.refl _))))))))))) rfl (Ev.loadA (i := 3) rfl rfl Try.isAgg71 Try.sizeOf71 (ch := enc (FlushR.mk r46.1 rs48)) (Enc.len _) (Get.here _)) ?_
    refine HdJ.tk hsel hlt 1 (fun w h => h.sublist (sk1 (sk1 (sk1 (sk1 (sk1 (sk1 (sk1 (sk1 (sk1 (.refl _))))))))))) rfl (Ev.loadA (i := 0) rfl rfl Try.isAgg68 Try.sizeOf68 (ch := enc r152.1) (Enc.len _) (Get.here _)) ?_
    have hm191 : (Vector.replicate 6 ⟨[], Sl.nil⟩ : Vector (LR Int) 6).toList.map LR.v = (Vector.replicate 6 [] : Vector (List Int) 6).toList := vmap_rep _ _
    have ha192 : All LR.rel w0 F96 [] (Vector.replicate 6 ⟨[], Sl.nil⟩ : Vector (LR Int) 6).toList := vAll_rep Rd.nil
    refine HdJ.tk hsel hlt 2 (fun w h => h.sublist (sk1 (sk1 (sk1 (sk1 (sk1 (sk1 (sk1 (sk1 (sk1 (.refl _))))))))))) rfl (Ev.build (v := .agg (enc (FlushR.mk ({ Flush.zero with View_ := r152.1 } : Flush) (Vector.replicate 6 ⟨[], Sl.nil⟩ : Vector (LR Int) 6))).toArray) (pv := [(0, .agg (enc r152.1).toArray)]) ⟨rfl, rfl, trivial⟩ (run_buildStruct (places := #[(0, 2), (2, 1), (3, 6)]) Try.zeroValue71 (zs := enc (FlushR.mk Flush.zero (Vector.replicate 6 ⟨[], Sl.nil⟩ : Vector (LR Int) 6))) rfl Try.runUnderlying71 (fun w => by kernel_rfl) (fill_cons (cs := enc (FlushR.mk Flush.zero (Vector.replicate 6 ⟨[], Sl.nil⟩ : Vector (LR Int) 6))) (cs' := enc (FlushR.mk ({ Flush.zero with View_ := r152.1 } : Flush) (Vector.replicate 6 ⟨[], Sl.nil⟩ : Vector (LR Int) 6))) (vs := enc r152.1) rfl rfl (Enc.len _) ((FlushR.put_View_ (p := (FlushR.mk Flush.zero (Vector.replicate 6 ⟨[], Sl.nil⟩ : Vector (LR Int) 6))) (y := r152.1) (Put.here ((Enc.len _).trans (Enc.len _).symm))).off rfl) fill_nil))) ?_
    refine HdJ.step [3] (by kernel_rfl) rfl ?_
    refine HdStep.c (fun inv => ?_) ?_
    ·refine Lst.call1 rfl rfl (by decide) (vs := [.agg (enc (FlushR.mk r46.1 rs48)).toArray, .agg (enc (FlushR.mk ({ Flush.zero with View_ := r152.1 } : Flush) (Vector.replicate 6 ⟨[], Sl.nil⟩ : Vector (LR Int) 6))).toArray]) ⟨rfl, rfl, trivial⟩ Try.call45 (partref_SameFlush_sim h184 w0 _ M _ (sc8 (sc1 hM)) fm49 (All.monoLR fa50 hF97 (.refl _)) hm191 (All.monoLR ha192 (FLe.refl _) (List.nil_sublist _))) ?_
     refine Lst.nil ?_
     refine At.hd inv (fun w h => (h.weaken (FLe.refl _)).sublist (sk1 (sk1 (sk1 (sk1 (sk1 (sk1 (sk1 (sk1 (sk1 (.refl _))))))))))) ?_
     refine HdJ.tk hsel hlt 4 (fun w h => h.sublist (sk1 (sk1 (sk1 (sk1 (sk1 (sk1 (sk1 (sk1 (sk1 (.refl _))))))))))) rfl (Ev.not rfl) ?_
     refine HdJ.tk hsel hlt 5 (fun w h => h.sublist (sk1 (sk1 (sk1 (sk1 (sk1 (sk1 (sk1 (sk1 (sk1 (.refl _))))))))))) rfl (Ev.move rfl) ?_
     refine HdJ.takeS (i := 6) rfl rfl (by decide) hsel hlt (by decide) (by kernel_rfl) (by kernel_rfl) (fun w h => h.sublist (sk1 (sk1 (sk1 (sk1 (sk1 (sk1 (sk1 (sk1 (sk1 (.refl _))))))))))) rfl rfl rfl hb187 ?_
     refine HdJ.takeS (i := 7) rfl rfl (by decide) hsel hlt (by decide) (by kernel_rfl) (by kernel_rfl) (fun w h => h.sublist (sk1 (sk1 (sk1 (sk1 (sk1 (sk1 (sk1 (sk1 (sk1 (.refl _))))))))))) rfl rfl rfl hb187 ?_
     refine HdJ.takeS (i := 8) rfl rfl (by decide) hsel hlt (by decide) (by kernel_rfl) (by kernel_rfl) (fun w h => h.sublist (sk1 (sk1 (sk1 (sk1 (sk1 (sk1 (sk1 (sk1 (sk1 (.refl _))))))))))) rfl rfl rfl hb187 ?_
     refine HdJ.done (by kernel_rfl) ?_
     exact At.meetN () (FLe.refl _) ⟨rfl, rfl, rfl, rfl, rfl, rfl, rfl, rfl, rfl, rfl, rfl, rfl, trivial⟩ rfl trivial
    exact trivial
   rintro F195 _u hF196 hy
   refine Lst.as (e' := [(2, iv a2), (3, iv a3), (5, pv b1 0), (12, pv b11 0), (15, pv b33 0), (16, iv r24.2), (17, pv b44 0), (18, iv r35.2), (21, iv r46.2.2), (149, .bool (!r183)), (150, undef), (152, undef)]) (L' := (.blk b156 (enc r152.1) 68) :: (.blk b62 (enc rs51) 69) :: (.rows (α := Int) 3 ((Vector.replicate 6 ⟨[], Sl.nil⟩ : Vector (LR Int) 6).toList)) :: (.blk b58 (enc (FlushR.mk r46.1 rs48)) 71) :: (.blk b44 (enc (FlushR.mk r35.1 rs37)) 71) :: (.blk b33 (enc (FlushR.mk r24.1 rs26)) 71) :: (.blk b22 (enc (FlushR.mk r13.1 rs15)) 71) :: (.blk b11 (enc (FlushR.mk Flush.zero (Vector.replicate 6 ⟨[], Sl.nil⟩ : Vector (LR Int) 6))) 71) :: (.blk b1 (enc (FlushR.mk a0 rs_a0_2)) 71) :: L) ⟨rfl, rfl, rfl, rfl, rfl, rfl, rfl, rfl, rfl, rfl, rfl, rfl, trivial⟩ rfl ?_
   refine Lst.skip rfl rfl rfl hb187 rfl (by decide) ?_
   refine Lst.skip rfl rfl rfl hb187 rfl (by decide) ?_
   refine Lst.r (Ev.pickT rfl hb187 rfl) ?_
   refine Lst.r (Ev.move rfl) ?_
   refine Lst.skip rfl rfl rfl rfl rfl (by decide) ?_
   refine Lst.skip rfl rfl rfl rfl rfl (by decide) ?_
   refine Lst.r (Ev.pickT rfl rfl rfl) ?_
   refine Lst.nil ?_
   refine At.then ?_
   refine Cd.condT rfl rfl ?_
   refine Cd.seq ?_
   refine Cd.as (e' := []) (L' := (.blk b156 (enc r152.1) 68) :: (.blk b62 (enc rs51) 69) :: (.rows (α := Int) 3 ((Vector.replicate 6 ⟨[], Sl.nil⟩ : Vector (LR Int) 6).toList)) :: (.blk b58 (enc (FlushR.mk r46.1 rs48)) 71) :: (.blk b44 (enc (FlushR.mk r35.1 rs37)) 71) :: (.blk b33 (enc (FlushR.mk r24.1 rs26)) 71) :: (.blk b22 (enc (FlushR.mk r13.1 rs15)) 71) :: (.blk b11 (enc (FlushR.mk Flush.zero (Vector.replicate 6 ⟨[], Sl.nil⟩ : Vector (LR Int) 6))) 71) :: (.blk b1 (enc (FlushR.mk a0 rs_a0_2)) 71) :: L) trivial rfl ?_
   refine Cd.region ?_
   refine Lst.r (Ev.assign rfl) ?_
   refine Lst.nil ?_
   refine At.then ?_
   obtain rfl := some_inj H
   replace H := HKo158
   obtain rfl := some_inj H
   refine Cd.ret ?_
   refine At.then_ret ?_
   exact At.ret1 rfl (Res.tmp rfl) (FLe.trans (FLe.trans (FLe.trans (FLe.trans (FLe.trans hF19 hF30) hF41) hF55) hF97) hF196) (sc1 (sc1 (sc1 (sc1 (sc1 (sc1 (sc1 (sc1 (sc1 (.refl _)))))))))) ⟨rfl, rfl⟩
  replace H := ite_f hb187 H
  obtain ⟨r197, h198, H⟩ := bind_some H
  obtain ⟨o213, h214, H⟩ := Let_some H
  refine Cd.headMeet (σ := (Vector (LR Int) 6) × (Vector (List Int) 6) × (Vector (LR Int) 6) × (Vector (List Int) 6)) 9 (fun (rs205, l206, rs209, l210) => [(2, iv a2), (3, iv a3), (5, pv b1 0), (12, pv b11 0), (15, pv b33 0), (16, iv r24.2), (17, pv b44 0), (18, iv r35.2), (21, iv r46.2.2), (149, .bool (!r183)), (150, .agg (enc rs205).toArray), (152, .agg (enc rs209).toArray)]) (fun (rs205, l206, rs209, l210) => (.rows (α := Int) 3 rs209.toList) :: (.blk b156 (enc r152.1) 68) :: (.blk b62 (enc rs51) 69) :: (.rows (α := Int) 3 ((Vector.replicate 6 ⟨[], Sl.nil⟩ : Vector (LR Int) 6).toList)) :: (.blk b58 (enc (FlushR.mk r46.1 rs48)) 71) :: (.blk b44 (enc (FlushR.mk r35.1 rs37)) 71) :: (.blk b33 (enc (FlushR.mk r24.1 rs26)) 71) :: (.blk b22 (enc (FlushR.mk r13.1 rs15)) 71) :: (.blk b11 (enc (FlushR.mk Flush.zero (Vector.replicate 6 ⟨[], Sl.nil⟩ : Vector (LR Int) 6))) 71) :: (.blk b1 (enc (FlushR.mk a0 rs_a0_2)) 71) :: L) (fun Fx (rs205, l206, rs209, l210) => (l206, l210) = o213 ∧ rs205.toList.map LR.v = l206.toList ∧ All LR.rel w0 Fx M rs205.toList ∧ rs209.toList.map LR.v = l210.toList) (by kernel_rfl) (by kernel_rfl) (behind_sink (by kernel_rfl) (by kernel_rfl) (by kernel_rfl)) (by kernel_rfl) (fun hsel hlt => ?_) ?_
  ·refine HdJ.keep (fun w => St w0 F96 ((.blk b156 (enc r152.1) 68) :: (.blk b62 (enc rs51) 69) :: (.rows (α := Int) 3 ((Vector.replicate 6 ⟨[], Sl.nil⟩ : Vector (LR Int) 6).toList)) :: (.blk b58 (enc (FlushR.mk r46.1 rs48)) 71) :: (.blk b44 (enc (FlushR.mk r35.1 rs37)) 71) :: (.blk b33 (enc (FlushR.mk r24.1 rs26)) 71) :: (.blk b22 (enc (FlushR.mk r13.1 rs15)) 71) :: (.blk b11 (enc (FlushR.mk Flush.zero (Vector.replicate 6 ⟨[], Sl.nil⟩ : Vector (LR Int) 6))) 71) :: (.blk b1 (enc (FlushR.mk a0 rs_a0_2)) 71) :: L) w) (fun w h => trivial) ?_
   refine HdJ.tk hsel hlt 0 (fun w h => h.sublist (sk1 (sk1 (sk1 (sk1 (sk1 (sk1 (sk1 (sk1 (sk1 (.refl _))))))))))) rfl (Ev.loadA (i := 3) rfl rfl Try.isAgg71 Try.sizeOf71 (ch := enc (FlushR.mk r46.1 rs48)) (Enc.len _) (Get.here _)) ?_
   refine HdJ.tk hsel hlt 1 (fun w h => h.sublist (sk1 (sk1 (sk1 (sk1 (sk1 (sk1 (sk1 (sk1 (sk1 (.refl _))))))))))) rfl (Ev.loadA (i := 0) rfl rfl Try.isAgg68 Try.sizeOf68 (ch := enc r152.1) (Enc.len _) (Get.here _)) ?_
   have hm215 : (Vector.replicate 6 ⟨[], Sl.nil⟩ : Vector (LR Int) 6).toList.map LR.v = (Vector.replicate 6 [] : Vector (List Int) 6).toList := vmap_rep _ _
   have ha216 : All LR.rel w0 F96 [] (Vector.replicate 6 ⟨[], Sl.nil⟩ : Vector (LR Int) 6).toList := vAll_rep Rd.nil
   refine HdJ.tk hsel hlt 2 (fun w h => h.sublist (sk1 (sk1 (sk1 (sk1 (sk1 (sk1 (sk1 (sk1 (sk1 (.refl _))))))))))) rfl (Ev.build (v := .agg (enc (FlushR.mk ({ Flush.zero with View_ := r152.1 } : Flush) (Vector.replicate 6 ⟨[], Sl.nil⟩ : Vector (LR Int) 6))).toArray) (pv := [(0, .agg (enc r152.1).toArray)]) ⟨rfl, rfl, trivial⟩ (run_buildStruct (places := #[(0, 2), (2, 1), (3, 6)]) Try.zeroValue71 (zs := enc (FlushR.mk Flush.zero (Vector.replicate 6 ⟨[], Sl.nil⟩ : Vector (LR Int) 6))) rfl Try.runUnderlying71 (fun w => by kernel_rfl) (fill_cons (cs := enc (FlushR.mk Flush.zero (Vector.replicate 6 ⟨[], Sl.nil⟩ : Vector (LR Int) 6))) (cs' := enc (FlushR.mk ({ Flush.zero with View_ := r152.1 } : Flush) (Vector.replicate 6 ⟨[], Sl.nil⟩ : Vector (LR Int) 6))) (vs := enc r152.1) rfl rfl (Enc.len _) ((FlushR.put_View_ (p := (FlushR.mk Flush.zero (Vector.replicate 6 ⟨[], Sl.nil⟩ : Vector (LR Int) 6))) (y := r152.1) (Put.here ((Enc.len _).trans (Enc.len _).symm))).off rfl) fill_nil))) ?_
   refine HdJ.step [3] (by kernel_rfl) rfl ?_
   refine HdStep.c (fun inv => ?_) ?_
   ·refine Lst.call1 rfl rfl (by decide) (vs := [.agg (enc (FlushR.mk r46.1 rs48)).toArray, .agg (enc (FlushR.mk ({ Flush.zero with View_ := r152.1 } : Flush) (Vector.replicate 6 ⟨[], Sl.nil⟩ : Vector (LR Int) 6))).toArray]) ⟨rfl, rfl, trivial⟩ Try.call45 (partref_SameFlush_sim h184 w0 _ M _ (sc8 (sc1 hM)) fm49 (All.monoLR fa50 hF97 (.refl _)) hm215 (All.monoLR ha216 (FLe.refl _) (List.nil_sublist _))) ?_
    refine Lst.nil ?_
    refine At.hd inv (fun w h => (h.weaken (FLe.refl _)).sublist (sk1 (sk1 (sk1 (sk1 (sk1 (sk1 (sk1 (sk1 (sk1 (.refl _))))))))))) ?_
    refine HdJ.tk hsel hlt 4 (fun w h => h.sublist (sk1 (sk1 (sk1 (sk1 (sk1 (sk1 (sk1 (sk1 (sk1 (.refl _))))))))))) rfl (Ev.not rfl) ?_
    refine HdJ.tk hsel hlt 5 (fun w h => h.sublist (sk1 (sk1 (sk1 (sk1 (sk1 (sk1 (sk1 (sk1 (sk1 (.refl _))))))))))) rfl (Ev.move rfl) ?_
    refine HdJ.takeG (i := 6) (Lp := (.blk b156 (enc r152.1) 68) :: (.blk b62 (enc rs51) 69) :: (.rows (α := Int) 3 ((Vector.replicate 6 ⟨[], Sl.nil⟩ : Vector (LR Int) 6).toList)) :: (.blk b58 (enc (FlushR.mk r46.1 rs48)) 71) :: (.blk b44 (enc (FlushR.mk r35.1 rs37)) 71) :: (.blk b33 (enc (FlushR.mk r24.1 rs26)) 71) :: (.blk b22 (enc (FlushR.mk r13.1 rs15)) 71) :: (.blk b11 (enc (FlushR.mk Flush.zero (Vector.replicate 6 ⟨[], Sl.nil⟩ : Vector (LR Int) 6))) 71) :: (.blk b1 (enc (FlushR.mk a0 rs_a0_2)) 71) :: L) (Fp := F96) rfl rfl (by decide) hsel hlt (by decide) (by kernel_rfl) (by kernel_rfl) (fun w h => h.sublist (sk1 (sk1 (sk1 (sk1 (sk1 (sk1 (sk1 (sk1 (sk1 (.refl _))))))))))) rfl rfl rfl hb187 (fun w h => h) (Ev.loadA (i := 1) rfl rfl Try.isAgg69 Try.sizeOf69 (ch := enc rs51) (Enc.len _) (Get.here _)) ?_
    refine HdJ.takeG (i := 7) (Lp := (.blk b156 (enc r152.1) 68) :: (.blk b62 (enc rs51) 69) :: (.rows (α := Int) 3 ((Vector.replicate 6 ⟨[], Sl.nil⟩ : Vector (LR Int) 6).toList)) :: (.blk b58 (enc (FlushR.mk r46.1 rs48)) 71) :: (.blk b44 (enc (FlushR.mk r35.1 rs37)) 71) :: (.blk b33 (enc (FlushR.mk r24.1 rs26)) 71) :: (.blk b22 (enc (FlushR.mk r13.1 rs15)) 71) :: (.blk b11 (enc (FlushR.mk Flush.zero (Vector.replicate 6 ⟨[], Sl.nil⟩ : Vector (LR Int) 6))) 71) :: (.blk b1 (enc (FlushR.mk a0 rs_a0_2)) 71) :: L) (Fp := F96) rfl rfl (by decide) hsel hlt (by decide) (by kernel_rfl) (by kernel_rfl) (fun w h => h.sublist (sk1 (sk1 (sk1 (sk1 (sk1 (sk1 (sk1 (sk1 (sk1 (.refl _))))))))))) rfl rfl rfl hb187 (fun w h => h) (Ev.loadA (i := 8) rfl rfl Try.isAgg71 Try.sizeOf71 (ch := enc (FlushR.mk a0 rs_a0_2)) (Enc.len _) (Get.here _)) ?_
    refine HdJ.step [8] (by kernel_rfl) rfl ?_
    refine HdStep.c (fun inv => ?_) ?_
    ·refine Lst.callG rfl rfl rfl hb187 rfl (by decide) (vs := [.agg (enc (FlushR.mk a0 rs_a0_2)).toArray]) ⟨rfl, trivial⟩ Try.call49 (partref_Missing_sim h198 w0 _ M _ (sc8 (sc1 hM)) hm_a0_2 (All.monoLR ha_a0_2 (FLe.trans (FLe.trans (FLe.trans (FLe.trans hF19 hF30) hF41) hF55) hF97) (.refl _))) (fun F221 L' v hF222 hv => ?_)
     obtain ⟨rs219, rfl, rfl, fm220⟩ := hv
     refine Lst.nil ?_
     refine At.hd inv (fun w h => (h.weaken hF222).sublist (sc1 (sk1 (sk1 (sk1 (sk1 (sk1 (sk1 (sk1 (sk1 (sk1 (.refl _)))))))))))) ?_
     refine HdJ.done (by kernel_rfl) ?_
     exact At.meetN (rs51, r46.2.1, rs219, r197) hF222 ⟨rfl, rfl, rfl, rfl, rfl, rfl, rfl, rfl, rfl, rfl, rfl, rfl, trivial⟩ rfl ⟨h214, fm52, (All.monoLR fa53 (FLe.trans hF97 hF222) (List.nil_sublist _)), fm220⟩
    exact trivial
   exact trivial
  rintro F223 ⟨rs205, l206, rs209, l210⟩ hF224 ⟨hy, fm207, fa208, fm211⟩
  subst hy
  refine Lst.as (e' := [(2, iv a2), (3, iv a3), (5, pv b1 0), (12, pv b11 0), (15, pv b33 0), (16, iv r24.2), (17, pv b44 0), (18, iv r35.2), (21, iv r46.2.2), (149, .bool (!r183)), (150, .agg (enc rs205).toArray), (152, .agg (enc rs209).toArray)]) (L' := (.rows (α := Int) 3 rs209.toList) :: (.blk b156 (enc r152.1) 68) :: (.blk b62 (enc rs51) 69) :: (.rows (α := Int) 3 ((Vector.replicate 6 ⟨[], Sl.nil⟩ : Vector (LR Int) 6).toList)) :: (.blk b58 (enc (FlushR.mk r46.1 rs48)) 71) :: (.blk b44 (enc (FlushR.mk r35.1 rs37)) 71) :: (.blk b33 (enc (FlushR.mk r24.1 rs26)) 71) :: (.blk b22 (enc (FlushR.mk r13.1 rs15)) 71) :: (.blk b11 (enc (FlushR.mk Flush.zero (Vector.replicate 6 ⟨[], Sl.nil⟩ : Vector (LR Int) 6))) 71) :: (.blk b1 (enc (FlushR.mk a0 rs_a0_2)) 71) :: L) ⟨rfl, rfl, rfl, rfl, rfl, rfl, rfl, rfl, rfl, rfl, rfl, rfl, trivial⟩ rfl ?_
  obtain ⟨r225, h226, H⟩ := bind_some H
  refine Lst.call1G rfl rfl rfl hb187 rfl (by decide) (vs := [.agg (enc rs205).toArray, .agg (enc rs209).toArray]) ⟨rfl, rfl, trivial⟩ Try.call47 (partlaw_sameLists_sim h226 w0 _ _ _ (.refl _) fm207 (All.monoLR fa208 (FLe.refl _) (sc8 (sc2 hM))) fm211 (All.rowsHead (j := 0) rfl)) ?_
  refine Lst.rG hb187 (Ev.not rfl) ?_
  refine Lst.r (Ev.pickF rfl hb187 rfl) ?_
  refine Lst.r (Ev.move rfl) ?_
  obtain ⟨o229, H, HKo229⟩ := bind_some H
  refine Lst.join (σ := Bool) 3 (fun y230 => [(2, iv a2), (3, iv a3), (5, pv b1 0), (12, pv b11 0), (15, pv b33 0), (16, iv r24.2), (17, pv b44 0), (18, iv r35.2), (159, .bool y230)]) (fun y230 => (.rows (α := Int) 3 rs209.toList) :: (.blk b156 (enc r152.1) 68) :: (.blk b62 (enc rs51) 69) :: (.rows (α := Int) 3 ((Vector.replicate 6 ⟨[], Sl.nil⟩ : Vector (LR Int) 6).toList)) :: (.blk b58 (enc (FlushR.mk r46.1 rs48)) 71) :: (.blk b44 (enc (FlushR.mk r35.1 rs37)) 71) :: (.blk b33 (enc (FlushR.mk r24.1 rs26)) 71) :: (.blk b22 (enc (FlushR.mk r13.1 rs15)) 71) :: (.blk b11 (enc (FlushR.mk Flush.zero (Vector.replicate 6 ⟨[], Sl.nil⟩ : Vector (LR Int) 6))) 71) :: (.blk b1 (enc (FlushR.mk a0 rs_a0_2)) 71) :: L) (fun _ y230 => y230 = o229) ?_ ?_
  ·rcases Bool.eq_false_or_eq_true (!r225) with hb231 | hb231
   ·replace H := ite_t hb231 H
    refine Lst.skip rfl rfl rfl hb231 rfl (by decide) ?_
    refine Lst.skip rfl rfl rfl hb231 rfl (by decide) ?_
    refine Lst.r (Ev.pickT rfl hb231 rfl) ?_
    refine Lst.nil ?_
    exact At.meet true (FLe.refl _) ⟨rfl, rfl, rfl, rfl, rfl, rfl, rfl, rfl, rfl, trivial⟩ rfl (some_inj H)
   replace H := ite_f hb231 H
   refine Lst.rG hb231 (Ev.move rfl) ?_
   refine Lst.rG hb231 (Ev.neq rfl rfl) ?_
   refine Lst.r (Ev.pickF rfl hb231 rfl) ?_
   refine Lst.nil ?_
   exact At.meet (r46.2.2 != (0 : Int)) (FLe.refl _) ⟨rfl, rfl, rfl, rfl, rfl, rfl, rfl, rfl, rfl, trivial⟩ rfl (some_inj H)
  rintro F232 y230 hF233 hy
  subst hy
  refine Lst.as (e' := [(2, iv a2), (3, iv a3), (5, pv b1 0), (12, pv b11 0), (15, pv b33 0), (16, iv r24.2), (17, pv b44 0), (18, iv r35.2), (159, .bool y230)]) (L' := (.rows (α := Int) 3 rs209.toList) :: (.blk b156 (enc r152.1) 68) :: (.blk b62 (enc rs51) 69) :: (.rows (α := Int) 3 ((Vector.replicate 6 ⟨[], Sl.nil⟩ : Vector (LR Int) 6).toList)) :: (.blk b58 (enc (FlushR.mk r46.1 rs48)) 71) :: (.blk b44 (enc (FlushR.mk r35.1 rs37)) 71) :: (.blk b33 (enc (FlushR.mk r24.1 rs26)) 71) :: (.blk b22 (enc (FlushR.mk r13.1 rs15)) 71) :: (.blk b11 (enc (FlushR.mk Flush.zero (Vector.replicate 6 ⟨[], Sl.nil⟩ : Vector (LR Int) 6))) 71) :: (.blk b1 (enc (FlushR.mk a0 rs_a0_2)) 71) :: L) ⟨rfl, rfl, rfl, rfl, rfl, rfl, rfl, rfl, rfl, trivial⟩ rfl ?_
  replace H := HKo229
  refine Lst.nil ?_
  refine At.then ?_
  rcases Bool.eq_false_or_eq_true y230 with hb234 | hb234
  ·replace H := ite_t hb234 H
   refine Cd.condT rfl hb234 ?_
   refine Cd.seq ?_
   refine Cd.region ?_
   refine Lst.r (Ev.assign rfl) ?_
   refine Lst.nil ?_
   refine At.then ?_
   obtain rfl := some_inj H
   replace H := HKo158
   obtain rfl := some_inj H
   refine Cd.ret ?_
   refine At.then_ret ?_
   exact At.ret1 rfl (Res.tmp rfl) (FLe.trans (FLe.trans (FLe.trans (FLe.trans (FLe.trans (FLe.trans hF19 hF30) hF41) hF55) hF97) hF224) hF233) (sc1 (sc1 (sc1 (sc1 (sc1 (sc1 (sc1 (sc1 (sc1 (sc1 (.refl _))))))))))) ⟨rfl, rfl⟩
  replace H := ite_f hb234 H
  refine Cd.condF rfl hb234 ?_
  refine Cd.skip ?_
  refine At.less (L' := (.blk b156 (enc r152.1) 68) :: (.blk b62 (enc rs51) 69) :: (.rows (α := Int) 3 ((Vector.replicate 6 ⟨[], Sl.nil⟩ : Vector (LR Int) 6).toList)) :: (.blk b58 (enc (FlushR.mk r46.1 rs48)) 71) :: (.blk b44 (enc (FlushR.mk r35.1 rs37)) 71) :: (.blk b33 (enc (FlushR.mk r24.1 rs26)) 71) :: (.blk b22 (enc (FlushR.mk r13.1 rs15)) 71) :: (.blk b11 (enc (FlushR.mk Flush.zero (Vector.replicate 6 ⟨[], Sl.nil⟩ : Vector (LR Int) 6))) 71) :: (.blk b1 (enc (FlushR.mk a0 rs_a0_2)) 71) :: L) (sc1 (sk1 (sk1 (sk1 (sk1 (sk1 (sk1 (sk1 (sk1 (sk1 (.refl _))))))))))) ?_
  exact At.meet () (FLe.trans hF224 hF233) ⟨rfl, rfl, rfl, rfl, rfl, rfl, rfl, rfl, trivial⟩ rfl (some_inj H)
 rintro F235 _u hF236 hy
 subst hy
 refine Cd.as (e' := [(2, iv a2), (3, iv a3), (5, pv b1 0), (12, pv b11 0), (15, pv b33 0), (16, iv r24.2), (17, pv b44 0), (18, iv r35.2)]) (L' := (.blk b156 (enc r152.1) 68) :: (.blk b62 (enc rs51) 69) :: (.rows (α := Int) 3 ((Vector.replicate 6 ⟨[], Sl.nil⟩ : Vector (LR Int) 6).toList)) :: (.blk b58 (enc (FlushR.mk r46.1 rs48)) 71) :: (.blk b44 (enc (FlushR.mk r35.1 rs37)) 71) :: (.blk b33 (enc (FlushR.mk r24.1 rs26)) 71) :: (.blk b22 (enc (FlushR.mk r13.1 rs15)) 71) :: (.blk b11 (enc (FlushR.mk Flush.zero (Vector.replicate 6 ⟨[], Sl.nil⟩ : Vector (LR Int) 6))) 71) :: (.blk b1 (enc (FlushR.mk a0 rs_a0_2)) 71) :: L) ⟨rfl, rfl, rfl, rfl, rfl, rfl, rfl, rfl, trivial⟩ rfl ?_
 replace H := HKo158
 refine Cd.seq ?_
 refine Cd.seq ?_
 refine Cd.region ?_
 refine Lst.r (Ev.move rfl) ?_
 refine Lst.r (Ev.lss rfl rfl) ?_
 refine Lst.r (Ev.move rfl) ?_
 obtain ⟨o237, H, HKo237⟩ := bind_some H
 refine Lst.join (σ := Bool) 3 (fun y238 => [(2, iv a2), (3, iv a3), (5, pv b1 0), (12, pv b11 0), (15, pv b33 0), (16, iv r24.2), (17, pv b44 0), (18, iv r35.2), (165, .bool y238)]) (fun y238 => (.blk b156 (enc r152.1) 68) :: (.blk b62 (enc rs51) 69) :: (.rows (α := Int) 3 ((Vector.replicate 6 ⟨[], Sl.nil⟩ : Vector (LR Int) 6).toList)) :: (.blk b58 (enc (FlushR.mk r46.1 rs48)) 71) :: (.blk b44 (enc (FlushR.mk r35.1 rs37)) 71) :: (.blk b33 (enc (FlushR.mk r24.1 rs26)) 71) :: (.blk b22 (enc (FlushR.mk r13.1 rs15)) 71) :: (.blk b11 (enc (FlushR.mk Flush.zero (Vector.replicate 6 ⟨[], Sl.nil⟩ : Vector (LR Int) 6))) 71) :: (.blk b1 (enc (FlushR.mk a0 rs_a0_2)) 71) :: L) (fun _ y238 => y238 = o237) ?_ ?_
 ·rcases Bool.eq_false_or_eq_true (decide (a2 < (0 : Int))) with hb239 | hb239
  ·replace H := ite_t hb239 H
   refine Lst.skip rfl rfl rfl hb239 rfl (by decide) ?_
   refine Lst.skip rfl rfl rfl hb239 rfl (by decide) ?_
   refine Lst.r (Ev.pickT rfl hb239 rfl) ?_
   refine Lst.nil ?_
   exact At.meet true (FLe.refl _) ⟨rfl, rfl, rfl, rfl, rfl, rfl, rfl, rfl, rfl, trivial⟩ rfl (some_inj H)
  replace H := ite_f hb239 H
  refine Lst.rG hb239 (Ev.move rfl) ?_
  refine Lst.rG hb239 (Ev.gtr rfl rfl) ?_
  refine Lst.r (Ev.pickF rfl hb239 rfl) ?_
  refine Lst.nil ?_
  exact At.meet (decide (a2 > (5 : Int))) (FLe.refl _) ⟨rfl, rfl, rfl, rfl, rfl, rfl, rfl, rfl, rfl, trivial⟩ rfl (some_inj H)
 rintro F240 y238 hF241 hy
 subst hy
 refine Lst.as (e' := [(2, iv a2), (3, iv a3), (5, pv b1 0), (12, pv b11 0), (15, pv b33 0), (16, iv r24.2), (17, pv b44 0), (18, iv r35.2), (165, .bool y238)]) (L' := (.blk b156 (enc r152.1) 68) :: (.blk b62 (enc rs51) 69) :: (.rows (α := Int) 3 ((Vector.replicate 6 ⟨[], Sl.nil⟩ : Vector (LR Int) 6).toList)) :: (.blk b58 (enc (FlushR.mk r46.1 rs48)) 71) :: (.blk b44 (enc (FlushR.mk r35.1 rs37)) 71) :: (.blk b33 (enc (FlushR.mk r24.1 rs26)) 71) :: (.blk b22 (enc (FlushR.mk r13.1 rs15)) 71) :: (.blk b11 (enc (FlushR.mk Flush.zero (Vector.replicate 6 ⟨[], Sl.nil⟩ : Vector (LR Int) 6))) 71) :: (.blk b1 (enc (FlushR.mk a0 rs_a0_2)) 71) :: L) ⟨rfl, rfl, rfl, rfl, rfl, rfl, rfl, rfl, rfl, trivial⟩ rfl ?_
 replace H := HKo237
 refine Lst.nil ?_
 refine At.then ?_
 rcases Bool.eq_false_or_eq_true y238 with hb242 | hb242
 ·replace H := ite_t hb242 H
  refine Cd.condT rfl hb242 ?_
  refine Cd.seq ?_
  refine Cd.region ?_
  refine Lst.r (Ev.loadA (i := 5) rfl rfl Try.isAgg71 Try.sizeOf71 (ch := enc (FlushR.mk r24.1 rs26)) (Enc.len _) (Get.here _)) ?_
  refine Lst.r (Ev.loadA (i := 7) rfl rfl Try.isAgg71 Try.sizeOf71 (ch := enc (FlushR.mk Flush.zero (Vector.replicate 6 ⟨[], Sl.nil⟩ : Vector (LR Int) 6))) (Enc.len _) (Get.here _)) ?_
  obtain ⟨r243, h244, H⟩ := bind_some H
  refine Lst.call1 rfl rfl (by decide) (vs := [.agg (enc (FlushR.mk r24.1 rs26)).toArray, .agg (enc (FlushR.mk Flush.zero (Vector.replicate 6 ⟨[], Sl.nil⟩ : Vector (LR Int) 6))).toArray]) ⟨rfl, rfl, trivial⟩ Try.call45 (partref_SameFlush_sim h244 w0 _ M _ (sc8 (sc1 hM)) fm27 (All.monoLR fa28 (FLe.trans (FLe.trans (FLe.trans (FLe.trans hF41 hF55) hF97) hF236) hF241) (List.nil_sublist _)) hm7 (All.monoLR ha8 (FLe.trans (FLe.trans (FLe.trans (FLe.trans (FLe.trans (FLe.trans hF19 hF30) hF41) hF55) hF97) hF236) hF241) (List.nil_sublist _))) ?_
  refine Lst.r (Ev.move rfl) ?_
  obtain ⟨o247, H, HKo247⟩ := bind_some H
  refine Lst.join (σ := Bool) 3 (fun y248 => [(12, pv b11 0), (17, pv b44 0), (18, iv r35.2), (172, .bool y248)]) (fun y248 => (.blk b156 (enc r152.1) 68) :: (.blk b62 (enc rs51) 69) :: (.rows (α := Int) 3 ((Vector.replicate 6 ⟨[], Sl.nil⟩ : Vector (LR Int) 6).toList)) :: (.blk b58 (enc (FlushR.mk r46.1 rs48)) 71) :: (.blk b44 (enc (FlushR.mk r35.1 rs37)) 71) :: (.blk b33 (enc (FlushR.mk r24.1 rs26)) 71) :: (.blk b22 (enc (FlushR.mk r13.1 rs15)) 71) :: (.blk b11 (enc (FlushR.mk Flush.zero (Vector.replicate 6 ⟨[], Sl.nil⟩ : Vector (LR Int) 6))) 71) :: (.blk b1 (enc (FlushR.mk a0 rs_a0_2)) 71) :: L) (fun _ y248 => y248 = o247) ?_ ?_
  ·rcases (Bool.eq_false_or_eq_true r243).symm with hb249 | hb249
   ·replace H := ite_f hb249 H
    refine Lst.skip rfl rfl rfl hb249 rfl (by decide) ?_
    refine Lst.skip rfl rfl rfl hb249 rfl (by decide) ?_
    refine Lst.r (Ev.pickF rfl hb249 rfl) ?_
    refine Lst.nil ?_
    exact At.meet false (FLe.refl _) ⟨rfl, rfl, rfl, rfl, trivial⟩ rfl (some_inj H)
   replace H := ite_t hb249 H
   refine Lst.rG hb249 (Ev.move rfl) ?_
   refine Lst.rG hb249 (Ev.eql rfl rfl) ?_
   refine Lst.r (Ev.pickT rfl hb249 rfl) ?_
   refine Lst.nil ?_
   exact At.meet (r24.2 == (1 : Int)) (FLe.refl _) ⟨rfl, rfl, rfl, rfl, trivial⟩ rfl (some_inj H)
  rintro F250 y248 hF251 hy
  subst hy
  refine Lst.as (e' := [(12, pv b11 0), (17, pv b44 0), (18, iv r35.2), (172, .bool y248)]) (L' := (.blk b156 (enc r152.1) 68) :: (.blk b62 (enc rs51) 69) :: (.rows (α := Int) 3 ((Vector.replicate 6 ⟨[], Sl.nil⟩ : Vector (LR Int) 6).toList)) :: (.blk b58 (enc (FlushR.mk r46.1 rs48)) 71) :: (.blk b44 (enc (FlushR.mk r35.1 rs37)) 71) :: (.blk b33 (enc (FlushR.mk r24.1 rs26)) 71) :: (.blk b22 (enc (FlushR.mk r13.1 rs15)) 71) :: (.blk b11 (enc (FlushR.mk Flush.zero (Vector.replicate 6 ⟨[], Sl.nil⟩ : Vector (LR Int) 6))) 71) :: (.blk b1 (enc (FlushR.mk a0 rs_a0_2)) 71) :: L) ⟨rfl, rfl, rfl, rfl, trivial⟩ rfl ?_
  replace H := HKo247
  refine Lst.r (Ev.move rfl) ?_
  obtain ⟨o252, H, HKo252⟩ := bind_some H
  refine Lst.join (σ := Bool) 4 (fun y253 => [(18, iv r35.2), (177, .bool y253)]) (fun y253 => (.blk b156 (enc r152.1) 68) :: (.blk b62 (enc rs51) 69) :: (.rows (α := Int) 3 ((Vector.replicate 6 ⟨[], Sl.nil⟩ : Vector (LR Int) 6).toList)) :: (.blk b58 (enc (FlushR.mk r46.1 rs48)) 71) :: (.blk b44 (enc (FlushR.mk r35.1 rs37)) 71) :: (.blk b33 (enc (FlushR.mk r24.1 rs26)) 71) :: (.blk b22 (enc (FlushR.mk r13.1 rs15)) 71) :: (.blk b11 (enc (FlushR.mk Flush.zero (Vector.replicate 6 ⟨[], Sl.nil⟩ : Vector (LR Int) 6))) 71) :: (.blk b1 (enc (FlushR.mk a0 rs_a0_2)) 71) :: L) (fun _ y253 => y253 = o252) ?_ ?_
  ·rcases (Bool.eq_false_or_eq_true y248).symm with hb254 | hb254
   ·replace H := ite_f hb254 H
    refine Lst.skip rfl rfl rfl hb254 rfl (by decide) ?_
    refine Lst.skip rfl rfl rfl hb254 rfl (by decide) ?_
    refine Lst.skip rfl rfl rfl hb254 rfl (by decide) ?_
    refine Lst.r (Ev.pickF rfl hb254 rfl) ?_
    refine Lst.nil ?_
    exact At.meet false (FLe.refl _) ⟨rfl, rfl, trivial⟩ rfl (some_inj H)
   replace H := ite_t hb254 H
   refine Lst.rG hb254 (Ev.loadA (i := 4) rfl rfl Try.isAgg71 Try.sizeOf71 (ch := enc (FlushR.mk r35.1 rs37)) (Enc.len _) (Get.here _)) ?_
   refine Lst.rG hb254 (Ev.loadA (i := 7) rfl rfl Try.isAgg71 Try.sizeOf71 (ch := enc (FlushR.mk Flush.zero (Vector.replicate 6 ⟨[], Sl.nil⟩ : Vector (LR Int) 6))) (Enc.len _) (Get.here _)) ?_
   obtain ⟨r255, h256, H⟩ := bind_some H
   refine Lst.call1G rfl rfl rfl hb254 rfl (by decide) (vs := [.agg (enc (FlushR.mk r35.1 rs37)).toArray, .agg (enc (FlushR.mk Flush.zero (Vector.replicate 6 ⟨[], Sl.nil⟩ : Vector (LR Int) 6))).toArray]) ⟨rfl, rfl, trivial⟩ Try.call45 (partref_SameFlush_sim h256 w0 _ M _ (sc8 (sc1 hM)) fm38 (All.monoLR fa39 (FLe.trans (FLe.trans (FLe.trans (FLe.trans hF55 hF97) hF236) hF241) hF251) (List.nil_sublist _)) hm7 (All.monoLR ha8 (FLe.trans (FLe.trans (FLe.trans (FLe.trans (FLe.trans (FLe.trans (FLe.trans hF19 hF30) hF41) hF55) hF97) hF236) hF241) hF251) (List.nil_sublist _))) ?_
   refine Lst.r (Ev.pickT rfl hb254 rfl) ?_
   refine Lst.nil ?_
   exact At.meet r255 (FLe.refl _) ⟨rfl, rfl, trivial⟩ rfl (some_inj H)
  rintro F259 y253 hF260 hy
  subst hy
  refine Lst.as (e' := [(18, iv r35.2), (177, .bool y253)]) (L' := (.blk b156 (enc r152.1) 68) :: (.blk b62 (enc rs51) 69) :: (.rows (α := Int) 3 ((Vector.replicate 6 ⟨[], Sl.nil⟩ : Vector (LR Int) 6).toList)) :: (.blk b58 (enc (FlushR.mk r46.1 rs48)) 71) :: (.blk b44 (enc (FlushR.mk r35.1 rs37)) 71) :: (.blk b33 (enc (FlushR.mk r24.1 rs26)) 71) :: (.blk b22 (enc (FlushR.mk r13.1 rs15)) 71) :: (.blk b11 (enc (FlushR.mk Flush.zero (Vector.replicate 6 ⟨[], Sl.nil⟩ : Vector (LR Int) 6))) 71) :: (.blk b1 (enc (FlushR.mk a0 rs_a0_2)) 71) :: L) ⟨rfl, rfl, trivial⟩ rfl ?_
  replace H := HKo252
  refine Lst.r (Ev.move rfl) ?_
  obtain ⟨o261, H, HKo261⟩ := bind_some H
  refine Lst.join (σ := Bool) 3 (fun y262 => [(181, .bool y262)]) (fun y262 => (.blk b156 (enc r152.1) 68) :: (.blk b62 (enc rs51) 69) :: (.rows (α := Int) 3 ((Vector.replicate 6 ⟨[], Sl.nil⟩ : Vector (LR Int) 6).toList)) :: (.blk b58 (enc (FlushR.mk r46.1 rs48)) 71) :: (.blk b44 (enc (FlushR.mk r35.1 rs37)) 71) :: (.blk b33 (enc (FlushR.mk r24.1 rs26)) 71) :: (.blk b22 (enc (FlushR.mk r13.1 rs15)) 71) :: (.blk b11 (enc (FlushR.mk Flush.zero (Vector.replicate 6 ⟨[], Sl.nil⟩ : Vector (LR Int) 6))) 71) :: (.blk b1 (enc (FlushR.mk a0 rs_a0_2)) 71) :: L) (fun _ y262 => y262 = o261) ?_ ?_
  ·rcases (Bool.eq_false_or_eq_true y253).symm with hb263 | hb263
   ·replace H := ite_f hb263 H
    refine Lst.skip rfl rfl rfl hb263 rfl (by decide) ?_
    refine Lst.skip rfl rfl rfl hb263 rfl (by decide) ?_
    refine Lst.r (Ev.pickF rfl hb263 rfl) ?_
    refine Lst.nil ?_
    exact At.meet false (FLe.refl _) ⟨rfl, trivial⟩ rfl (some_inj H)
   replace H := ite_t hb263 H
   refine Lst.rG hb263 (Ev.move rfl) ?_
   refine Lst.rG hb263 (Ev.eql rfl rfl) ?_
   refine Lst.r (Ev.pickT rfl hb263 rfl) ?_
   refine Lst.nil ?_
   exact At.meet (r35.2 == (1 : Int)) (FLe.refl _) ⟨rfl, trivial⟩ rfl (some_inj H)
  rintro F264 y262 hF265 hy
  subst hy
  refine Lst.as (e' := [(181, .bool y262)]) (L' := (.blk b156 (enc r152.1) 68) :: (.blk b62 (enc rs51) 69) :: (.rows (α := Int) 3 ((Vector.replicate 6 ⟨[], Sl.nil⟩ : Vector (LR Int) 6).toList)) :: (.blk b58 (enc (FlushR.mk r46.1 rs48)) 71) :: (.blk b44 (enc (FlushR.mk r35.1 rs37)) 71) :: (.blk b33 (enc (FlushR.mk r24.1 rs26)) 71) :: (.blk b22 (enc (FlushR.mk r13.1 rs15)) 71) :: (.blk b11 (enc (FlushR.mk Flush.zero (Vector.replicate 6 ⟨[], Sl.nil⟩ : Vector (LR Int) 6))) 71) :: (.blk b1 (enc (FlushR.mk a0 rs_a0_2)) 71) :: L) ⟨rfl, trivial⟩ rfl ?_
  replace H := HKo261
  refine Lst.r (Ev.assign rfl) ?_
  refine Lst.nil ?_
  refine At.then ?_
  obtain rfl := some_inj H
  refine Cd.ret ?_
  refine At.then_ret ?_
  exact At.ret1 rfl (Res.tmp rfl) (FLe.trans (FLe.trans (FLe.trans (FLe.trans (FLe.trans (FLe.trans (FLe.trans (FLe.trans (FLe.trans hF19 hF30) hF41) hF55) hF97) hF236) hF241) hF251) hF260) hF265) (sc1 (sc1 (sc1 (sc1 (sc1 (sc1 (sc1 (sc1 (sc1 (.refl _)))))))))) ⟨rfl, rfl⟩
 replace H := ite_f hb242 H
 refine Cd.condF rfl hb242 ?_
 refine Cd.skip ?_
 refine At.then ?_
 refine Cd.seq ?_
 refine Cd.region ?_
 refine Lst.r (Ev.loadA (i := 8) rfl rfl Try.isAgg71 Try.sizeOf71 (ch := enc (FlushR.mk a0 rs_a0_2)) (Enc.len _) (Get.here _)) ?_
 have hm266 : (Vector.replicate 6 ⟨[], Sl.nil⟩ : Vector (LR Int) 6).toList.map LR.v = (Vector.replicate 6 [] : Vector (List Int) 6).toList := vmap_rep _ _
 have ha267 : All LR.rel w0 F240 [] (Vector.replicate 6 ⟨[], Sl.nil⟩ : Vector (LR Int) 6).toList := vAll_rep Rd.nil
 refine Lst.alloc (cs := enc (FlushR.mk Flush.zero (Vector.replicate 6 ⟨[], Sl.nil⟩ : Vector (LR Int) 6))) rfl rfl (by decide) Try.zeroValue71 rfl (fun b268 => ?_)
 refine Lst.store (i := 0) rfl rfl rfl rfl rfl Try.sizeOf71 (vs := enc (FlushR.mk a0 rs_a0_2)) rfl (Enc.len _) (Enc.one _) (cs' := enc (FlushR.mk a0 rs_a0_2)) (Put.here ((Enc.len _).trans (Enc.len _).symm)) (L' := (.blk b268 (enc (FlushR.mk a0 rs_a0_2)) 71) :: (.blk b156 (enc r152.1) 68) :: (.blk b62 (enc rs51) 69) :: (.rows (α := Int) 3 ((Vector.replicate 6 ⟨[], Sl.nil⟩ : Vector (LR Int) 6).toList)) :: (.blk b58 (enc (FlushR.mk r46.1 rs48)) 71) :: (.blk b44 (enc (FlushR.mk r35.1 rs37)) 71) :: (.blk b33 (enc (FlushR.mk r24.1 rs26)) 71) :: (.blk b22 (enc (FlushR.mk r13.1 rs15)) 71) :: (.blk b11 (enc (FlushR.mk Flush.zero (Vector.replicate 6 ⟨[], Sl.nil⟩ : Vector (LR Int) 6))) 71) :: (.blk b1 (enc (FlushR.mk a0 rs_a0_2)) 71) :: L) rfl ?_
 refine Lst.nil ?_
 refine At.then ?_
 obtain ⟨o274, H, HKo274⟩ := bind_some H
 refine Cd.join (σ := Flush × (Vector (LR Int) 6)) (fun (y270, rs271) => [(2, iv a2), (3, iv a3), (5, pv b1 0), (12, pv b11 0), (15, pv b33 0), (16, iv r24.2), (17, pv b44 0), (18, iv r35.2), (25, pv b268 0)]) (fun (y270, rs271) => (.blk b268 (enc (FlushR.mk y270 rs271)) 71) :: (.blk b156 (enc r152.1) 68) :: (.blk b62 (enc rs51) 69) :: (.rows (α := Int) 3 ((Vector.replicate 6 ⟨[], Sl.nil⟩ : Vector (LR Int) 6).toList)) :: (.blk b58 (enc (FlushR.mk r46.1 rs48)) 71) :: (.blk b44 (enc (FlushR.mk r35.1 rs37)) 71) :: (.blk b33 (enc (FlushR.mk r24.1 rs26)) 71) :: (.blk b22 (enc (FlushR.mk r13.1 rs15)) 71) :: (.blk b11 (enc (FlushR.mk Flush.zero (Vector.replicate 6 ⟨[], Sl.nil⟩ : Vector (LR Int) 6))) 71) :: (.blk b1 (enc (FlushR.mk a0 rs_a0_2)) 71) :: L) (fun Fx (y270, rs271) => y270 = o274 ∧ rs271.toList.map LR.v = y270.Told.toList ∧ All LR.rel w0 Fx M rs271.toList) ?_ ?_
 ·refine Cd.seq ?_
  refine Cd.region ?_
  refine Lst.r (Ev.fieldAddr (off' := 0) rfl Try.runUnderlying71 rfl Try.sizeOf68 rfl rfl) ?_
  refine Lst.r (Ev.fieldAddr (off' := 1) rfl Try.runUnderlying68 rfl Try.sizeOf5 rfl rfl) ?_
  refine Lst.r (Ev.load (i := 9) rfl rfl Try.isAgg5 (v := .int .u8 a0.View_.Members.toNat) ((FlushR.get_View_ (View.get_Members (Get.here _))).off (by rfl))) ?_
  refine Lst.r (Ev.move rfl) ?_
  obtain ⟨n275, h276, H⟩ := bind_some H
  refine Lst.r (Ev.shrU8 (i := a0.View_.Members) (m := n275) rfl (congrArg some (congrArg (Value.int .i64) (cnt_some h276)))) ?_
  refine Lst.r (Ev.remU8 (i := a0.View_.Members >>> n275) (j := (2 : BitVec 8)) rfl rfl (by decide)) ?_
  refine Lst.r (Ev.eql rfl rfl) ?_
  refine Lst.nil ?_
  refine At.then ?_
  rcases (Bool.eq_false_or_eq_true ((((a0.View_.Members >>> n275) % (2 : BitVec 8)).toNat : Int) == ((1 : BitVec 8).toNat : Int))).symm with hb278 | hb278
  ·replace H := ite_f hb278 H
   refine Cd.condF rfl hb278 ?_
   refine Cd.skip ?_
   exact At.meet (a0, rs_a0_2) (FLe.refl _) ⟨rfl, rfl, rfl, rfl, rfl, rfl, rfl, rfl, rfl, trivial⟩ rfl ⟨some_inj H, hm_a0_2, (All.monoLR ha_a0_2 (FLe.trans (FLe.trans (FLe.trans (FLe.trans (FLe.trans (FLe.trans hF19 hF30) hF41) hF55) hF97) hF236) hF241) (.refl _))⟩
  replace H := ite_t hb278 H
  refine Cd.condT rfl hb278 ?_
  refine Cd.tail 6 (by kernel_rfl) (by kernel_rfl) ?_
  refine Qt.r (Ev.fieldAddr (off' := 2) rfl Try.runUnderlying71 rfl Try.sizeOf5 rfl rfl) ?_
  refine Qt.r (Ev.load (i := 0) rfl rfl Try.isAgg5 (v := .int .u8 a0.Gone.toNat) ((FlushR.get_Gone (Get.here _)).off (by rfl))) ?_
  refine Qt.r (Ev.move rfl) ?_
  obtain ⟨n279, h280, H⟩ := bind_some H
  refine Qt.r (Ev.shlU8 (i := (1 : BitVec 8)) (m := n279) rfl (congrArg some (congrArg (Value.int .i64) (cnt_some h280)))) ?_
  refine Qt.r (Ev.orU8 (i := a0.Gone) (j := (1 : BitVec 8) <<< n279) rfl rfl) ?_
  refine Qt.r (Ev.fieldAddr (off' := 2) rfl Try.runUnderlying71 rfl Try.sizeOf5 rfl rfl) ?_
  refine Qt.tail ?_
  obtain ⟨p282, h283, H⟩ := Let_some H
  refine Lst.store (i := 0) rfl rfl rfl rfl rfl Try.sizeOf5 (vs := [.int .u8 (a0.Gone ||| ((1 : BitVec 8) <<< n279)).toNat]) rfl rfl rfl (cs' := enc (FlushR.mk ({ a0 with Gone := p282 } : Flush) rs_a0_2)) (by rw [← h283]; exact (FlushR.put_Gone (Put.here (vs := [.int .u8 (a0.Gone ||| ((1 : BitVec 8) <<< n279)).toNat]) rfl)).off (by rfl)) (L' := (.blk b268 (enc (FlushR.mk ({ a0 with Gone := p282 } : Flush) rs_a0_2)) 71) :: (.blk b156 (enc r152.1) 68) :: (.blk b62 (enc rs51) 69) :: (.rows (α := Int) 3 ((Vector.replicate 6 ⟨[], Sl.nil⟩ : Vector (LR Int) 6).toList)) :: (.blk b58 (enc (FlushR.mk r46.1 rs48)) 71) :: (.blk b44 (enc (FlushR.mk r35.1 rs37)) 71) :: (.blk b33 (enc (FlushR.mk r24.1 rs26)) 71) :: (.blk b22 (enc (FlushR.mk r13.1 rs15)) 71) :: (.blk b11 (enc (FlushR.mk Flush.zero (Vector.replicate 6 ⟨[], Sl.nil⟩ : Vector (LR Int) 6))) 71) :: (.blk b1 (enc (FlushR.mk a0 rs_a0_2)) 71) :: L) rfl ?_
  refine Lst.nil ?_
  exact At.meet (({ a0 with Gone := p282 } : Flush), rs_a0_2) (FLe.refl _) ⟨rfl, rfl, rfl, rfl, rfl, rfl, rfl, rfl, rfl, trivial⟩ rfl ⟨some_inj H, hm_a0_2, (All.monoLR ha_a0_2 (FLe.trans (FLe.trans (FLe.trans (FLe.trans (FLe.trans (FLe.trans hF19 hF30) hF41) hF55) hF97) hF236) hF241) (.refl _))⟩
 rintro F284 ⟨y270, rs271⟩ hF285 ⟨hy, fm272, fa273⟩
 subst hy
 refine Cd.as (e' := [(2, iv a2), (3, iv a3), (5, pv b1 0), (12, pv b11 0), (15, pv b33 0), (16, iv r24.2), (17, pv b44 0), (18, iv r35.2), (25, pv b268 0)]) (L' := (.blk b268 (enc (FlushR.mk y270 rs271)) 71) :: (.blk b156 (enc r152.1) 68) :: (.blk b62 (enc rs51) 69) :: (.rows (α := Int) 3 ((Vector.replicate 6 ⟨[], Sl.nil⟩ : Vector (LR Int) 6).toList)) :: (.blk b58 (enc (FlushR.mk r46.1 rs48)) 71) :: (.blk b44 (enc (FlushR.mk r35.1 rs37)) 71) :: (.blk b33 (enc (FlushR.mk r24.1 rs26)) 71) :: (.blk b22 (enc (FlushR.mk r13.1 rs15)) 71) :: (.blk b11 (enc (FlushR.mk Flush.zero (Vector.replicate 6 ⟨[], Sl.nil⟩ : Vector (LR Int) 6))) 71) :: (.blk b1 (enc (FlushR.mk a0 rs_a0_2)) 71) :: L) ⟨rfl, rfl, rfl, rfl, rfl, rfl, rfl, rfl, rfl, trivial⟩ rfl ?_
 replace H := HKo274
 refine Cd.seq ?_
 refine Cd.seq ?_
 refine Cd.region ?_
 refine Lst.r (Ev.loadA (i := 5) rfl rfl Try.isAgg71 Try.sizeOf71 (ch := enc (FlushR.mk r35.1 rs37)) (Enc.len _) (Get.here _)) ?_
 refine Lst.r (Ev.loadA (i := 0) rfl rfl Try.isAgg71 Try.sizeOf71 (ch := enc (FlushR.mk y270 rs271)) (Enc.len _) (Get.here _)) ?_
 obtain ⟨r286, h287, H⟩ := bind_some H
 refine Lst.call1 rfl rfl (by decide) (vs := [.agg (enc (FlushR.mk r35.1 rs37)).toArray, .agg (enc (FlushR.mk y270 rs271)).toArray]) ⟨rfl, rfl, trivial⟩ Try.call45 (partref_SameFlush_sim h287 w0 _ M _ (sc8 (sc2 hM)) fm38 (All.monoLR fa39 (FLe.trans (FLe.trans (FLe.trans (FLe.trans hF55 hF97) hF236) hF241) hF285) (List.nil_sublist _)) fm272 (All.monoLR fa273 (FLe.refl _) (.refl _))) ?_
 refine Lst.r (Ev.not rfl) ?_
 refine Lst.r (Ev.move rfl) ?_
 obtain ⟨o290, H, HKo290⟩ := bind_some H
 refine Lst.join (σ := Bool) 3 (fun y291 => [(2, iv a2), (3, iv a3), (5, pv b1 0), (12, pv b11 0), (15, pv b33 0), (16, iv r24.2), (203, .bool y291)]) (fun y291 => (.blk b268 (enc (FlushR.mk y270 rs271)) 71) :: (.blk b156 (enc r152.1) 68) :: (.blk b62 (enc rs51) 69) :: (.rows (α := Int) 3 ((Vector.replicate 6 ⟨[], Sl.nil⟩ : Vector (LR Int) 6).toList)) :: (.blk b58 (enc (FlushR.mk r46.1 rs48)) 71) :: (.blk b44 (enc (FlushR.mk r35.1 rs37)) 71) :: (.blk b33 (enc (FlushR.mk r24.1 rs26)) 71) :: (.blk b22 (enc (FlushR.mk r13.1 rs15)) 71) :: (.blk b11 (enc (FlushR.mk Flush.zero (Vector.replicate 6 ⟨[], Sl.nil⟩ : Vector (LR Int) 6))) 71) :: (.blk b1 (enc (FlushR.mk a0 rs_a0_2)) 71) :: L) (fun _ y291 => y291 = o290) ?_ ?_
 ·rcases Bool.eq_false_or_eq_true (!r286) with hb292 | hb292
  ·replace H := ite_t hb292 H
   refine Lst.skip rfl rfl rfl hb292 rfl (by decide) ?_
   refine Lst.skip rfl rfl rfl hb292 rfl (by decide) ?_
   refine Lst.r (Ev.pickT rfl hb292 rfl) ?_
   refine Lst.nil ?_
   exact At.meet true (FLe.refl _) ⟨rfl, rfl, rfl, rfl, rfl, rfl, rfl, trivial⟩ rfl (some_inj H)
  replace H := ite_f hb292 H
  refine Lst.rG hb292 (Ev.move rfl) ?_
  refine Lst.rG hb292 (Ev.neq rfl rfl) ?_
  refine Lst.r (Ev.pickF rfl hb292 rfl) ?_
  refine Lst.nil ?_
  exact At.meet (r35.2 != (0 : Int)) (FLe.refl _) ⟨rfl, rfl, rfl, rfl, rfl, rfl, rfl, trivial⟩ rfl (some_inj H)
 rintro F293 y291 hF294 hy
 subst hy
 refine Lst.as (e' := [(2, iv a2), (3, iv a3), (5, pv b1 0), (12, pv b11 0), (15, pv b33 0), (16, iv r24.2), (203, .bool y291)]) (L' := (.blk b268 (enc (FlushR.mk y270 rs271)) 71) :: (.blk b156 (enc r152.1) 68) :: (.blk b62 (enc rs51) 69) :: (.rows (α := Int) 3 ((Vector.replicate 6 ⟨[], Sl.nil⟩ : Vector (LR Int) 6).toList)) :: (.blk b58 (enc (FlushR.mk r46.1 rs48)) 71) :: (.blk b44 (enc (FlushR.mk r35.1 rs37)) 71) :: (.blk b33 (enc (FlushR.mk r24.1 rs26)) 71) :: (.blk b22 (enc (FlushR.mk r13.1 rs15)) 71) :: (.blk b11 (enc (FlushR.mk Flush.zero (Vector.replicate 6 ⟨[], Sl.nil⟩ : Vector (LR Int) 6))) 71) :: (.blk b1 (enc (FlushR.mk a0 rs_a0_2)) 71) :: L) ⟨rfl, rfl, rfl, rfl, rfl, rfl, rfl, trivial⟩ rfl ?_
 replace H := HKo290
 refine Lst.nil ?_
 refine At.then ?_
 rcases Bool.eq_false_or_eq_true y291 with hb295 | hb295
 ·replace H := ite_t hb295 H
  refine Cd.condT rfl hb295 ?_
  refine Cd.seq ?_
  refine Cd.region ?_
  refine Lst.r (Ev.assign rfl) ?_
  refine Lst.nil ?_
  refine At.then ?_
  obtain rfl := some_inj H
  refine Cd.ret ?_
  refine At.then_ret ?_
  exact At.ret1 rfl (Res.tmp rfl) (FLe.trans (FLe.trans (FLe.trans (FLe.trans (FLe.trans (FLe.trans (FLe.trans (FLe.trans hF19 hF30) hF41) hF55) hF97) hF236) hF241) hF285) hF294) (sc1 (sc1 (sc1 (sc1 (sc1 (sc1 (sc1 (sc1 (sc1 (sc1 (.refl _))))))))))) ⟨rfl, rfl⟩
 replace H := ite_f hb295 H
 refine Cd.condF rfl hb295 ?_
 refine Cd.skip ?_
 refine At.then ?_
 refine Cd.seq ?_
 refine Cd.region ?_
 refine Lst.r (Ev.loadA (i := 9) rfl rfl Try.isAgg71 Try.sizeOf71 (ch := enc (FlushR.mk a0 rs_a0_2)) (Enc.len _) (Get.here _)) ?_
 have hm296 : (Vector.replicate 6 ⟨[], Sl.nil⟩ : Vector (LR Int) 6).toList.map LR.v = (Vector.replicate 6 [] : Vector (List Int) 6).toList := vmap_rep _ _
 have ha297 : All LR.rel w0 F293 [] (Vector.replicate 6 ⟨[], Sl.nil⟩ : Vector (LR Int) 6).toList := vAll_rep Rd.nil
 refine Lst.alloc (cs := enc (FlushR.mk Flush.zero (Vector.replicate 6 ⟨[], Sl.nil⟩ : Vector (LR Int) 6))) rfl rfl (by decide) Try.zeroValue71 rfl (fun b298 => ?_)
 refine Lst.store (i := 0) rfl rfl rfl rfl rfl Try.sizeOf71 (vs := enc (FlushR.mk a0 rs_a0_2)) rfl (Enc.len _) (Enc.one _) (cs' := enc (FlushR.mk a0 rs_a0_2)) (Put.here ((Enc.len _).trans (Enc.len _).symm)) (L' := (.blk b298 (enc (FlushR.mk a0 rs_a0_2)) 71) :: (.blk b268 (enc (FlushR.mk y270 rs271)) 71) :: (.blk b156 (enc r152.1) 68) :: (.blk b62 (enc rs51) 69) :: (.rows (α := Int) 3 ((Vector.replicate 6 ⟨[], Sl.nil⟩ : Vector (LR Int) 6).toList)) :: (.blk b58 (enc (FlushR.mk r46.1 rs48)) 71) :: (.blk b44 (enc (FlushR.mk r35.1 rs37)) 71) :: (.blk b33 (enc (FlushR.mk r24.1 rs26)) 71) :: (.blk b22 (enc (FlushR.mk r13.1 rs15)) 71) :: (.blk b11 (enc (FlushR.mk Flush.zero (Vector.replicate 6 ⟨[], Sl.nil⟩ : Vector (LR Int) 6))) 71) :: (.blk b1 (enc (FlushR.mk a0 rs_a0_2)) 71) :: L) rfl ?_
 refine Lst.r (Ev.assign rfl) ?_
 refine Lst.nil ?_
 refine At.then ?_
 obtain ⟨o305, H, HKo305⟩ := bind_some H
 refine Cd.join (σ := Int × Flush × (Vector (LR Int) 6)) (fun (y300, y301, rs302) => [(12, pv b11 0), (15, pv b33 0), (16, iv r24.2), (26, pv b298 0), (27, iv y300)]) (fun (y300, y301, rs302) => (.blk b298 (enc (FlushR.mk y301 rs302)) 71) :: (.blk b268 (enc (FlushR.mk y270 rs271)) 71) :: (.blk b156 (enc r152.1) 68) :: (.blk b62 (enc rs51) 69) :: (.rows (α := Int) 3 ((Vector.replicate 6 ⟨[], Sl.nil⟩ : Vector (LR Int) 6).toList)) :: (.blk b58 (enc (FlushR.mk r46.1 rs48)) 71) :: (.blk b44 (enc (FlushR.mk r35.1 rs37)) 71) :: (.blk b33 (enc (FlushR.mk r24.1 rs26)) 71) :: (.blk b22 (enc (FlushR.mk r13.1 rs15)) 71) :: (.blk b11 (enc (FlushR.mk Flush.zero (Vector.replicate 6 ⟨[], Sl.nil⟩ : Vector (LR Int) 6))) 71) :: (.blk b1 (enc (FlushR.mk a0 rs_a0_2)) 71) :: L) (fun Fx (y300, y301, rs302) => (y300, y301) = o305 ∧ rs302.toList.map LR.v = y301.Told.toList ∧ All LR.rel w0 Fx M rs302.toList) ?_ ?_
 ·refine Cd.block ?_
  refine Cd.seq ?_
  refine Cd.region ?_
  refine Lst.r (Ev.move rfl) ?_
  refine Lst.r (Ev.lss rfl rfl) ?_
  refine Lst.r (Ev.move rfl) ?_
  obtain ⟨o306, H, HKo306⟩ := bind_some H
  refine Lst.join (σ := Bool) 3 (fun y307 => [(2, iv a2), (3, iv a3), (5, pv b1 0), (12, pv b11 0), (15, pv b33 0), (16, iv r24.2), (26, pv b298 0), (27, iv (0 : Int)), (222, .bool y307)]) (fun y307 => (.blk b298 (enc (FlushR.mk a0 rs_a0_2)) 71) :: (.blk b268 (enc (FlushR.mk y270 rs271)) 71) :: (.blk b156 (enc r152.1) 68) :: (.blk b62 (enc rs51) 69) :: (.rows (α := Int) 3 ((Vector.replicate 6 ⟨[], Sl.nil⟩ : Vector (LR Int) 6).toList)) :: (.blk b58 (enc (FlushR.mk r46.1 rs48)) 71) :: (.blk b44 (enc (FlushR.mk r35.1 rs37)) 71) :: (.blk b33 (enc (FlushR.mk r24.1 rs26)) 71) :: (.blk b22 (enc (FlushR.mk r13.1 rs15)) 71) :: (.blk b11 (enc (FlushR.mk Flush.zero (Vector.replicate 6 ⟨[], Sl.nil⟩ : Vector (LR Int) 6))) 71) :: (.blk b1 (enc (FlushR.mk a0 rs_a0_2)) 71) :: L) (fun _ y307 => y307 = o306) ?_ ?_
  ·rcases Bool.eq_false_or_eq_true (decide (a3 < (0 : Int))) with hb308 | hb308
   ·replace H := ite_t hb308 H
    refine Lst.skip rfl rfl rfl hb308 rfl (by decide) ?_
    refine Lst.skip rfl rfl rfl hb308 rfl (by decide) ?_
    refine Lst.r (Ev.pickT rfl hb308 rfl) ?_
    refine Lst.nil ?_
    exact At.meet true (FLe.refl _) ⟨rfl, rfl, rfl, rfl, rfl, rfl, rfl, rfl, rfl, trivial⟩ rfl (some_inj H)
   replace H := ite_f hb308 H
   refine Lst.rG hb308 (Ev.move rfl) ?_
   refine Lst.rG hb308 (Ev.gtr rfl rfl) ?_
   refine Lst.r (Ev.pickF rfl hb308 rfl) ?_
   refine Lst.nil ?_
   exact At.meet (decide (a3 > (29 : Int))) (FLe.refl _) ⟨rfl, rfl, rfl, rfl, rfl, rfl, rfl, rfl, rfl, trivial⟩ rfl (some_inj H)
  rintro F309 y307 hF310 hy
  subst hy
  refine Lst.as (e' := [(2, iv a2), (3, iv a3), (5, pv b1 0), (12, pv b11 0), (15, pv b33 0), (16, iv r24.2), (26, pv b298 0), (27, iv (0 : Int)), (222, .bool y307)]) (L' := (.blk b298 (enc (FlushR.mk a0 rs_a0_2)) 71) :: (.blk b268 (enc (FlushR.mk y270 rs271)) 71) :: (.blk b156 (enc r152.1) 68) :: (.blk b62 (enc rs51) 69) :: (.rows (α := Int) 3 ((Vector.replicate 6 ⟨[], Sl.nil⟩ : Vector (LR Int) 6).toList)) :: (.blk b58 (enc (FlushR.mk r46.1 rs48)) 71) :: (.blk b44 (enc (FlushR.mk r35.1 rs37)) 71) :: (.blk b33 (enc (FlushR.mk r24.1 rs26)) 71) :: (.blk b22 (enc (FlushR.mk r13.1 rs15)) 71) :: (.blk b11 (enc (FlushR.mk Flush.zero (Vector.replicate 6 ⟨[], Sl.nil⟩ : Vector (LR Int) 6))) 71) :: (.blk b1 (enc (FlushR.mk a0 rs_a0_2)) 71) :: L) ⟨rfl, rfl, rfl, rfl, rfl, rfl, rfl, rfl, rfl, trivial⟩ rfl ?_
  replace H := HKo306
  refine Lst.r (Ev.assign rfl) ?_
  refine Lst.nil ?_
  refine At.then ?_
  rcases Bool.eq_false_or_eq_true y307 with hb311 | hb311
  ·replace H := ite_t hb311 H
   refine Cd.condT rfl hb311 ?_
   refine Cd.region ?_
   refine Lst.r (Ev.assign rfl) ?_
   refine Lst.nil ?_
   refine At.in_normal ?_
   exact At.meet ((1 : Int), a0, rs_a0_2) hF310 ⟨rfl, rfl, rfl, rfl, rfl, trivial⟩ rfl ⟨some_inj H, hm_a0_2, (All.monoLR ha_a0_2 (FLe.trans (FLe.trans (FLe.trans (FLe.trans (FLe.trans (FLe.trans (FLe.trans (FLe.trans (FLe.trans hF19 hF30) hF41) hF55) hF97) hF236) hF241) hF285) hF294) hF310) (.refl _))⟩
  replace H := ite_f hb311 H
  refine Cd.condF rfl hb311 ?_
  refine Cd.seq ?_
  refine Cd.region ?_
  refine Lst.r (Ev.fieldAddr (off' := 0) rfl Try.runUnderlying71 rfl Try.sizeOf68 rfl rfl) ?_
  refine Lst.r (Ev.fieldAddr (off' := 1) rfl Try.runUnderlying68 rfl Try.sizeOf5 rfl rfl) ?_
  refine Lst.r (Ev.load (i := 10) rfl rfl Try.isAgg5 (v := .int .u8 a0.View_.Members.toNat) ((FlushR.get_View_ (View.get_Members (Get.here _))).off (by rfl))) ?_
  refine Lst.r (Ev.move rfl) ?_
  obtain ⟨n312, h313, H⟩ := bind_some H
  refine Lst.r (Ev.shrU8 (i := a0.View_.Members) (m := n312) rfl (congrArg some (congrArg (Value.int .i64) (cnt_some h313)))) ?_
  refine Lst.r (Ev.remU8 (i := a0.View_.Members >>> n312) (j := (2 : BitVec 8)) rfl rfl (by decide)) ?_
  refine Lst.r (Ev.eql rfl rfl) ?_
  refine Lst.r (Ev.move rfl) ?_
  obtain ⟨o315, H, HKo315⟩ := bind_some H
  refine Lst.join (σ := Bool) 7 (fun y316 => [(2, iv a2), (3, iv a3), (5, pv b1 0), (12, pv b11 0), (15, pv b33 0), (16, iv r24.2), (26, pv b298 0), (27, iv (0 : Int)), (238, .bool y316)]) (fun y316 => (.blk b298 (enc (FlushR.mk a0 rs_a0_2)) 71) :: (.blk b268 (enc (FlushR.mk y270 rs271)) 71) :: (.blk b156 (enc r152.1) 68) :: (.blk b62 (enc rs51) 69) :: (.rows (α := Int) 3 ((Vector.replicate 6 ⟨[], Sl.nil⟩ : Vector (LR Int) 6).toList)) :: (.blk b58 (enc (FlushR.mk r46.1 rs48)) 71) :: (.blk b44 (enc (FlushR.mk r35.1 rs37)) 71) :: (.blk b33 (enc (FlushR.mk r24.1 rs26)) 71) :: (.blk b22 (enc (FlushR.mk r13.1 rs15)) 71) :: (.blk b11 (enc (FlushR.mk Flush.zero (Vector.replicate 6 ⟨[], Sl.nil⟩ : Vector (LR Int) 6))) 71) :: (.blk b1 (enc (FlushR.mk a0 rs_a0_2)) 71) :: L) (fun _ y316 => y316 = o315) ?_ ?_
  ·rcases Bool.eq_false_or_eq_true ((((a0.View_.Members >>> n312) % (2 : BitVec 8)).toNat : Int) == ((0 : BitVec 8).toNat : Int)) with hb317 | hb317
   ·replace H := ite_t hb317 H
    refine Lst.skip rfl rfl rfl hb317 rfl (by decide) ?_
    refine Lst.skip rfl rfl rfl hb317 rfl (by decide) ?_
    refine Lst.skip rfl rfl rfl hb317 rfl (by decide) ?_
    refine Lst.skip rfl rfl rfl hb317 rfl (by decide) ?_
    refine Lst.skip rfl rfl rfl hb317 rfl (by decide) ?_
    refine Lst.skip rfl rfl rfl hb317 rfl (by decide) ?_
    refine Lst.r (Ev.pickT rfl hb317 rfl) ?_
    refine Lst.nil ?_
    exact At.meet true (FLe.refl _) ⟨rfl, rfl, rfl, rfl, rfl, rfl, rfl, rfl, rfl, trivial⟩ rfl (some_inj H)
   replace H := ite_f hb317 H
   refine Lst.rG hb317 (Ev.fieldAddr (off' := 2) rfl Try.runUnderlying71 rfl Try.sizeOf5 rfl rfl) ?_
   refine Lst.rG hb317 (Ev.load (i := 10) rfl rfl Try.isAgg5 (v := .int .u8 a0.Gone.toNat) ((FlushR.get_Gone (Get.here _)).off (by rfl))) ?_
   refine Lst.rG hb317 (Ev.move rfl) ?_
   obtain ⟨n318, h319, H⟩ := bind_some H
   refine Lst.rG hb317 (Ev.shrU8 (i := a0.Gone) (m := n318) rfl (congrArg some (congrArg (Value.int .i64) (cnt_some h319)))) ?_
   refine Lst.rG hb317 (Ev.remU8 (i := a0.Gone >>> n318) (j := (2 : BitVec 8)) rfl rfl (by decide)) ?_
   refine Lst.rG hb317 (Ev.eql rfl rfl) ?_
   refine Lst.r (Ev.pickF rfl hb317 rfl) ?_
   refine Lst.nil ?_
   exact At.meet ((((a0.Gone >>> n318) % (2 : BitVec 8)).toNat : Int) == ((1 : BitVec 8).toNat : Int)) (FLe.refl _) ⟨rfl, rfl, rfl, rfl, rfl, rfl, rfl, rfl, rfl, trivial⟩ rfl (some_inj H)
  rintro F321 y316 hF322 hy
  subst hy
  refine Lst.as (e' := [(2, iv a2), (3, iv a3), (5, pv b1 0), (12, pv b11 0), (15, pv b33 0), (16, iv r24.2), (26, pv b298 0), (27, iv (0 : Int)), (238, .bool y316)]) (L' := (.blk b298 (enc (FlushR.mk a0 rs_a0_2)) 71) :: (.blk b268 (enc (FlushR.mk y270 rs271)) 71) :: (.blk b156 (enc r152.1) 68) :: (.blk b62 (enc rs51) 69) :: (.rows (α := Int) 3 ((Vector.replicate 6 ⟨[], Sl.nil⟩ : Vector (LR Int) 6).toList)) :: (.blk b58 (enc (FlushR.mk r46.1 rs48)) 71) :: (.blk b44 (enc (FlushR.mk r35.1 rs37)) 71) :: (.blk b33 (enc (FlushR.mk r24.1 rs26)) 71) :: (.blk b22 (enc (FlushR.mk r13.1 rs15)) 71) :: (.blk b11 (enc (FlushR.mk Flush.zero (Vector.replicate 6 ⟨[], Sl.nil⟩ : Vector (LR Int) 6))) 71) :: (.blk b1 (enc (FlushR.mk a0 rs_a0_2)) 71) :: L) ⟨rfl, rfl, rfl, rfl, rfl, rfl, rfl, rfl, rfl, trivial⟩ rfl ?_
  replace H := HKo315
  refine Lst.r (Ev.assign rfl) ?_
  refine Lst.nil ?_
  refine At.then ?_
  rcases Bool.eq_false_or_eq_true y316 with hb323 | hb323
  ·replace H := ite_t hb323 H
   refine Cd.condT rfl hb323 ?_
   refine Cd.region ?_
   refine Lst.r (Ev.assign rfl) ?_
   refine Lst.nil ?_
   refine At.in_normal ?_
   exact At.meet ((11 : Int), a0, rs_a0_2) (FLe.trans hF310 hF322) ⟨rfl, rfl, rfl, rfl, rfl, trivial⟩ rfl ⟨some_inj H, hm_a0_2, (All.monoLR ha_a0_2 (FLe.trans (FLe.trans (FLe.trans (FLe.trans (FLe.trans (FLe.trans (FLe.trans (FLe.trans (FLe.trans (FLe.trans hF19 hF30) hF41) hF55) hF97) hF236) hF241) hF285) hF294) hF310) hF322) (.refl _))⟩
  replace H := ite_f hb323 H
  refine Cd.condF rfl hb323 ?_
  refine Cd.seq ?_
  refine Cd.region ?_
  refine Lst.r (Ev.move rfl) ?_
  refine Lst.r (Ev.fieldAddr (off' := 3) rfl Try.runUnderlying71 rfl Try.sizeOf69 rfl rfl) ?_
  obtain ⟨x324, h325, H⟩ := bind_some H
  have g326 := vat_some h325
  obtain ⟨⟨r327v, r327h⟩, r327g, r327e, r327m, r327l⟩ := vmap_get hm_a0_2 g326.2.2
  obtain rfl : x324 = r327v := r327e.symm
  have r327q : Rd w0 _ _ r327h x324 := ha_a0_2 _ r327m
  refine Lst.r (Ev.indexAddr (off' := 3 + a2.toNat * 1) rfl rfl Try.runUnderlying69 Try.sizeOf36 g326.1 g326.2.1 rfl) ?_
  refine Lst.r (Ev.load (i := 10) rfl rfl Try.isAgg36 (v := Sl.v r327h) ((FlushR.get_Told (p := (FlushR.mk a0 rs_a0_2)) (Get.vecN (s := 1) rfl r327g (Get.here _))).off (by omega))) ?_
  refine Lst.r (Ev.move rfl) ?_
  obtain ⟨r328, h329, H⟩ := bind_some H
  refine Lst.call1 rfl rfl (by decide) (vs := [Sl.v r327h, iv a3]) ⟨rfl, rfl, trivial⟩ Try.call50 (slices_Contains_int_int_sim h329 w0 _ M _ (sc8 (sc2 (sc1 hM))) (r327q.mono (FLe.trans (FLe.trans (FLe.trans (FLe.trans (FLe.trans (FLe.trans (FLe.trans (FLe.trans (FLe.trans (FLe.trans hF19 hF30) hF41) hF55) hF97) hF236) hF241) hF285) hF294) hF310) hF322) (.refl _))) ?_
  refine Lst.r (Ev.assign rfl) ?_
  refine Lst.nil ?_
  refine At.then ?_
  rcases Bool.eq_false_or_eq_true r328 with hb332 | hb332
  ·replace H := ite_t hb332 H
   refine Cd.condT rfl hb332 ?_
   refine Cd.region ?_
   refine Lst.r (Ev.assign rfl) ?_
   refine Lst.nil ?_
   refine At.in_normal ?_
   exact At.meet ((7 : Int), a0, rs_a0_2) (FLe.trans hF310 hF322) ⟨rfl, rfl, rfl, rfl, rfl, trivial⟩ rfl ⟨some_inj H, hm_a0_2, (All.monoLR ha_a0_2 (FLe.trans (FLe.trans (FLe.trans (FLe.trans (FLe.trans (FLe.trans (FLe.trans (FLe.trans (FLe.trans (FLe.trans hF19 hF30) hF41) hF55) hF97) hF236) hF241) hF285) hF294) hF310) hF322) (.refl _))⟩
  replace H := ite_f hb332 H
  refine Cd.condF rfl hb332 ?_
  refine Cd.region ?_
  refine Lst.r (Ev.move rfl) ?_
  refine Lst.r (Ev.move rfl) ?_
  refine Lst.r (Ev.fieldAddr (off' := 3) rfl Try.runUnderlying71 rfl Try.sizeOf69 rfl rfl) ?_
  obtain ⟨x333, h334, H⟩ := bind_some H
  have g335 := vat_some h334
  obtain ⟨⟨r336v, r336h⟩, r336g, r336e, r336m, r336l⟩ := vmap_get hm_a0_2 g335.2.2
  obtain rfl : x333 = r336v := r336e.symm
  have r336q : Rd w0 _ _ r336h x333 := ha_a0_2 _ r336m
  refine Lst.r (Ev.indexAddr (off' := 3 + a2.toNat * 1) rfl rfl Try.runUnderlying69 Try.sizeOf36 g335.1 g335.2.1 rfl) ?_
  refine Lst.r (Ev.load (i := 10) rfl rfl Try.isAgg36 (v := Sl.v r336h) ((FlushR.get_Told (p := (FlushR.mk a0 rs_a0_2)) (Get.vecN (s := 1) rfl r336g (Get.here _))).off (by omega))) ?_
  refine Lst.r (Ev.move rfl) ?_
  refine Lst.buildSlice (α := Int) (xs := ([a3] : List Int)) (pv := [(0, iv a3)]) rfl rfl (by decide) ⟨rfl, rfl, trivial⟩ (run_buildSlice (α := Int) (z0 := (0 : Int)) (xs := ([a3] : List Int)) Try.runUnderlying36 Try.sizeOf3 Try.zeroValue3 rfl rfl rfl (by decide) rfl (fill_cons (cs := encs (List.replicate 1 (0 : Int))) (cs' := encs ((List.replicate 1 (0 : Int)).set 0 a3)) (vs := [iv a3]) rfl rfl rfl ((Put.elemN (s := 1) (i := 0) (x := (0 : Int)) (y := a3) rfl rfl (Put.here (vs := [iv a3]) rfl)).off rfl) fill_nil)) rfl rfl (by decide) (fun s337 _ => ?_)
  refine Lst.freeze (i := 0) rfl (fun F339 hF340 hz341 => ?_)
  have hq342 : Rd w0 F339 [] s337 ([a3] : List Int) := Rd.frozen hz341 rfl rfl
  refine Lst.its (L' := (.blk b298 (enc (FlushR.mk a0 rs_a0_2)) 71) :: (.blk b268 (enc (FlushR.mk y270 rs271)) 71) :: (.blk b156 (enc r152.1) 68) :: (.blk b62 (enc rs51) 69) :: (.rows (α := Int) 3 ((Vector.replicate 6 ⟨[], Sl.nil⟩ : Vector (LR Int) 6).toList)) :: (.blk b58 (enc (FlushR.mk r46.1 rs48)) 71) :: (.blk b44 (enc (FlushR.mk r35.1 rs37)) 71) :: (.blk b33 (enc (FlushR.mk r24.1 rs26)) 71) :: (.blk b22 (enc (FlushR.mk r13.1 rs15)) 71) :: (.blk b11 (enc (FlushR.mk Flush.zero (Vector.replicate 6 ⟨[], Sl.nil⟩ : Vector (LR Int) 6))) 71) :: (.blk b1 (enc (FlushR.mk a0 rs_a0_2)) 71) :: L) rfl ?_
  have hm345 : ([(LR.mk x333 r336h), (LR.mk ([a3] : List Int) s337)] : List (LR Int)).map LR.v = ([x333, ([a3] : List Int)] : List (List Int)) := rfl
  have ha346 : All LR.rel w0 F339 M ([(LR.mk x333 r336h), (LR.mk ([a3] : List Int) s337)] : List (LR Int)) := All.of2 (r336q.mono (FLe.trans (FLe.trans (FLe.trans (FLe.trans (FLe.trans (FLe.trans (FLe.trans (FLe.trans (FLe.trans (FLe.trans (FLe.trans hF19 hF30) hF41) hF55) hF97) hF236) hF241) hF285) hF294) hF310) hF322) hF340) (.refl _)) (hq342.mono (FLe.refl _) (List.nil_sublist _))
  refine Lst.buildSlice (α := LR Int) (xs := ([(LR.mk x333 r336h), (LR.mk ([a3] : List Int) s337)] : List (LR Int))) (pv := [(0, Sl.v r336h), (1, Sl.v s337)]) rfl rfl (by decide) ⟨rfl, rfl, ⟨rfl, rfl, trivial⟩⟩ (run_buildSlice (α := LR Int) (z0 := ((LR.mk [] Sl.nil) : LR Int)) (xs := ([(LR.mk x333 r336h), (LR.mk ([a3] : List Int) s337)] : List (LR Int))) Try.runUnderlying57 Try.sizeOf36 Try.zeroValue36 rfl rfl rfl (by decide) rfl (fill_cons (cs := encs (List.replicate 2 ((LR.mk [] Sl.nil) : LR Int))) (cs' := encs ((List.replicate 2 ((LR.mk [] Sl.nil) : LR Int)).set 0 (LR.mk x333 r336h))) (vs := [Sl.v r336h]) rfl rfl rfl ((Put.elemN (s := 1) (i := 0) (x := ((LR.mk [] Sl.nil) : LR Int)) (y := (LR.mk x333 r336h)) rfl rfl (Put.here (vs := [Sl.v r336h]) rfl)).off rfl) (fill_cons (cs := encs ((List.replicate 2 ((LR.mk [] Sl.nil) : LR Int)).set 0 (LR.mk x333 r336h))) (cs' := encs (((List.replicate 2 ((LR.mk [] Sl.nil) : LR Int)).set 0 (LR.mk x333 r336h)).set 1 (LR.mk ([a3] : List Int) s337))) (vs := [Sl.v s337]) rfl rfl rfl ((Put.elemN (s := 1) (i := 1) (x := ((LR.mk [] Sl.nil) : LR Int)) (y := (LR.mk ([a3] : List Int) s337)) rfl rfl (Put.here (vs := [Sl.v s337]) rfl)).off rfl) fill_nil))) rfl rfl (by decide) (fun s343 _ => ?_)
  obtain ⟨r347, h348, H⟩ := bind_some H
  refine Lst.call rfl rfl (by decide) (vs := [Sl.v s343]) ⟨rfl, trivial⟩ Try.call51 (slices_Concat_int_int_sim h348 w0 _ _ _ (.refl _) hm345 (Rd.own (i := 0) rfl rfl rfl) (All.monoLR ha346 (FLe.refl _) (sc8 (sc4 hM)))) (fun F351 L' v hF352 hv => ?_)
  obtain ⟨s349, rfl, rfl⟩ := hv
  refine Lst.r (Ev.fieldAddr (off' := 3) rfl Try.runUnderlying71 rfl Try.sizeOf69 rfl rfl) ?_
  obtain ⟨x353, h354, H⟩ := bind_some H
  have g355 := vat_some h354
  obtain ⟨⟨r356v, r356h⟩, r356g, r356e, r356m, r356l⟩ := vmap_get hm_a0_2 g355.2.2
  obtain rfl : x353 = r356v := r356e.symm
  have r356q : Rd w0 _ _ r356h x353 := ha_a0_2 _ r356m
  refine Lst.r (Ev.indexAddr (off' := 3 + a2.toNat * 1) rfl rfl Try.runUnderlying69 Try.sizeOf36 g355.1 g355.2.1 rfl) ?_
  obtain ⟨p361, h362, H⟩ := Let_some H
  refine Lst.freeze (i := 0) rfl (fun F357 hF358 hz359 => ?_)
  have hq360 : Rd w0 F357 [] s349 r347 := Rd.frozen hz359 rfl rfl
  refine Lst.its (L' := (.own s343 36 1 (encs ([(LR.mk x333 r336h), (LR.mk ([a3] : List Int) s337)] : List (LR Int)))) :: (.blk b298 (enc (FlushR.mk a0 rs_a0_2)) 71) :: (.blk b268 (enc (FlushR.mk y270 rs271)) 71) :: (.blk b156 (enc r152.1) 68) :: (.blk b62 (enc rs51) 69) :: (.rows (α := Int) 3 ((Vector.replicate 6 ⟨[], Sl.nil⟩ : Vector (LR Int) 6).toList)) :: (.blk b58 (enc (FlushR.mk r46.1 rs48)) 71) :: (.blk b44 (enc (FlushR.mk r35.1 rs37)) 71) :: (.blk b33 (enc (FlushR.mk r24.1 rs26)) 71) :: (.blk b22 (enc (FlushR.mk r13.1 rs15)) 71) :: (.blk b11 (enc (FlushR.mk Flush.zero (Vector.replicate 6 ⟨[], Sl.nil⟩ : Vector (LR Int) 6))) 71) :: (.blk b1 (enc (FlushR.mk a0 rs_a0_2)) 71) :: L) rfl ?_
  have hm363 : (rs_a0_2.setIfInBounds a2.toNat (LR.mk r347 s349)).toList.map LR.v = p361.toList := (vmap_set hm_a0_2 _ _).trans (congrArg Vector.toList h362)
  have ha364 : All LR.rel w0 F357 M (rs_a0_2.setIfInBounds a2.toNat (LR.mk r347 s349)).toList := vAll_set (All.monoLR ha_a0_2 (FLe.trans (FLe.trans (FLe.trans (FLe.trans (FLe.trans (FLe.trans (FLe.trans (FLe.trans (FLe.trans (FLe.trans (FLe.trans (FLe.trans (FLe.trans hF19 hF30) hF41) hF55) hF97) hF236) hF241) hF285) hF294) hF310) hF322) hF340) hF352) hF358) (.refl _)) ((hq360.mono (FLe.refl _) (List.nil_sublist _)))
  refine Lst.store (i := 1) rfl rfl rfl rfl rfl Try.sizeOf36 (vs := [Sl.v s349]) rfl rfl rfl (cs' := enc (FlushR.mk ({ a0 with Told := p361 } : Flush) (rs_a0_2.setIfInBounds a2.toNat (LR.mk r347 s349)))) ((FlushR.put_Told (l := p361) (Put.vecN (s := 1) (y := (LR.mk r347 s349)) rfl r356g (Put.here (vs := [Sl.v s349]) rfl))).off (by omega)) (L' := (.own s343 36 1 (encs ([(LR.mk x333 r336h), (LR.mk ([a3] : List Int) s337)] : List (LR Int)))) :: (.blk b298 (enc (FlushR.mk ({ a0 with Told := p361 } : Flush) (rs_a0_2.setIfInBounds a2.toNat (LR.mk r347 s349)))) 71) :: (.blk b268 (enc (FlushR.mk y270 rs271)) 71) :: (.blk b156 (enc r152.1) 68) :: (.blk b62 (enc rs51) 69) :: (.rows (α := Int) 3 ((Vector.replicate 6 ⟨[], Sl.nil⟩ : Vector (LR Int) 6).toList)) :: (.blk b58 (enc (FlushR.mk r46.1 rs48)) 71) :: (.blk b44 (enc (FlushR.mk r35.1 rs37)) 71) :: (.blk b33 (enc (FlushR.mk r24.1 rs26)) 71) :: (.blk b22 (enc (FlushR.mk r13.1 rs15)) 71) :: (.blk b11 (enc (FlushR.mk Flush.zero (Vector.replicate 6 ⟨[], Sl.nil⟩ : Vector (LR Int) 6))) 71) :: (.blk b1 (enc (FlushR.mk a0 rs_a0_2)) 71) :: L) rfl ?_
  refine Lst.nil ?_
  refine At.in_normal ?_
  refine At.less (L' := (.blk b298 (enc (FlushR.mk ({ a0 with Told := p361 } : Flush) (rs_a0_2.setIfInBounds a2.toNat (LR.mk r347 s349)))) 71) :: (.blk b268 (enc (FlushR.mk y270 rs271)) 71) :: (.blk b156 (enc r152.1) 68) :: (.blk b62 (enc rs51) 69) :: (.rows (α := Int) 3 ((Vector.replicate 6 ⟨[], Sl.nil⟩ : Vector (LR Int) 6).toList)) :: (.blk b58 (enc (FlushR.mk r46.1 rs48)) 71) :: (.blk b44 (enc (FlushR.mk r35.1 rs37)) 71) :: (.blk b33 (enc (FlushR.mk r24.1 rs26)) 71) :: (.blk b22 (enc (FlushR.mk r13.1 rs15)) 71) :: (.blk b11 (enc (FlushR.mk Flush.zero (Vector.replicate 6 ⟨[], Sl.nil⟩ : Vector (LR Int) 6))) 71) :: (.blk b1 (enc (FlushR.mk a0 rs_a0_2)) 71) :: L) (sc1 (sk1 (sk1 (sk1 (sk1 (sk1 (sk1 (sk1 (sk1 (sk1 (sk1 (sk1 (.refl _))))))))))))) ?_
  exact At.meet ((0 : Int), ({ a0 with Told := p361 } : Flush), (rs_a0_2.setIfInBounds a2.toNat (LR.mk r347 s349))) (FLe.trans (FLe.trans (FLe.trans (FLe.trans hF310 hF322) hF340) hF352) hF358) ⟨rfl, rfl, rfl, rfl, rfl, trivial⟩ rfl ⟨some_inj H, hm363, (All.monoLR ha364 (FLe.refl _) (.refl _))⟩
 rintro F365 ⟨y300, y301, rs302⟩ hF366 ⟨hy, fm303, fa304⟩
 subst hy
 refine Cd.as (e' := [(12, pv b11 0), (15, pv b33 0), (16, iv r24.2), (26, pv b298 0), (27, iv y300)]) (L' := (.blk b298 (enc (FlushR.mk y301 rs302)) 71) :: (.blk b268 (enc (FlushR.mk y270 rs271)) 71) :: (.blk b156 (enc r152.1) 68) :: (.blk b62 (enc rs51) 69) :: (.rows (α := Int) 3 ((Vector.replicate 6 ⟨[], Sl.nil⟩ : Vector (LR Int) 6).toList)) :: (.blk b58 (enc (FlushR.mk r46.1 rs48)) 71) :: (.blk b44 (enc (FlushR.mk r35.1 rs37)) 71) :: (.blk b33 (enc (FlushR.mk r24.1 rs26)) 71) :: (.blk b22 (enc (FlushR.mk r13.1 rs15)) 71) :: (.blk b11 (enc (FlushR.mk Flush.zero (Vector.replicate 6 ⟨[], Sl.nil⟩ : Vector (LR Int) 6))) 71) :: (.blk b1 (enc (FlushR.mk a0 rs_a0_2)) 71) :: L) ⟨rfl, rfl, rfl, rfl, rfl, trivial⟩ rfl ?_
 replace H := HKo305
 obtain ⟨o371, H, HKo371⟩ := bind_some H
 refine Cd.join (σ := Flush × (Vector (LR Int) 6)) (fun (y367, rs368) => [(15, pv b33 0), (16, iv r24.2), (26, pv b298 0), (27, iv y300)]) (fun (y367, rs368) => (.blk b298 (enc (FlushR.mk y367 rs368)) 71) :: (.blk b268 (enc (FlushR.mk y270 rs271)) 71) :: (.blk b156 (enc r152.1) 68) :: (.blk b62 (enc rs51) 69) :: (.rows (α := Int) 3 ((Vector.replicate 6 ⟨[], Sl.nil⟩ : Vector (LR Int) 6).toList)) :: (.blk b58 (enc (FlushR.mk r46.1 rs48)) 71) :: (.blk b44 (enc (FlushR.mk r35.1 rs37)) 71) :: (.blk b33 (enc (FlushR.mk r24.1 rs26)) 71) :: (.blk b22 (enc (FlushR.mk r13.1 rs15)) 71) :: (.blk b11 (enc (FlushR.mk Flush.zero (Vector.replicate 6 ⟨[], Sl.nil⟩ : Vector (LR Int) 6))) 71) :: (.blk b1 (enc (FlushR.mk a0 rs_a0_2)) 71) :: L) (fun Fx (y367, rs368) => y367 = o371 ∧ rs368.toList.map LR.v = y367.Told.toList ∧ All LR.rel w0 Fx M rs368.toList) ?_ ?_
 ·refine Cd.seq ?_
  refine Cd.region ?_
  refine Lst.r (Ev.move rfl) ?_
  refine Lst.r (Ev.neq rfl rfl) ?_
  refine Lst.nil ?_
  refine At.then ?_
  rcases (Bool.eq_false_or_eq_true (y300 != (0 : Int))).symm with hb372 | hb372
  ·replace H := ite_f hb372 H
   refine Cd.condF rfl hb372 ?_
   refine Cd.skip ?_
   exact At.meet (y301, rs302) (FLe.refl _) ⟨rfl, rfl, rfl, rfl, trivial⟩ rfl ⟨some_inj H, fm303, (All.monoLR fa304 (FLe.refl _) (.refl _))⟩
  replace H := ite_t hb372 H
  refine Cd.condT rfl hb372 ?_
  refine Cd.region ?_
  refine Lst.r (Ev.loadA (i := 9) rfl rfl Try.isAgg71 Try.sizeOf71 (ch := enc (FlushR.mk Flush.zero (Vector.replicate 6 ⟨[], Sl.nil⟩ : Vector (LR Int) 6))) (Enc.len _) (Get.here _)) ?_
  refine Lst.store (i := 0) rfl rfl rfl rfl rfl Try.sizeOf71 (vs := enc (FlushR.mk Flush.zero (Vector.replicate 6 ⟨[], Sl.nil⟩ : Vector (LR Int) 6))) rfl (Enc.len _) (Enc.one _) (cs' := enc (FlushR.mk Flush.zero (Vector.replicate 6 ⟨[], Sl.nil⟩ : Vector (LR Int) 6))) (Put.here ((Enc.len _).trans (Enc.len _).symm)) (L' := (.blk b298 (enc (FlushR.mk Flush.zero (Vector.replicate 6 ⟨[], Sl.nil⟩ : Vector (LR Int) 6))) 71) :: (.blk b268 (enc (FlushR.mk y270 rs271)) 71) :: (.blk b156 (enc r152.1) 68) :: (.blk b62 (enc rs51) 69) :: (.rows (α := Int) 3 ((Vector.replicate 6 ⟨[], Sl.nil⟩ : Vector (LR Int) 6).toList)) :: (.blk b58 (enc (FlushR.mk r46.1 rs48)) 71) :: (.blk b44 (enc (FlushR.mk r35.1 rs37)) 71) :: (.blk b33 (enc (FlushR.mk r24.1 rs26)) 71) :: (.blk b22 (enc (FlushR.mk r13.1 rs15)) 71) :: (.blk b11 (enc (FlushR.mk Flush.zero (Vector.replicate 6 ⟨[], Sl.nil⟩ : Vector (LR Int) 6))) 71) :: (.blk b1 (enc (FlushR.mk a0 rs_a0_2)) 71) :: L) rfl ?_
  refine Lst.nil ?_
  exact At.meet (Flush.zero, (Vector.replicate 6 ⟨[], Sl.nil⟩ : Vector (LR Int) 6)) (FLe.refl _) ⟨rfl, rfl, rfl, rfl, trivial⟩ rfl ⟨some_inj H, hm7, (All.monoLR ha8 (FLe.trans (FLe.trans (FLe.trans (FLe.trans (FLe.trans (FLe.trans (FLe.trans (FLe.trans (FLe.trans hF19 hF30) hF41) hF55) hF97) hF236) hF241) hF285) hF294) hF366) (List.nil_sublist _))⟩
 rintro F373 ⟨y367, rs368⟩ hF374 ⟨hy, fm369, fa370⟩
 subst hy
 refine Cd.as (e' := [(15, pv b33 0), (16, iv r24.2), (26, pv b298 0), (27, iv y300)]) (L' := (.blk b298 (enc (FlushR.mk y367 rs368)) 71) :: (.blk b268 (enc (FlushR.mk y270 rs271)) 71) :: (.blk b156 (enc r152.1) 68) :: (.blk b62 (enc rs51) 69) :: (.rows (α := Int) 3 ((Vector.replicate 6 ⟨[], Sl.nil⟩ : Vector (LR Int) 6).toList)) :: (.blk b58 (enc (FlushR.mk r46.1 rs48)) 71) :: (.blk b44 (enc (FlushR.mk r35.1 rs37)) 71) :: (.blk b33 (enc (FlushR.mk r24.1 rs26)) 71) :: (.blk b22 (enc (FlushR.mk r13.1 rs15)) 71) :: (.blk b11 (enc (FlushR.mk Flush.zero (Vector.replicate 6 ⟨[], Sl.nil⟩ : Vector (LR Int) 6))) 71) :: (.blk b1 (enc (FlushR.mk a0 rs_a0_2)) 71) :: L) ⟨rfl, rfl, rfl, rfl, trivial⟩ rfl ?_
 replace H := HKo371
 refine Cd.seq ?_
 refine Cd.region ?_
 refine Lst.r (Ev.loadA (i := 7) rfl rfl Try.isAgg71 Try.sizeOf71 (ch := enc (FlushR.mk r24.1 rs26)) (Enc.len _) (Get.here _)) ?_
 refine Lst.r (Ev.loadA (i := 0) rfl rfl Try.isAgg71 Try.sizeOf71 (ch := enc (FlushR.mk y367 rs368)) (Enc.len _) (Get.here _)) ?_
 obtain ⟨r375, h376, H⟩ := bind_some H
 refine Lst.call1 rfl rfl (by decide) (vs := [.agg (enc (FlushR.mk r24.1 rs26)).toArray, .agg (enc (FlushR.mk y367 rs368)).toArray]) ⟨rfl, rfl, trivial⟩ Try.call45 (partref_SameFlush_sim h376 w0 _ M _ (sc8 (sc2 (sc1 hM))) fm27 (All.monoLR fa28 (FLe.trans (FLe.trans (FLe.trans (FLe.trans (FLe.trans (FLe.trans (FLe.trans (FLe.trans hF41 hF55) hF97) hF236) hF241) hF285) hF294) hF366) hF374) (List.nil_sublist _)) fm369 (All.monoLR fa370 (FLe.refl _) (.refl _))) ?_
 refine Lst.r (Ev.move rfl) ?_
 obtain ⟨o379, H, HKo379⟩ := bind_some H
 refine Lst.join (σ := Bool) 4 (fun y380 => [(256, .bool y380)]) (fun y380 => (.blk b298 (enc (FlushR.mk y367 rs368)) 71) :: (.blk b268 (enc (FlushR.mk y270 rs271)) 71) :: (.blk b156 (enc r152.1) 68) :: (.blk b62 (enc rs51) 69) :: (.rows (α := Int) 3 ((Vector.replicate 6 ⟨[], Sl.nil⟩ : Vector (LR Int) 6).toList)) :: (.blk b58 (enc (FlushR.mk r46.1 rs48)) 71) :: (.blk b44 (enc (FlushR.mk r35.1 rs37)) 71) :: (.blk b33 (enc (FlushR.mk r24.1 rs26)) 71) :: (.blk b22 (enc (FlushR.mk r13.1 rs15)) 71) :: (.blk b11 (enc (FlushR.mk Flush.zero (Vector.replicate 6 ⟨[], Sl.nil⟩ : Vector (LR Int) 6))) 71) :: (.blk b1 (enc (FlushR.mk a0 rs_a0_2)) 71) :: L) (fun _ y380 => y380 = o379) ?_ ?_
 ·rcases (Bool.eq_false_or_eq_true r375).symm with hb381 | hb381
  ·replace H := ite_f hb381 H
   refine Lst.skip rfl rfl rfl hb381 rfl (by decide) ?_
   refine Lst.skip rfl rfl rfl hb381 rfl (by decide) ?_
   refine Lst.skip rfl rfl rfl hb381 rfl (by decide) ?_
   refine Lst.r (Ev.pickF rfl hb381 rfl) ?_
   refine Lst.nil ?_
   exact At.meet false (FLe.refl _) ⟨rfl, trivial⟩ rfl (some_inj H)
  replace H := ite_t hb381 H
  refine Lst.rG hb381 (Ev.move rfl) ?_
  refine Lst.rG hb381 (Ev.move rfl) ?_
  refine Lst.rG hb381 (Ev.eql rfl rfl) ?_
  refine Lst.r (Ev.pickT rfl hb381 rfl) ?_
  refine Lst.nil ?_
  exact At.meet (r24.2 == y300) (FLe.refl _) ⟨rfl, trivial⟩ rfl (some_inj H)
 rintro F382 y380 hF383 hy
 subst hy
 refine Lst.as (e' := [(256, .bool y380)]) (L' := (.blk b298 (enc (FlushR.mk y367 rs368)) 71) :: (.blk b268 (enc (FlushR.mk y270 rs271)) 71) :: (.blk b156 (enc r152.1) 68) :: (.blk b62 (enc rs51) 69) :: (.rows (α := Int) 3 ((Vector.replicate 6 ⟨[], Sl.nil⟩ : Vector (LR Int) 6).toList)) :: (.blk b58 (enc (FlushR.mk r46.1 rs48)) 71) :: (.blk b44 (enc (FlushR.mk r35.1 rs37)) 71) :: (.blk b33 (enc (FlushR.mk r24.1 rs26)) 71) :: (.blk b22 (enc (FlushR.mk r13.1 rs15)) 71) :: (.blk b11 (enc (FlushR.mk Flush.zero (Vector.replicate 6 ⟨[], Sl.nil⟩ : Vector (LR Int) 6))) 71) :: (.blk b1 (enc (FlushR.mk a0 rs_a0_2)) 71) :: L) ⟨rfl, trivial⟩ rfl ?_
 replace H := HKo379
 refine Lst.r (Ev.assign rfl) ?_
 refine Lst.nil ?_
 refine At.then ?_
 obtain rfl := some_inj H
 refine Cd.ret ?_
 exact At.ret1 rfl (Res.tmp rfl) (FLe.trans (FLe.trans (FLe.trans (FLe.trans (FLe.trans (FLe.trans (FLe.trans (FLe.trans (FLe.trans (FLe.trans (FLe.trans hF19 hF30) hF41) hF55) hF97) hF236) hF241) hF285) hF294) hF366) hF374) hF383) (sc1 (sc1 (sc1 (sc1 (sc1 (sc1 (sc1 (sc1 (sc1 (sc1 (sc1 (.refl _)))))))))))) ⟨rfl, rfl⟩
end Go.Proofs.Ytobikknjaomalaa
